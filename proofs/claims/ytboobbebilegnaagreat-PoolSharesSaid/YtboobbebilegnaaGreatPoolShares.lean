/-
  Proved: the law PoolShares returns true for every input, and what came in reads as it did. Conditions: none.
-/
import Derived.Test.YtboobbebilegnaaGreatRows
import Derived.Test.YtboobbebilegnaaGreatSrWalkC
import Derived.ProofKit
import Derived.ChangeBook
import Derived.ChangeSame
open Nat (reduceEqDiff reduceAdd reduceMul)
set_option linter.constructorNameAsVariable false
namespace Go.Proofs.YtboobbebilegnaaGreat
open Go.ChangeShapes Go.WideShapes Go.ChangeAt Go.RowKit Go.Am
set_option maxRecDepth 20000
theorem Tryz.own:ownKnob Tryz.prog.godebug=none:=by kernel_rfl
theorem Tryz.laidOut:laidOutB Tryz.prog=true:=by kernel_rfl
theorem zca:PrimsOk Tryz.prog (keepF Tryz.prog) prW:=Prims.or_ok za3 zfw
theorem zdP {H:Type} {enc:TypeId×Value->H} {t:TypeId} (hr:Tryz.prog.readableRec t=true) (hrow:t<Tryz.prog.types.size) {W W':World} (hh:∀ k,k<W.heap.size->W'.heap[k]?=W.heap[k]?) {v:Value} {d:DataW H} {p:List MemPlace}
  (h:DataW.Trod enc Tryz.prog W 0 (fun _=>true) true t v d p) (hlt:∀ x,x∈p->x.block<W.heap.size) {sp:Nat->Bool} (hs:∀ x,x∈p->sp x.block=true):DataW.Trod enc Tryz.prog W' 0 sp true t v d p:=by
 obtain ⟨n,hn⟩:=h
 refine ⟨n,DataW.trod_stays (kids_book Tryz.laidOut hr) (book_sized hr) (fun h=>by cases h) ⟨hrow,book_self t⟩ hn (fun x hx=>?_) hs⟩
 have h1:=hh x.block (hlt x hx)
 cases x with
 | cell b off=>show W'.cell? ⟨b,off,none⟩=W.cell? ⟨b,off,none⟩;unfold World.cell?;rw [show W'.heap[b]?=W.heap[b]? from h1]
 | map b=>exact h1
theorem zf {w w':World} (hos:w'.os=w.os) (hout:w'.output=w.output) (h:∀ k,k<w.heap.size->w'.heap[k]?=w.heap[k]?) (may:MemPlace->Prop):w.keptBut w' may:=by
 refine ⟨hos,hout,fun i hi=>?_⟩
 rw [h i hi]
 have hr:=(World.keptBut_refl w may).2.2 i hi
 exact hr
noncomputable def zeN:Array Field:=match Tryz.prog.underlying 26 with
 | some (.struct fs)=>fs
 | _=>#[]
noncomputable def zeO:Array Field:=match Tryz.prog.underlying 44 with
 | some (.struct fs)=>fs
 | _=>#[]
theorem zfD:Tryz.prog.underlying 26=some (.struct zeN):=by kernel_rfl
theorem zhk:Tryz.prog.underlying 44=some (.struct zeO):=by kernel_rfl
theorem zgS:zeN.toList.map (·.type)=[22,23,24]:=by kernel_rfl
theorem zgT:zeO.toList.map (·.type)=[41,42,4]:=by kernel_rfl
theorem zhf:Tryz.prog.underlying 22=some (.slice 44):=by kernel_rfl
theorem zhg:Tryz.prog.underlying 23=some (.int .u16):=by kernel_rfl
theorem zhh:Tryz.prog.underlying 24=some (.slice 3):=by kernel_rfl
theorem zhi:Tryz.prog.underlying 41=some (.slice 9):=by kernel_rfl
theorem zhj:Tryz.prog.underlying 42=some (.slice 5):=by kernel_rfl
theorem un4:Tryz.prog.underlying 4=some .bool:=by kernel_rfl
theorem un9:Tryz.prog.underlying 9=some .string:=by kernel_rfl
theorem un5:Tryz.prog.underlying 5=some (.int .u8):=by kernel_rfl
theorem zgd:Tryz.prog.cellsOf 44=3:=by kernel_rfl
theorem ce9:Tryz.prog.cellsOf 9=1:=by kernel_rfl
theorem ce5:Tryz.prog.cellsOf 5=1:=by kernel_rfl
theorem VM:i6 Tryz.prog 6 26=true:=by kernel_rfl
theorem nV {β : Type} {A:TypeId->List AV->Prop} {e:TypeId} {f:β->List AV} {B:β->Prop} (h:∀ a,A e a->∃ x,a=f x/\B x):∀ (n:Nat) (rows:List AV),ot Tryz.prog A (List.replicate n e) rows->∃ L:List β,L.length=n/\rows=L.flatMap f/\∀ x,x∈L->B x
 | 0,rows,hs=>⟨[],rfl,hs,(fun _ h=>by cases h)⟩
 | n+1,rows,hs=>by
  obtain ⟨a,b,rfl,_,ha,hb⟩:=hs
  obtain ⟨x,rfl,hx⟩:=h a ha
  obtain ⟨L,hl,rfl,hL⟩:=nV h n b hb
  exact ⟨x::L,by rw [List.length_cons,hl],rfl,fun y hy=>by
   rcases List.mem_cons.1 hy with rfl | hy
   ·exact hx
   ·exact hL y hy⟩
theorem yU {β : Type} {g:β->AV} (L:List β):L.flatMap (fun x=>[g x])=L.map g:=by
 induction L with
 | nil=>rfl
 | cons x L ih=>rw [List.flatMap_cons,ih];rfl
theorem Uk {h:ac} {n:Nat} {cs:List AV} (ha:fT Tryz.prog h (n+2) 41 cs):∃ (v:AV) (B:List (List Nat)),cs=[v]/\qO h v B/\∀ s,s∈B->∀ c,c∈s->c<256:=by
 unfold fT at ha
 rw [zhi] at ha
 obtain ⟨v,N,rows,rfl,he,hs⟩:=ha
 obtain ⟨B,hl,rfl,hB⟩:=nV (f:=fun s=>[AV.str s]) (B:=fun s=>∀ (i c:Nat),s[i]?=some c->c<256) (fun a ha=>by
  unfold fT at ha
  rw [un9] at ha
  exact ha) N rows hs
 rw [yU,ce9,← hl] at he
 exact ⟨v,B,rfl,he,fun s hs c hc=>by
  obtain ⟨i,hi⟩:=List.getElem?_of_mem hc
  exact hB s hs i c hi⟩
theorem Lr {h:ac} {n:Nat} {cs:List AV} (ha:fT Tryz.prog h (n+2) 42 cs):∃ (v:AV) (D:List Int),cs=[v]/\mX h v D.length 1 (D.map u8)/\∀ x,x∈D->0<=x/\x<=255:=by
 unfold fT at ha
 rw [zhj] at ha
 obtain ⟨v,N,rows,rfl,he,hs⟩:=ha
 obtain ⟨B,hl,rfl,hB⟩:=nV (f:=fun x=>[u8 x]) (B:=fun x=>0<=x/\x<=255) (fun a ha=>by
  unfold fT at ha
  rw [un5] at ha
  exact ha) N rows hs
 rw [yU,ce5,← hl] at he
 exact ⟨v,B,rfl,he,hB⟩
theorem Ul {h:ac} {n:Nat} {cs:List AV} (ha:fT Tryz.prog h (n+3) 44 cs):∃ t,cs=Tn.c t/\Az h t:=by
 unfold fT at ha
 rw [zhk] at ha
 simp only [zgT] at ha
 obtain ⟨a,b,c,rfl,h1,h2,h3⟩:=sQ ha
 obtain ⟨pv,B,rfl,hB,hb⟩:=Uk (n:=n) h1
 obtain ⟨dv,D,rfl,hD,hd⟩:=Lr (n:=n) h2
 unfold fT at h3
 rw [un4] at h3
 obtain ⟨lv,rfl⟩:=h3
 exact ⟨⟨pv,dv,B,D,lv⟩,rfl,⟨hB,hD,hb,hd⟩⟩
theorem Uj {h:ac} {cs:List AV} (ha:fT Tryz.prog h 6 26 cs):∃ lv cut cv T nc,cs=[lv,cut,cv]/\cut.one=true/\ku h lv cv T nc:=by
 unfold fT at ha
 rw [zfD] at ha
 simp only [zgS] at ha
 obtain ⟨a,b,c,rfl,h1,h2,h3⟩:=sQ ha
 unfold fT at h1 h2 h3
 rw [zhf] at h1
 rw [zhg] at h2
 rw [zhh] at h3
 obtain ⟨lv,N,rows,rfl,he,hs⟩:=h1
 obtain ⟨cut,rfl,_⟩:=h2
 obtain ⟨cv,M,_,rfl,hc,_⟩:=h3
 obtain ⟨T,hl,rfl,hT⟩:=nV (f:=Tn.c) (B:=Az h) (fun a ha=>Ul (n:=1) ha) N rows hs
 rw [zgd,← hl] at he
 obtain ⟨_,a,c,g,rfl,_⟩:=hc
 exact ⟨lv,_,_,T,M,rfl,rfl,⟨he,hT,⟨a,c,g,rfl⟩⟩⟩
theorem Tryz.func3q:Tryz.prog.funcs[3]?=some Tryz.f3:=by kernel_rfl
theorem Tryz.params3q:Tryz.f3.params.toList=[26]:=by kernel_rfl
theorem Tryz.params3a:Tryz.f3.params=#[26]:=by kernel_rfl
set_option maxRecDepth 100000 in
theorem nN (os:Os) (started:os.Started) (H:Type) (enc:TypeId×Value->H) :
  ReturnsInHanded {} Tryz.checked os 3 .any (Rows.poolSharesSpec.pre6 enc Tryz.prog Tryz.f3 Rows.poolSharesRow.domain false) (Rows.poolSharesSpec.post enc Tryz.prog Tryz.f3 false true false false):=by
 refine returnsInHanded_of_change (C:=Tryz.checked) Tryz.own started (by kernel_rfl) Tryz.func3q
  (ChangeSpec.witness6 (enc:=enc) (C:=Tryz.checked) false ⟨#[],#[.agg #[.slice none 0 0,.int .u16 0,.slice none 0 0]],[]⟩ 8 (by kernel_rfl) (by kernel_rfl) (by kernel_rfl) (by kernel_rfl)) ?_
 intro W base args ds gs before hval0 hW hcnd _
 have hW':=hW
 have hlt:=hW.lt
 obtain ⟨p,q,hA0,hV,rfl,hfz,hnd⟩:=hW
 have hA:DataW.TrodAll enc Tryz.prog W 0 (fun _=>true) true Tryz.f3.params.toList args.toList ds p:=hA0
 have hval:∀ (j:Nat) t v,Tryz.f3.params[j]?=some t->args[j]?=some v->Value.okWide Tryz.prog W .any base t v:=hval0
 rw [Tryz.params3q] at hA
 rw [Tryz.params3a] at hval
 obtain ⟨v0,d0,rfl,rfl,h0⟩:=trodAll_one hA
 obtain ⟨rfl,rfl⟩:=trodVars_none hV
 have hok:=hval 0 26 v0 rfl rfl
 obtain ⟨cvs,rfl,_⟩:∃ cs,v0=.agg cs/\True:=by
  simp only [Value.okWide,zfD] at hok
  obtain ⟨cs,e,_⟩:=hok
  exact ⟨cs,e,trivial⟩
 obtain ⟨its,cs,hcm,hvr⟩:=Ug (m:=6) VM h0 0
 have hv0:=hvr [] [] rfl
 have ha:=hcm.a [] [] rfl
 have hio:=hcm.ok [] [] rfl
 rw [List.nil_append,List.append_nil] at hv0 ha hio
 obtain ⟨lv,cut,cv,T,nc,rfl,hc1,hl⟩:=Uj ha
 obtain ⟨r,h',e,rfl⟩:=tX (n:=100) (by decide) hl cut hc1 (fun n hn h=>Ls hn h)
 have hrun:=tR (keep:=keepF Tryz.prog) (avs:=#[.agg cvs]) mixed BK zca e (Uh (w:=W) (l:=its) hio) ⟨.agg cvs,_,rfl,hv0,rfl⟩ (AF _)
 refine hrun.mono fun e W' ⟨he',hos,hout,hsz,hheap⟩=>?_
 subst he'
 refine ⟨_,rfl,[d0],[],_,[],p,[],hW',?_,?_,rfl,zf hos hout hheap _,fun h=>by cases h⟩
 ·exact trodAll_mk1 (shut_bool (by kernel_rfl) true)
 ·rw [Tryz.params3q]
  have hl:∀ x,x∈p->x.block<W.heap.size:=fun x hx=>hlt x (List.mem_append_left _ hx)
  have c0:=zdP (sp:=fun b=>decide (b<W.heap.size)) (by kernel_rfl) (of_decide_eq_true (by kernel_rfl)) hheap h0 (fun x hx=>hl x (by simp [hx])) (fun x hx=>decide_eq_true (hl x (by simp [hx])))
  exact trodAll_mk1 c0
theorem poolShares_holds:Rows.PoolSharesSaid :=
 OpenClaim.holds_of_wide 3 Tryz.f3 rfl rfl rfl rfl rfl rfl rfl ⟨rfl,rfl,rfl,rfl,rfl⟩ rfl rfl rfl rfl rfl (by kernel_rfl) Tryz.func3q (by kernel_rfl)
  (of_decide_eq_true (by kernel_rfl)) (by unfold Func.isWrapper;first | (rw [if_pos (by decide +kernel)];kernel_rfl) | (rw [if_neg (by decide +kernel)];exact ⟨rfl,rfl⟩))
  (fun os started H enc _=>nN os started H enc)
end Go.Proofs.YtboobbebilegnaaGreat
