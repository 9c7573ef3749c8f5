/-
  Proved: the law PoolLoads returns true for every input, and what came in reads as it did. Conditions: none.
-/
import Derived.Test.YtboobbebilegnaaGreatRows
import Derived.Test.YtboobbebilegnaaGreatLoWalkC
import Derived.ProofKit
import Derived.ChangeBook
import Derived.ChangeSame
set_option linter.constructorNameAsVariable false
namespace Go.Proofs.YtboobbebilegnaaGreat
open Go.ChangeShapes Go.WideShapes Go.ChangeAt Go.RowKit Go.Am
theorem Tryz.own:ownKnob Tryz.prog.godebug=none:=by kernel_rfl
theorem Tryz.laidOut:laidOutB Tryz.prog=true:=by kernel_rfl
theorem prW_ok:PrimsOk Tryz.prog (keepF Tryz.prog) prW:=Prims.or_ok awP_ok suOk
theorem carry {H:Type} {enc:TypeId×Value->H} {t:TypeId} (hr:Tryz.prog.readableRec t=true) (hrow:t<Tryz.prog.types.size) {W W':World} (hh:∀ k,k<W.heap.size->W'.heap[k]?=W.heap[k]?) {v:Value} {d:DataW H} {p:List MemPlace}
  (h:DataW.Trod enc Tryz.prog W 0 (fun _=>true) true t v d p) (hlt:∀ x,x∈p->x.block<W.heap.size) {sp:Nat->Bool} (hs:∀ x,x∈p->sp x.block=true):DataW.Trod enc Tryz.prog W' 0 sp true t v d p:=by
 obtain ⟨n,hn⟩:=h
 refine ⟨n,DataW.trod_stays (kids_book Tryz.laidOut hr) (book_sized hr) (fun h=>by cases h) ⟨hrow,book_self t⟩ hn (fun x hx=>?_) hs⟩
 have h1:=hh x.block (hlt x hx)
 cases x with
 | cell b off=>show W'.cell? ⟨b,off,none⟩=W.cell? ⟨b,off,none⟩;unfold World.cell?;rw [show W'.heap[b]?=W.heap[b]? from h1]
 | map b=>exact h1
theorem keptBut_all {w w':World} (hos:w'.os=w.os) (hout:w'.output=w.output) (h:∀ k,k<w.heap.size->w'.heap[k]?=w.heap[k]?) (may:MemPlace->Prop):w.keptBut w' may:=by
 refine ⟨hos,hout,fun i hi=>?_⟩
 rw [h i hi]
 have hr:=(World.keptBut_refl w may).2.2 i hi
 exact hr
theorem Tryz.func4q:Tryz.prog.funcs[4]?=some Tryz.f4:=by kernel_rfl
theorem Tryz.params4q:Tryz.f4.params.toList=[46,48,41]:=by kernel_rfl
theorem Tryz.params4a:Tryz.f4.params=#[46,48,41]:=by kernel_rfl
theorem int_in {W:World} {r:Reach} {b0:Nat} {t:TypeId} {k:IntKind} {v:Value} (ht:Tryz.prog.underlying t=some (.int k)) (hok:Value.okWide Tryz.prog W r b0 t v):∃ n,v=.int k n/\k.min<=n/\n<=k.max:=by
 simp only [Value.okWide,ht,Cell.okWide] at hok
 cases v <;> simp_all [Cell.ok,IntKind.has]
theorem us41:Tryz.prog.underlying 41=some (.slice 9):=by kernel_rfl
theorem us9:Tryz.prog.underlying 9=some .string:=by kernel_rfl
theorem ce9:Tryz.prog.cellsOf 9=1:=by kernel_rfl
set_option maxRecDepth 100000 in
theorem poolLoads_lifted (os:Os) (started:os.Started) (H:Type) (enc:TypeId×Value->H) :
  ReturnsInHanded {} Tryz.checked os 4 .any (Rows.poolLoadsSpec.pre6 enc Tryz.prog Tryz.f4 Rows.poolLoadsRow.domain false) (Rows.poolLoadsSpec.post enc Tryz.prog Tryz.f4 false true false false):=by
 refine returnsInHanded_of_change (C:=Tryz.checked) Tryz.own started (by kernel_rfl) Tryz.func4q
  (ChangeSpec.witness6 (enc:=enc) (C:=Tryz.checked) false ⟨#[],#[.slice none 0 0,.int .u32 0,.slice none 0 0],[]⟩ 8 (by kernel_rfl) (by kernel_rfl) (by kernel_rfl) (by kernel_rfl)) ?_
 intro W base args ds gs before hval0 hW hcnd _
 have hW':=hW
 have hlt:=hW.lt
 obtain ⟨p,q,hA0,hV,rfl,hfz,hnd⟩:=hW
 have hA:DataW.TrodAll enc Tryz.prog W 0 (fun _=>true) true Tryz.f4.params.toList args.toList ds p:=hA0
 have hval:∀ (j:Nat) t v,Tryz.f4.params[j]?=some t->args[j]?=some v->Value.okWide Tryz.prog W .any base t v:=hval0
 rw [Tryz.params4q] at hA
 rw [Tryz.params4a] at hval
 obtain ⟨v0,v1,v2,d0,d1,d2,p0,p1,p2,rfl,rfl,rfl,h0,h1,h2⟩:=trodAll_three hA
 obtain ⟨rfl,rfl⟩:=trodVars_none hV
 obtain ⟨it0,lv0,L0,k10,k20,k30⟩:=Pcs_in (hval 0 46 v0 rfl rfl) h0 0
 obtain ⟨it1,lv1,B1,k11,k21,k31⟩:=strs_in us41 us9 ce9 (hval 2 41 v2 rfl rfl) h2 1
 obtain ⟨nx,rfl,a1,a2⟩:=int_in (k:=.u32) un50_48 (hval 1 48 v1 rfl rfl)
 obtain ⟨hv0,he0⟩:=k10 [] [it1] rfl
 obtain ⟨hv1,he1⟩:=k11 [it0] [] rfl
 have a1:0<=nx:=a1
 have a2:nx<=4294967295:=a2
 have okr:∀ i,i<L0.length->0<=(Ci L0 i).id/\(Ci L0 i).id<=4294967295:=fun i hi=>by
  have:=k30 i hi
  unfold Pc.Rng at this
  exact ⟨this.1,this.2.1⟩
 have okb:∀ s,s∈B1->∀ c,c∈s->c<256:=fun s hs c hc=>by
  obtain ⟨i,hi⟩:=List.getElem?_of_mem hc
  exact k31 s hs i c hi
 obtain ⟨r,h',e,rfl⟩:=poolLoads_ok (n:=100) (by decide) he0 okr nx ⟨a1,a2⟩ he1 okb
 have hrun:=calls_of_args (keep:=keepF Tryz.prog) (avs:=#[v0,.int .u32 nx,v2]) mixed namesQ prW_ok e (args_HR (w:=W) (l:=[it0,it1]) (fun x hx=>by
  rcases List.mem_cons.1 hx with rfl | hx
  ·exact k20 _
  ·rw [List.mem_singleton.1 hx];exact k21 _)) ⟨v0,_,rfl,hv0,_,_,rfl,rfl,v2,_,rfl,hv1,rfl⟩ (args_fixed _)
 refine hrun.mono fun e W' ⟨he',hos,hout,hsz,hheap⟩=>?_
 subst he'
 refine ⟨_,rfl,[d0,d1,d2],[],_,[],p0++p1++p2,[],hW',?_,?_,rfl,keptBut_all hos hout hheap _,fun h=>by cases h⟩
 ·exact trodAll_mk1 (shut_bool (by kernel_rfl) true)
 ·rw [Tryz.params4q]
  have hl:∀ x,x∈p0++p1++p2->x.block<W.heap.size:=fun x hx=>hlt x (List.mem_append_left _ hx)
  have c0:=carry (sp:=fun b=>decide (b<W.heap.size)) (by kernel_rfl) (of_decide_eq_true (by kernel_rfl)) hheap h0 (fun x hx=>hl x (by simp [hx])) (fun x hx=>decide_eq_true (hl x (by simp [hx])))
  have c1:=carry (sp:=fun b=>decide (b<W.heap.size)) (by kernel_rfl) (of_decide_eq_true (by kernel_rfl)) hheap h1 (fun x hx=>hl x (by simp [hx])) (fun x hx=>decide_eq_true (hl x (by simp [hx])))
  have c2:=carry (sp:=fun b=>decide (b<W.heap.size)) (by kernel_rfl) (of_decide_eq_true (by kernel_rfl)) hheap h2 (fun x hx=>hl x (by simp [hx])) (fun x hx=>decide_eq_true (hl x (by simp [hx])))
  rw [List.append_assoc]
  exact trodAll_mk3 c0 c1 c2
theorem poolLoads_holds:Rows.PoolLoadsSaid :=
 OpenClaim.holds_of_wide 4 Tryz.f4 rfl rfl rfl rfl rfl rfl rfl ⟨rfl,rfl,rfl,rfl,rfl⟩ rfl rfl rfl rfl rfl (by kernel_rfl) Tryz.func4q (by kernel_rfl)
  (of_decide_eq_true (by kernel_rfl)) (by unfold Func.isWrapper;first | (rw [if_pos (by decide +kernel)];kernel_rfl) | (rw [if_neg (by decide +kernel)];exact ⟨rfl,rfl⟩))
  (fun os started H enc _=>poolLoads_lifted os started H enc)
end Go.Proofs.YtboobbebilegnaaGreat
