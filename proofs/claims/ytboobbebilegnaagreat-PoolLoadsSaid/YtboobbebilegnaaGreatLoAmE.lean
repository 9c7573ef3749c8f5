/- A part of the proof of the law PoolLoads. -/
import Derived.Test.YtboobbebilegnaaGreatLoAmD
import Derived.SliceStrings
import Derived.WideShapes
import Derived.ChangeShapes
set_option linter.unusedVariables false
set_option linter.unusedSimpArgs false
set_option linter.constructorNameAsVariable false
set_option linter.defProp false
set_option maxRecDepth 20000

namespace Go.Am
section
variable {P:Program} {keep:Keeps}
def insA (x:AV):List AV->List (List AV)
 | []=>[[x]]
 | y::l=>(x::y::l)::(insA x l).map (y::·)
def permsA:List AV->List (List AV)
 | []=>[[]]
 | x::l=>(permsA l).flatMap (insA x)
theorem mem_insA (x:AV) (b:List AV):∀ (a:List AV),a++x::b∈insA x (a++b)
 | []=>by cases b <;> simp [insA]
 | y::a=>by
  have:=mem_insA x b a
  simp only [List.cons_append,insA,List.mem_cons,List.mem_map]
  exact .inr ⟨_,this,rfl⟩
theorem mem_permsA:∀ {l π : List AV},π.Perm l->π∈permsA l
 | [],π,h=>by rw [List.perm_nil.1 h];simp [permsA]
 | x::l,π,h=>by
  obtain ⟨a,b,rfl⟩:=List.append_of_mem (h.mem_iff.2 (List.mem_cons_self ..))
  have h2:(a++b).Perm l:=(List.perm_cons x).1 (List.perm_middle.symm.trans h)
  exact List.mem_flatMap.2 ⟨_,mem_permsA h2,mem_insA x b a⟩
noncomputable section
def cellsL (ks:List AV):List AV:=List.rec (motive:=fun _=>List AV) [] (fun k _ ih=>app' k.cells ih) ks
def keysL (es:List MEnt):List AV:=List.rec (motive:=fun _=>List AV) [] (fun e _ ih=>e.key::ih) es
def insK (lt:AV->AV->Option Bool) (x:AV) (l:List AV):Option (List AV) :=
 List.rec (motive:=fun _=>Option (List AV)) (some [x]) (fun y r ih=>ob (lt x y) fun b=>Bool.rec (motive:=fun _=>Option (List AV)) (ob ih fun l=>some (y::l)) (some (x::y::r)) b) l
def sortK (lt:AV->AV->Option Bool) (l:List AV):Option (List AV) :=
 List.rec (motive:=fun _=>Option (List AV)) (some []) (fun x _ ih=>ob ih fun l=>insK lt x l) l
def bornIn (b:Nat) (r:List MEnt):Bool:=List.rec (motive:=fun _=>Bool) true (fun d _ jh=>and' (notB (Nat.beq b d.born)) jh) r
def bornB (clock:Nat) (es:List MEnt):Bool :=
 List.rec (motive:=fun _=>Bool) true (fun e r ih=>and' (and' (Nat.ble (Nat.succ e.born) clock) (bornIn e.born r)) ih) es
def fineB (fine:AV->Bool) (es:List MEnt):Bool:=List.rec (motive:=fun _=>Bool) true (fun e _ ih=>and' (fine e.key) ih) es
def rowIs (h:Heap) (ds:List AV):Bool :=
 Option.rec (motive:=fun _=>Bool) false (fun l=>AV.sames l ds) (h.cells 0 fun t z m ro=>iff' (and' (notB ro) (Nat.beq m (len' ds))) (loadC t z m 0))
def sortsTo (call:CallFn) (T:FuncId) (sz n:Nat) (ds π : List AV):Bool :=
 Option.rec (motive:=fun _=>Bool) false (fun r=>rowIs r.2 ds) (call (.fn T) [.slice (some (0,0)) n n (some sz)] (minH (cellsL π)))
def allTo (call:CallFn) (T:FuncId) (sz n:Nat) (ds:List AV) (πs:List (List AV)):Bool:=List.rec (motive:=fun _=>Bool) true (fun π _ ih=>and' (sortsTo call T sz n ds π) ih) πs
def seqOf {β : Type} (seq:AV) (f:FuncId->Nat->Option β):Option β:=match seq with
 | .func (.func g) [] [.ptr (some (cb,0))]=>f g cb
 | _=>none
def mapAt {β : Type} (v:AV) (f:Nat->Option β):Option β:=match v with
 | .map (some mb)=>f mb
 | _=>none
def sortedR (call:CallFn) (T:FuncId) (gs:List FuncId) (sz bs:Nat) (lt:AV->AV->Option Bool) (fine:AV->Bool) (seq:AV) (h:Heap):Res :=
 seqOf seq fun g cb=>iff' (gs.contains g) (ob (h.ld1 cb 0) fun m=>mapAt m fun mb=>h.theMap mb fun es clock =>
  iff' (and' (bornB clock es) (and' (fineB fine es) (room bs (len' es)))) (ob (sortK lt (keysL es)) fun ks =>
   iff' (allTo call T sz (len' es) (cellsL ks) (permsA (keysL es)))
    (Nat.rec (motive:=fun _=>Res) (ob (call (.fn T) [.slice none 0 0 none] ⟨.leaf,0⟩) fun _=>some (.slice none 0 0 none,h))
     (fun _ _=>some (.slice (some (h.next,0)) (len' es) (len' es) (some sz),h.new h.next (.cells (fillC (cellsL ks) .leaf 0) [] (cellsL ks).length false))) (len' es))))
def sortedP (call:CallFn) (G T:FuncId) (gs:List FuncId) (sz bs:Nat) (lt:AV->AV->Option Bool) (fine:AV->Bool):Prims :=
 ⟨fun f args h=>Bool.rec (motive:=fun _=>Option Res) none (some (l1 (fun seq=>sortedR call T gs sz bs lt fine seq h) args)) (Nat.beq f G)⟩
end
theorem cellsL_eq (ks:List AV):cellsL ks=ks.flatMap AV.cells:=by
 induction ks with
 | nil=>rfl
 | cons k ks ih=>show app' k.cells (cellsL ks)=_;rw [app'_eq,ih];rfl
theorem keysL_eq (es:List MEnt):keysL es=es.map (·.key):=by
 induction es with
 | nil=>rfl
 | cons e es ih=>show e.key::keysL es=_;rw [ih];rfl
theorem bornIn_ok {b:Nat}:∀ {es:List MEnt},bornIn b es=true->∀ d∈es,b≠d.born
 | [],_,d,hd=>by cases hd
 | x::es,h,d,hd=>by
  have h:and' (notB (Nat.beq b x.born)) (bornIn b es)=true:=h
  simp only [and'_eq,notB_eq,Bool.and_eq_true,Bool.not_eq_true'] at h
  rcases List.mem_cons.1 hd with rfl | hd
  ·intro e;rw [e] at h;simp at h
  ·exact bornIn_ok h.2 d hd
theorem bornB_ok {clock:Nat}:∀ {es:List MEnt},bornB clock es=true->bornOk es clock
 | [],_=>⟨(fun e he=>by cases he),List.Pairwise.nil⟩
 | e::es,h=>by
  have h:and' (and' (Nat.ble (e.born+1) clock) (bornIn e.born es)) (bornB clock es)=true:=h
  simp only [and'_eq,Bool.and_eq_true] at h
  obtain ⟨⟨h1,h2⟩,h3⟩:=h
  obtain ⟨g1,g2⟩:=bornB_ok h3
  refine ⟨fun x hx=>?_,List.pairwise_cons.2 ⟨bornIn_ok h2,g2⟩⟩
  rcases List.mem_cons.1 hx with rfl | hx
  ·exact Nat.le_of_ble_eq_true h1
  ·exact g1 x hx
theorem fineB_ok {fine:AV->Bool}:∀ {es:List MEnt},fineB fine es=true->∀ k∈es.map (·.key),fine k=true
 | [],_,k,hk=>by cases hk
 | e::es,h,k,hk=>by
  have h:and' (fine e.key) (fineB fine es)=true:=h
  simp only [and'_eq,Bool.and_eq_true] at h
  rcases List.mem_cons.1 hk with rfl | hk
  ·exact h.1
  ·exact fineB_ok h.2 k hk
theorem allTo_ok {call:CallFn} {T:FuncId} {sz n:Nat} {ds:List AV}:∀ {πs:List (List AV)},allTo call T sz n ds πs=true->∀ π∈πs,sortsTo call T sz n ds π=true
 | [],_,π,hp=>by cases hp
 | x::xs,h,π,hp=>by
  have h:and' (sortsTo call T sz n ds x) (allTo call T sz n ds xs)=true:=h
  simp only [and'_eq,Bool.and_eq_true] at h
  rcases List.mem_cons.1 hp with rfl | hp
  ·exact h.1
  ·exact allTo_ok h.2 π hp
theorem rowIs_ok {h:Heap} {ds:List AV} (hr:rowIs h ds=true):∃ t z,h.bs.gt 0=some (.cells t z ds.length false)/\∀ i,i<ds.length->cellAt t z i=ds[i]?:=by
 unfold rowIs at hr
 cases hc:(h.cells 0 fun t z m ro=>iff' (and' (notB ro) (Nat.beq m (len' ds))) (loadC t z m 0)) with
 | none=>rw [hc] at hr;cases hr
 | some l =>
  rw [hc] at hr
  have hr:AV.sames l ds=true:=hr
  obtain ⟨t,z,m,ro,hb,h1⟩:=cells_some hc
  obtain ⟨h2,h3⟩:=iff'_some.1 h1
  simp only [and'_eq,notB_eq,Bool.and_eq_true,Bool.not_eq_true',len'_eq] at h2
  obtain ⟨rfl,h4⟩:=h2
  obtain rfl:=Nat.eq_of_beq_eq_true h4
  obtain rfl:=sames_eq _ _ hr
  obtain ⟨_,h5⟩:=loadC_some h3
  exact ⟨t,z,hb,fun i hi=>by simpa using h5 i hi⟩
theorem room_mono {bs m n:Nat} (h:room bs n=true) (hm:m<n):room bs (m+1)=true:=by
 unfold room at h ⊢
 simp only [and'_eq,Bool.and_eq_true] at h ⊢
 have h1:n*bs<=68719476736:=Nat.le_of_ble_eq_true h.1
 have h2:n<=68719476736:=Nat.le_of_ble_eq_true h.2
 have h3:(m+1)*bs<=n*bs:=Nat.mul_le_mul_right _ hm
 exact ⟨Nat.ble_eq_true_of_le (show (m+1)*bs<=68719476736 by omega),Nat.ble_eq_true_of_le (show m+1<=68719476736 by omega)⟩
theorem sortK_mem {lt:AV->AV->Option Bool}:∀ {l ks:List AV},sortK lt l=some ks->∀ k∈ks,k∈l
 | [],ks,h,k,hk=>by cases h;cases hk
 | x::l,ks,h,k,hk=>by
  obtain ⟨ms,h1,h2⟩:=ob_some.1 (show ob (sortK lt l) (fun l=>insK lt x l)=some ks from h)
  have key:∀ {ms ks:List AV},insK lt x ms=some ks->∀ k∈ks,k=x∨k∈ms:=by
   intro ms
   induction ms with
   | nil=>intro ks h k hk;cases h;simpa using hk
   | cons y r ih =>
    intro ks h k hk
    obtain ⟨b,g1,g2⟩:=ob_some.1 (show ob (lt x y) (fun b=>Bool.rec (motive:=fun _=>Option (List AV)) (ob (insK lt x r) fun l=>some (y::l)) (some (x::y::r)) b)=some ks from h)
    cases b with
    | true=>cases g2;rcases List.mem_cons.1 hk with e | hk;exact .inl e;exact .inr hk
    | false =>
     obtain ⟨q,g3,g4⟩:=ob_some.1 (show ob (insK lt x r) (fun l=>some (y::l))=some ks from g2)
     cases g4
     rcases List.mem_cons.1 hk with e | hk
     ·exact .inr (by rw [e];exact List.mem_cons_self ..)
     ·rcases ih g3 k hk with e | hk
      ·exact .inl e
      ·exact .inr (List.mem_cons_of_mem _ hk)
  rcases key h2 k hk with e | hk
  ·rw [e];exact List.mem_cons_self ..
  ·exact List.mem_cons_of_mem _ (sortK_mem h1 k hk)
def KeysFn (P:Program) (g:FuncId):Prop:=∃ gfn gc tm tk te,P.funcs[g]?=some gfn/\gfn.body=some gc/\KeysCode tm gc/\gfn.results=#[]/\14<=gfn.ntmps/\P.underlying tm=some (.map tk te)/\tAgg P tm=some false
theorem sortedP_ok {lf n:Nat} (hm:P.follows .mixedOrders=true) (hn:NamesOk P) {A C T G:FuncId} {ts e sz bs:Nat} {F1:List AV->Option (Blk×(Nat->AV))} {lt:AV->AV->Option Bool} {fine:AV->Bool} {gs:List FuncId} (K:AppCode P keep A ts sz F1)
  (hu:P.underlying ts=some (.slice e)) (hs:tSize P e=some (sz+1)) (hbs:tBytes P e=some bs) (hz:(tZero P e).map (fun z=>Nat.beq (len' z.cells) (sz+1))=some true)
  (hC:∃ fn c,P.funcs[C]?=some fn/\fn.body=some c/\CollectCode A c/\fn.results=#[.tmp 2]/\5<=fn.ntmps) (hT:∃ fn c,P.funcs[T]?=some fn/\fn.body=some c) (hG:∃ fn c,P.funcs[G]?=some fn/\fn.body=some c/\SortedCode C T c/\fn.results=#[.tmp 2]/\9<=fn.ntmps)
  (hgs:∀ g∈gs,KeysFn P g) (hfine:∀ k,fine k=true->F1 [k]=some (rowBlk k.cells,sliceTo 1)/\k.cells.length=sz+1/\∀ c∈k.cells,plainCell c=true) :
  PrimsOk P keep (sortedP (callN P keep noPrims lf (n+1)) G T gs (sz+1) bs lt fine):=by
 intro f args h r hr ρ w avs hh hv
 have hcall:CallOk P keep (callN P keep noPrims lf (n+1)):=callN_sound hm hn noPrims_ok (n+1)
 generalize hcl:callN P keep noPrims lf (n+1)=call at hr hcall
 replace hr:(Bool.rec (motive:=fun _=>Option Res) none (some (l1 (fun seq=>sortedR call T gs (sz+1) bs lt fine seq h) args)) (Nat.beq f G):Option Res)=some (some r):=hr
 cases hfg:Nat.beq f G with
 | false=>rw [hfg] at hr;cases hr
 | true =>
  rw [hfg] at hr
  obtain rfl:=Nat.eq_of_beq_eq_true hfg
  have hr:l1 (fun seq=>sortedR call T gs (sz+1) bs lt fine seq h) args=some r:=Option.some.inj hr
  obtain ⟨gfn,gc,hGf,hGb,hGc,hGr,hGn⟩:=hG
  refine ⟨⟨gfn,gc,hGf,hGb⟩,?_⟩
  obtain ⟨seq,rfl,h1⟩:=l1_some hr
  obtain ⟨sv,rfl,vs⟩:=hv.one
  unfold sortedR seqOf at h1
  split at h1
  case h_2=>cases h1
  rename_i g cb _
  obtain ⟨h2,h3⟩:=iff'_some.1 h1
  have hmem:g∈gs:=by simpa using h2
  obtain ⟨m,h4,h5⟩:=ob_some.1 h3
  unfold mapAt at h5
  split at h5
  case h_2=>cases h5
  rename_i mb
  obtain ⟨es,clock,h6,h7⟩:=theMap_some h5
  obtain ⟨h8,h9⟩:=iff'_some.1 h7
  simp only [and'_eq,Bool.and_eq_true,len'_eq] at h8
  obtain ⟨hb1,hb2,hb3⟩:=h8
  obtain ⟨ks,h10,h11⟩:=ob_some.1 h9
  obtain ⟨h12,h13⟩:=iff'_some.1 h11
  have hall:=allTo_ok h12
  obtain ⟨kfn,kc,tm,tk,te,k1,k2,k3,k4,k5,k6,k7⟩:=hgs g hmem
  obtain ⟨cfn,cc,c1,c2,c3,c4,c5⟩:=hC
  have hkf:=fineB_ok hb2
  have hplain:∀ c∈cellsL ks,plainCell c=true:=by
   intro c hc
   rw [cellsL_eq] at hc
   obtain ⟨k,hk,hc⟩:=List.mem_flatMap.1 hc
   have:=sortK_mem h10 k hk
   rw [keysL_eq] at this
   exact (hfine k (hkf k this)).2.2 c hc
  have happ:=append_rel (lf:=lf) (n:=n) (prims:=noPrims) hm hn (by rw [hcl];exact hcall) K hu hs hbs hz k1 k2 k3 k4 k5 k6 k7 (avs:=[.slice none 0 0,sv]) hh ⟨_,[sv],rfl,⟨rfl,rfl,rfl,rfl⟩,_,[],rfl,vs,rfl⟩ h4 h6 (bornB_ok hb1)
   (fun k hk=>by
    obtain ⟨a,b,c⟩:=hfine k (hkf k hk)
    refine ⟨a,b,?_⟩
    rw [allOne_eq,List.all_eq_true]
    exact fun x hx=>plain_one (c x hx)) (fun m hm=>room_mono hb3 hm)
  have hcol:=collect_thru hn c1 c2 c3 c4 c5 ⟨_,_,K.hf,K.hb⟩ (S:=fun v w'=>∃ π : List AV,π.Perm (es.map (·.key))/\∃ ρ' h' sv,VR ρ' sv v/\Grown h' (h.next+2) e (sz+1) sv (π.flatMap AV.cells) π.length/\Post P keep ρ h w ρ' h' w'/\∀ b,b<h.next->h'.bs.gt b=h.bs.gt b) happ
  have hfin:=sorted_thru hn hGf hGb hGc hGr hGn ⟨_,_,c1,c2⟩ hT (S':=fun v w'=>∃ ρ',VR ρ' r.1 v/\Post P keep ρ h w ρ' r.2 w') hcol (fun v w' hS=>?_)
  ·refine CallsIn.mono (F:=fen none) hfin fun en w'' ⟨v,he,hR⟩=>?_
   subst he
   exact hR
  ·obtain ⟨π,hπ,ρ',h',sv',v1,v2,v3,v4⟩:=hS
   have hlen:π.length=es.length:=by rw [hπ.length_eq,List.length_map]
   have hso:=hall π (mem_permsA (by rw [keysL_eq];exact hπ))
   rcases v2 with ⟨n0,n1,rfl⟩|⟨id,t,z,a1,a2,rfl,a3,a4,a5,a6,a7⟩
   · 
    have hn0:es.length=0:=by omega
    rw [len'_eq,hn0] at h13
    obtain ⟨q,g1,g2⟩:=ob_some.1 (show ob (call (.fn T) [.slice none 0 0 none] ⟨.leaf,0⟩) (fun _=>some (.slice none 0 0 none,h))=some r from h13)
    cases g2
    obtain ⟨_,hT2⟩:=hcall _ _ _ _ g1 (fun _=>none) w' [v] (empty_HR w') ⟨v,[],rfl,v1,rfl⟩
    refine CallsIn.mono (F:=fen none) hT2 fun en w'' hR=>?_
    cases en with
    | panicked c=>exact hR.elim
    | outgrown=>exact hR.elim
    | returned u =>
     obtain ⟨ρ1,_,hp⟩:=hR
     refine ⟨u,rfl,ρ,v1,?_⟩
     have ho:=v3.old hh v4
     refine ⟨Pls.le_refl _,ho.hr.frame fun b x p hx hd hpl=>?_,⟨hp.fr.os.trans ho.fr.os,hp.fr.output.trans ho.fr.output,Nat.le_trans ho.fr.size hp.fr.size,fun k hk hno=>?_⟩,fun _ _ h=>h,Nat.le_refl _,fun _ _ h _=>h,fun _ _ h=>h⟩
     ·obtain ⟨q,hq,hlt⟩:=(ho.hr.blk b x hx).place hd
      rw [hpl] at hq;cases hq
      exact hp.fr.same _ hlt (by rintro ⟨_,_,_,hx,_⟩;cases hx)
     ·exact (hp.fr.same k (Nat.lt_of_lt_of_le hk ho.fr.size) (by rintro ⟨_,_,_,hx,_⟩;cases hx)).trans (ho.fr.sameW k hk hno)
   · 
    have hpos:0<es.length:=by omega
    obtain ⟨k,hk⟩:∃ k,es.length=k+1:=⟨es.length - 1,by omega⟩
    rw [len'_eq,hk] at h13
    have h13:some (AV.slice (some (h.next,0)) (k+1) (k+1) (some (sz+1)),h.new h.next (.cells (fillC (cellsL ks) .leaf 0) [] (cellsL ks).length false))=some r:=h13
    cases h13
    have hv1:=v1
    obtain ⟨p,a',c',hp,rfl,w1,w2,_,w4,w5⟩:=v1
    have hπp:∀ c∈cellsL π,plainCell c=true:=by
     intro c hc
     rw [cellsL_eq] at hc
     obtain ⟨k,hk,hc⟩:=List.mem_flatMap.1 hc
     exact (hfine k (hkf k (hπ.mem_iff.1 hk))).2.2 c hc
    have hsub:=sub_row (cs:=cellsL π) v3.hr a3 hp (by rw [cellsL_eq,a5]) (fun i hi=>by rw [cellsL_eq];exact a6 i hi) hπp
    unfold sortsTo at hso
    cases hrun:call (.fn T) [.slice (some (0,0)) (len' es) (len' es) (some (sz+1))] (minH (cellsL π)) with
    | none=>rw [hrun] at hso;cases hso
    | some q =>
     rw [hrun] at hso
     obtain ⟨t1,z1,r1,r2⟩:=rowIs_ok (show rowIs q.2 (cellsL ks)=true from hso)
     obtain ⟨_,hT2⟩:=hcall _ _ _ _ hrun (onePl p) w' [.slice (some a') π.length c'] hsub ⟨_,[],rfl,⟨p,a',c',rfl,by rw [len'_eq,hlen],by rw [len'_eq,← hlen];exact w1,by rw [len'_eq,← hlen];exact w2,(fun e=>by cases e),w4,w5⟩,rfl⟩
     refine CallsIn.mono (F:=fen none) hT2 fun en w'' hR=>?_
     cases en with
     | panicked c=>exact hR.elim
     | outgrown=>exact hR.elim
     | returned u =>
      obtain ⟨ρ1,_,hp1⟩:=hR
      refine ⟨u,rfl,ρ.up h.next p,?_,row_post v3 hh (by omega) a3 hp v4 hp1 r1 r2 hplain⟩
      exact ⟨p,a',c',Pls.up_same _ _ _,by rw [hlen,hk],by omega,by omega,(fun e=>by cases e),w4,w5⟩
end
end Go.Am
namespace Go.Am
noncomputable section
section
variable {β : Type}
def hk (h:Heap) (k:Heap->β):β:=Heap.rec (motive:=fun _=>β) (fun bs n=>k (Heap.mk bs n)) h
def rk (r:AV×Heap) (k:AV->Heap->β):β:=Prod.rec (motive:=fun _=>β) (fun v h=>Heap.rec (motive:=fun _=>β) (fun bs n=>k v (Heap.mk bs n)) h) r
def sk (s:St) (k:Tr AV->Heap->β):β:=St.rec (motive:=fun _=>β) (fun tm h=>Heap.rec (motive:=fun _=>β) (fun bs n=>k tm (Heap.mk bs n)) h) s
def pk {α γ : Type} (r:α×γ) (k:α->γ->β):β:=Prod.rec (motive:=fun _=>β) k r
theorem hk_eq (h:Heap) (k:Heap->β):hk h k=k h:=by cases h;rfl
theorem rk_eq (r:AV×Heap) (k:AV->Heap->β):rk r k=k r.1 r.2:=by obtain ⟨v,h⟩:=r;cases h;rfl
theorem sk_eq (s:St) (k:Tr AV->Heap->β):sk s k=k s.tm s.hp:=by obtain ⟨tm,h⟩:=s;cases h;rfl
theorem pk_eq {α γ : Type} (r:α×γ) (k:α->γ->β):pk r k=k r.1 r.2:=rfl
end
theorem ob_congr {α β : Type} {x:Option α} {f g:α->Option β} (h:∀ a,f a=g a):ob x f=ob x g:=by
 cases x with
 | none=>rfl
 | some a=>exact h a
theorem ob_of {α β : Type} {x y:Option α} {f g:α->Option β} (e:x=y) (h:∀ a,f a=g a):ob x f=ob y g:=by
 subst e;exact ob_congr h
def runIsF (is:List GIns):Tr AV->CallFn->List AV->Heap->Option (List AV×Heap) :=
 List.rec (motive:=fun _=>Tr AV->CallFn->List AV->Heap->Option (List AV×Heap)) (fun _ _ loc h=>some (loc,h))
  (fun i _ ih tm call loc h=>ob (i.ev loc .leaf tm call h.next h) fun r=>rk r fun v h'=>ih tm call (v::loc) h') is
theorem runIsF_eq (is:List GIns):runIsF is=runIs is:=by
 induction is with
 | nil=>rfl
 | cons i is ih =>
  funext tm call loc h
  show ob (i.ev loc .leaf tm call h.next h) (fun r=>rk r fun v h'=>runIsF is tm call (v::loc) h')=ob (i.ev loc .leaf tm call h.next h) fun r=>runIs is tm call (r.1::loc) r.2
  refine ob_congr fun r=>?_
  rw [rk_eq,ih]
def runMatsF (base:Nat) (tm vs:Tr AV) (l:List (Nat×GIns)):Heap->Option Heap :=
 List.rec (motive:=fun _=>Heap->Option Heap) (fun h=>some h) (fun x _ ih h=>ob (x.2.blk vs tm) fun b=>Option.rec (motive:=fun _=>Option Heap) (ih h) (fun b=>hk h fun h=>ih (Heap.mk (h.bs.up (some b) (Nat.add base x.1)) h.next)) b) l
theorem runMatsF_eq (base:Nat) (tm vs:Tr AV) (l:List (Nat×GIns)):runMatsF base tm vs l=runMats base tm vs l:=by
 induction l with
 | nil=>rfl
 | cons x l ih =>
  funext h
  show ob (x.2.blk vs tm) (fun b=>Option.rec (motive:=fun _=>Option Heap) (runMatsF base tm vs l h) (fun b=>hk h fun h=>runMatsF base tm vs l (Heap.mk (h.bs.up (some b) (Nat.add base x.1)) h.next)) b)=ob (x.2.blk vs tm) (fun b=>Option.rec (motive:=fun _=>Option Heap) (runMats base tm vs l h) (fun b=>runMats base tm vs l (Heap.mk (h.bs.up (some b) (Nat.add base x.1)) h.next)) b)
  refine ob_congr fun b=>?_
  cases b with
  | none=>rw [ih]
  | some b=>rw [ih];exact hk_eq _ _
def runActF (tm vs:Tr AV) (call:CallFn) (h:Heap) (k:Tr AV->Heap->Option (Tr AV×Heap)) (a:Option (Nat×GIns)):Option (Tr AV×Heap) :=
 Option.rec (motive:=fun _=>Option (Tr AV×Heap)) (k vs h) (fun x=>ob (x.2.ev [] vs tm call h.next h) fun r=>rk r fun v h'=>k (vs.up (some v) x.1) h') a
def runStageF (base:Nat) (tm:Tr AV) (call:CallFn) (s:Stage) (k:Tr AV->Heap->Option (Tr AV×Heap)) (vs:Tr AV) (h:Heap):Option (Tr AV×Heap) :=
 iff' (runCks base tm vs h s.own s.cks) (ob (runEvs base tm h s.own s.evs vs) fun vs=>ob (runMatsF base tm vs s.mats h) fun h=>hk h fun h=>runActF tm vs call h k s.act)
def runStagesF (base:Nat) (tm:Tr AV) (call:CallFn) (ss:List Stage):Tr AV->Heap->Option (Tr AV×Heap) :=
 List.rec (motive:=fun _=>Tr AV->Heap->Option (Tr AV×Heap)) (fun vs h=>some (vs,h)) (fun s _ ih=>runStageF base tm call s ih) ss
theorem runActF_eq (tm vs:Tr AV) (call:CallFn) (h:Heap) (k:Tr AV->Heap->Option (Tr AV×Heap)) (a:Option (Nat×GIns)):runActF tm vs call h k a=runAct tm vs call h k a:=by
 cases a with
 | none=>rfl
 | some x =>
  show ob (x.2.ev [] vs tm call h.next h) (fun r=>rk r fun v h'=>k (vs.up (some v) x.1) h')=ob (x.2.ev [] vs tm call h.next h) fun r=>k (vs.up (some r.1) x.1) r.2
  exact ob_congr fun r=>rk_eq _ _
theorem runStagesF_eq (base:Nat) (tm:Tr AV) (call:CallFn) (ss:List Stage):runStagesF base tm call ss=runStages base tm call ss:=by
 induction ss with
 | nil=>rfl
 | cons s ss ih =>
  show runStageF base tm call s (runStagesF base tm call ss)=runStage base tm call s (runStages base tm call ss)
  rw [ih]
  funext vs h
  unfold runStageF runStage
  show iff' _ _=iff' _ _
  refine congrArg (iff' _) (ob_congr fun vs=>?_)
  rw [runMatsF_eq]
  refine ob_congr fun h=>?_
  rw [hk_eq,runActF_eq]
def exK (e:Ex) (s:St) (f:Tr AV->Heap->XR):XR:=Ex.rec (motive:=fun _=>XR) (sk s f) (some (.ret,s)) (fun id=>some (.exit id,s)) (fun l=>some (.goto l,s)) e
theorem exK_eq (r:Ex×St) (f:Tr AV->Heap->XR) (g:St->XR) (h:∀ tm h,f tm h=g ⟨tm,h⟩):exK r.1 r.2 f=thenX r g:=by
 obtain ⟨e,s⟩:=r
 cases e with
 | normal=>exact (sk_eq s f).trans (h _ _)
 | ret=>rfl
 | exit id=>rfl
 | goto l=>rfl
def loopNF (body:Tr AV->Heap->XR) (n:Nat):Tr AV->Heap->XR :=
 Nat.rec (motive:=fun _=>Tr AV->Heap->XR) (fun _ _=>none) (fun _ ih tm h=>ob (body tm h) fun r=>pk r fun e s=>exK e s ih) n
theorem loopNF_eq (body:Tr AV->Heap->XR) (b:St->XR) (hb:∀ tm h,body tm h=b ⟨tm,h⟩) (n:Nat):∀ tm h,loopNF body n tm h=loopN b n ⟨tm,h⟩:=by
 induction n with
 | zero=>intro tm h;rfl
 | succ n ih =>
  intro tm h
  show ob (body tm h) (fun r=>pk r fun e s=>exK e s (loopNF body n))=ob (b ⟨tm,h⟩) fun r=>thenX r (loopN b n)
  refine ob_of (hb tm h) fun r=>?_
  exact exK_eq r _ _ ih
def endRng (tm:Tr AV) (l:Nat) (h':Heap):XR :=
 h'.theLoop l fun b=>match b.st with
   | .busy=>none
   | _=>match b.pending with
    | none=>some (.normal,⟨tm,h'.put l (.loop { b with st:=.exhausted })⟩)
    | some c=>ob (jumpEx c) fun e=>some (e,⟨tm,h'.put l (.loop { b with st:=.exhausted })⟩)
def runRangeF (call:CallFn) (nt:Nat) (f:FuncId) (ro:Option Nat) (ps:List Nat) (assign body:Code) (tm:Tr AV) (h:Heap) (fv:AV):XR :=
 let l:=h.next
 let enter:XR:=ob (applyF call [.func (.yield l) [] []] (h.new l (.loop ⟨.ready,none,f,tm.up none nt,ps,assign,body⟩)) fv) fun r =>
  rk r fun _ h'=>endRng tm l h'
 match ro with
 | none=>enter
 | some l0=>h.theLoop l0 fun _=>enter
theorem runRangeF_eq (call:CallFn) (nt:Nat) (f:FuncId) (ro:Option Nat) (ps:List Nat) (assign body:Code) (tm:Tr AV) (h:Heap) (fv:AV) :
  runRangeF call nt f ro ps assign body tm h fv=runRange call nt f ro ps assign body ⟨tm,h⟩ fv:=by
 have e:ob (applyF call [.func (.yield h.next) [] []] (h.new h.next (.loop ⟨.ready,none,f,tm.up none nt,ps,assign,body⟩)) fv) (fun r=>rk r fun _ h'=>endRng tm h.next h')
   = ob (applyF call [.func (.yield h.next) [] []] (h.new h.next (.loop ⟨.ready,none,f,tm.up none nt,ps,assign,body⟩)) fv) fun r=>endRng tm h.next r.2:=ob_congr fun r=>rk_eq _ _
 cases ro with
 | none=>exact e
 | some l0 =>
  show Heap.theLoop h l0 (fun _=>_)=Heap.theLoop h l0 (fun _=>_)
  rw [show (fun _:LRec=>ob (applyF call [.func (.yield h.next) [] []] (h.new h.next (.loop ⟨.ready,none,f,tm.up none nt,ps,assign,body⟩)) fv) (fun r=>rk r fun _ h'=>endRng tm h.next h'))=(fun _=>ob (applyF call [.func (.yield h.next) [] []] (h.new h.next (.loop ⟨.ready,none,f,tm.up none nt,ps,assign,body⟩)) fv) fun r=>endRng tm h.next r.2) from by funext _;exact e]
  rfl
def execF (call:CallFn) (lf:Nat) (nt:Nat) (f:FuncId) (ro:Option Nat) (c:AC):Tr AV->Heap->XR :=
 AC.rec (motive:=fun _=>Tr AV->Heap->XR)
  (fun tm h=>some (.normal,⟨tm,h⟩))
  (fun is outs tm h=>ob (runIsF is tm call [] h) fun r=>pk r fun loc h'=>ob (putOuts outs loc tm tm) fun tm'=>some (.normal,⟨tm',h'⟩))
  (fun is outs nt xs tm h=>Option.rec (motive:=fun _=>XR) (ob (runIsF is tm call [] h) fun r=>pk r fun loc h'=>ob (putOuts outs loc tm tm) fun tm'=>ob (gets xs loc .leaf tm) fun vs=>iff' (isFn vs) (some (.normal,⟨tm'.up (some (.tuple (.tuple vs::putOff tm' nt))) nt,h'⟩))) (fun _=>none) ro)
  (fun n ss outs tm h=>ob (runStagesF h.next tm call ss .leaf (Heap.mk h.bs (Nat.add h.next n))) fun r=>pk r fun vs h'=>ob (putOutsD outs vs tm) fun tm'=>some (.normal,⟨tm',h'⟩))
  (fun _ _ ea eb tm h=>ob (ea tm h) fun r=>pk r fun e s=>exK e s eb)
  (fun c _ _ ea eb tm h=>ob (c.get [] .leaf tm) fun v=>eBool (fun b=>Bool.rec (motive:=fun _=>XR) (eb tm h) (ea tm h) b) v)
  (fun id _ ea tm h=>ob (ea tm h) fun r=>inBlk id r)
  (fun _ ea tm h=>loopNF ea lf tm h)
  (fun g ps assign body tm h=>ob (g.get [] .leaf tm) fun fv=>runRangeF call nt f ro ps assign body tm h fv)
  (fun id tm h=>some (.exit id,⟨tm,h⟩))
  (fun tm h=>some (.ret,⟨tm,h⟩))
  (fun _ ea tm h=>ob (ea tm h) fun r=>Ex.rec (motive:=fun _=>XR) (some r) (some r) (fun _=>some r) (fun _=>none) r.1)
  (fun _ _=>none) c
theorem execF_eq (call:CallFn) (lf nt:Nat) (f:FuncId) (ro:Option Nat) (c:AC):∀ tm h,execF call lf nt f ro c tm h=execA call lf nt f ro c ⟨tm,h⟩:=by
 induction c with
 | skip=>intro tm h;rfl
 | reg is outs =>
  intro tm h
  show ob (runIsF is tm call [] h) _=ob (runIs is tm call [] h) _
  rw [runIsF_eq]
  rfl
 | dfr is outs nt' xs =>
  intro tm h
  cases ro with
  | some _=>rfl
  | none =>
   show ob (runIsF is tm call [] h) _=ob (runIs is tm call [] h) _
   rw [runIsF_eq]
   rfl
 | draw n ss outs =>
  intro tm h
  show ob (runStagesF h.next tm call ss .leaf (Heap.mk h.bs (Nat.add h.next n))) _=ob (runStages h.next tm call ss .leaf (Heap.mk h.bs (Nat.add h.next n))) _
  rw [runStagesF_eq]
  rfl
 | seq a b iha ihb =>
  intro tm h
  exact ob_of (iha tm h) fun r=>exK_eq r _ _ ihb
 | cond c a b iha ihb =>
  intro tm h
  refine ob_congr fun v=>?_
  rw [show (fun b=>Bool.rec (motive:=fun _=>XR) _ _ b)=_ from rfl]
  show eBool (fun b'=>Bool.rec (motive:=fun _=>XR) (execF call lf nt f ro b tm h) (execF call lf nt f ro a tm h) b') v=eBool (fun b'=>Bool.rec (motive:=fun _=>XR) (execA call lf nt f ro b ⟨tm,h⟩) (execA call lf nt f ro a ⟨tm,h⟩) b') v
  rw [iha,ihb]
 | block id a iha =>
  intro tm h
  exact ob_of (iha tm h) fun r=>rfl
 | loop a iha =>
  intro tm h
  exact loopNF_eq _ _ iha lf tm h
 | rangeF g ps assign body =>
  intro tm h
  exact ob_congr fun fv=>runRangeF_eq ..
 | exit id=>intro tm h;rfl
 | ret=>intro tm h;rfl
 | scope a iha =>
  intro tm h
  exact ob_of (iha tm h) fun r=>rfl
 | bad=>intro tm h;rfl
def leaveF (P:Program) (keep:Keeps) (lf:Nat) (rec:CallFn) (nt:Nat) (tm:Tr AV) (h:Heap):Option Heap :=
 Option.rec (motive:=fun _=>Option Heap) (some h) (fun v=>eTuple (fun ds=>runDs P keep lf rec ds h) v) (tm.gt nt)
def endFF (P:Program) (keep:Keeps) (lf:Nat) (rec:CallFn) (nt:Nat) (res:List ResultVar) (e:Ex) (tm:Tr AV) (h:Heap):Res :=
 let out:Res:=ob (leaveF P keep lf rec nt tm h) fun h=>hk h fun h=>ob (resA P res ⟨tm,h⟩) fun vs=>some (tupled vs,h)
 Ex.rec (motive:=fun _=>Res) out out (fun _=>none) (fun _=>none) e
theorem endFF_eq (P:Program) (keep:Keeps) (lf:Nat) (rec:CallFn) (nt:Nat) (res:List ResultVar) (r:Ex×St) :
  (pk r fun e s=>sk s fun tm h=>endFF P keep lf rec nt res e tm h)=endFn P keep lf rec nt res r:=by
 obtain ⟨e,tm,h⟩:=r
 cases h
 rfl
def callFF (P:Program) (keep:Keeps) (prims:Prims) (lf:Nat) (rec:CallFn) (f:FuncId) (args:List AV) (h:Heap):Res :=
 Option.rec (motive:=fun _=>Res)
  (ob (fnA P keep f) fun k=>iff' (Nat.ble (len' args) k.nt) (ob (execF rec lf k.nt f none k.code (fillC args .leaf 0) h) fun r=>pk r fun e s=>sk s fun tm h=>endFF P keep lf rec k.nt k.res e tm h))
  (fun r=>r) (prims.fn f args h)
theorem callFF_eq (P:Program) (keep:Keeps) (prims:Prims) (lf:Nat) (rec:CallFn):callFF P keep prims lf rec=callF P keep prims lf rec:=by
 funext f args h
 show Option.rec (motive:=fun _=>Res) _ _ _=Option.rec (motive:=fun _=>Res) _ _ _
 congr 1
 refine ob_congr fun k=>?_
 refine congrArg (iff' _) (ob_of (execF_eq ..) fun r=>endFF_eq ..)
def lk (l:LRec) (k:LRec->Res):Res:=LRec.rec (motive:=fun _=>Res) (fun a b c d e f g=>k (LRec.mk a b c d e f g)) l
def callLF (P:Program) (keep:Keeps) (lf:Nat) (rec:CallFn) (l:Nat) (args:List AV) (h:Heap):Res :=
 h.theLoop l fun b=>lk b fun b=>ob (setPs (ntOf P b.fn) b.params args b.tm) fun tm =>
  iff' (and' (notB (keep b.fn (ntOf P b.fn))) (noOff b.tm (ntOf P b.fn))) (ob (execF rec lf (ntOf P b.fn) b.fn (some l) (compC P (keep b.fn) (ntOf P b.fn) b.assign) tm h) fun r=>pk r fun e s =>
   Ex.rec (motive:=fun _=>Res) (sk s fun tm h =>
   h.theLoop l fun b'=>lk b' fun b'=>match b'.st with
    | .ready=>ob (execF rec lf (ntOf P b.fn) b.fn (some l) (compC P (keep b.fn) (ntOf P b.fn) b.body) tm (h.put l (.loop { b' with st:=.busy }))) fun r=>pk r fun e s=>sk s fun tm h=>endRound l (e,⟨tm,h⟩)
    | _=>none) none (fun _=>none) (fun _=>none) e)
theorem lk_eq (l:LRec) (k:LRec->Res):lk l k=k l:=by cases l;rfl
theorem callLF_eq (P:Program) (keep:Keeps) (lf:Nat) (rec:CallFn):callLF P keep lf rec=callL P keep lf rec:=by
 funext l args h
 unfold callLF callL
 congr 1
 funext b
 rw [lk_eq]
 refine ob_congr fun tm=>?_
 refine congrArg (iff' _) (ob_of (execF_eq ..) fun r=>?_)
 obtain ⟨e,tm,h⟩:=r
 cases e with
 | normal =>
  rw [pk_eq]
  dsimp only
  rw [sk_eq]
  refine congrArg (Heap.theLoop h l) ?_
  funext b'
  rw [lk_eq]
  cases b'.st with
  | ready =>
   refine ob_of (execF_eq ..) fun r=>?_
   obtain ⟨e,tm,h⟩:=r
   cases h
   rfl
  | _=>rfl
 | _=>rfl
def callNF (P:Program) (keep:Keeps) (prims:Prims) (lf n:Nat):CallFn :=
 Nat.rec (motive:=fun _=>CallFn) (fun _ _ _=>none)
  (fun _ ih t args h=>Tgt.rec (motive:=fun _=>Res) (fun f=>callFF P keep prims lf ih f args h) (fun l=>callLF P keep lf ih l args h) t) n
theorem callNF_eq (P:Program) (keep:Keeps) (prims:Prims) (lf n:Nat):callNF P keep prims lf n=callN P keep prims lf n:=by
 induction n with
 | zero=>rfl
 | succ n ih =>
  funext t args h
  cases t with
  | fn f =>
   show callFF P keep prims lf (callNF P keep prims lf n) f args h=callF P keep prims lf (callN P keep prims lf n) f args h
   rw [callFF_eq,ih]
  | loop l =>
   show callLF P keep lf (callNF P keep prims lf n) l args h=callL P keep lf (callN P keep prims lf n) l args h
   rw [callLF_eq,ih]
end
end Go.Am
namespace Go.Am
section
variable {P:Program} {keep:Keeps} {ρ ρ':Pls} {g h h':Heap} {w w':World}
def Heap.le (g h:Heap):Prop:=(∀ b x,g.bs.gt b=some x->h.bs.gt b=some x)/\g.next=h.next
theorem HR.sub (hl:g.le h) (hr:HR P keep ρ h w):HR P keep ρ g w :=
 ⟨fun b p hp=>by rw [hl.2];exact hr.dom b p hp,fun b x hx=>by rw [hl.2];exact hr.has b x (hl.1 b x hx),fun b x hx=>hr.blk b x (hl.1 b x hx),
  fun b b' x x' p p' h1 h2=>hr.inj b b' x x' p p' (hl.1 _ _ h1) (hl.1 _ _ h2)⟩
theorem Own.sub (hl:g.le h) {k:Nat}:Own ρ g k->Own ρ h k:=fun ⟨b,x,p,h1,h2⟩=>⟨b,x,p,hl.1 _ _ h1,h2⟩
theorem OwnW.sub (hl:g.le h) {k:Nat}:OwnW ρ g k->OwnW ρ h k:=fun ⟨b,x,p,h1,h2⟩=>⟨b,x,p,hl.1 _ _ h1,h2⟩
theorem Post.sub {g2 h2:Heap} (hl:g.le h) (hp:Post P keep ρ g w ρ' h2 w') (hl2:g2.le h2):Post P keep ρ h w ρ' g2 w' :=
 ⟨hp.le,hp.hr.sub hl2,⟨hp.fr.os,hp.fr.output,hp.fr.size,fun k hk ho=>hp.fr.sameW k hk fun h=>ho (h.sub hl)⟩,
  fun k hk ho=>(hp.own k hk (ho.sub hl2)).sub hl,by rw [hl2.2,← hl.2];exact hp.next,fun b p hb hlt=>hp.new b p hb (by rw [hl.2];exact hlt),
  fun k hk ho=>(hp.ownW k hk (ho.sub hl2)).sub hl⟩
theorem Ret.sub {g2 h2:Heap} {v:AV} {e:Ending} (hl:g.le h) (hl2:g2.le h2) (hr:Ret P keep ρ g w (v,h2) e w'):Ret P keep ρ h w (v,g2) e w':=by
 cases e with
 | returned u=>obtain ⟨σ,hv,hp⟩:=hr;exact ⟨σ,hv,hp.sub hl hl2⟩
 | _=>exact hr.elim
end
noncomputable section
def optSub {α : Type} (f:α->α->Bool) (v w:Option α):Bool:=Option.rec (motive:=fun _=>Bool) true (fun x=>Option.rec (motive:=fun _=>Bool) false (fun y=>f x y) w) v
def Tr.sub {α : Type} (f:α->α->Bool) (t:Tr α):Tr α->Bool :=
 Tr.rec (motive:=fun _=>Tr α->Bool) (fun _=>true)
  (fun _ v _ sl sr s=>Tr.rec (motive:=fun _=>Bool) false (fun l' v' r' _ _=>and' (optSub f v v') (and' (sl l') (sr r'))) s) t
def optSame {α : Type} (f:α->α->Bool) (v w:Option α):Bool :=
 Option.rec (motive:=fun _=>Bool) (Option.rec (motive:=fun _=>Bool) true (fun _=>false) w) (fun x=>Option.rec (motive:=fun _=>Bool) false (fun y=>f x y) w) v
def Tr.same {α : Type} (f:α->α->Bool) (t:Tr α):Tr α->Bool :=
 Tr.rec (motive:=fun _=>Tr α->Bool) (fun s=>Tr.rec (motive:=fun _=>Bool) true (fun _ _ _ _ _=>false) s)
  (fun _ v _ sl sr s=>Tr.rec (motive:=fun _=>Bool) false (fun l' v' r' _ _=>and' (optSame f v v') (and' (sl l') (sr r'))) s) t
theorem Tr.same_ok {α : Type} {f:α->α->Bool} (hf:∀ x y,f x y=true->x=y):∀ (t s:Tr α),Tr.same f t s=true->t=s:=by
 intro t
 induction t with
 | leaf=>intro s hs;cases s with | leaf=>rfl | node=>cases hs
 | node l v r ihl ihr =>
  intro s hs
  cases s with
  | leaf=>cases hs
  | node l' v' r' =>
   have hs:and' (optSame f v v') (and' (Tr.same f l l') (Tr.same f r r'))=true:=hs
   simp only [and'_eq,Bool.and_eq_true] at hs
   obtain ⟨h1,h2,h3⟩:=hs
   obtain rfl:=ihl _ h2
   obtain rfl:=ihr _ h3
   cases v with
   | none=>cases v' with | none=>rfl | some y=>cases h1
   | some x=>cases v' with | none=>cases h1 | some y=>rw [hf x y h1]
def entSame (a b:MEnt):Bool:=and' (AV.same a.key b.key) (and' (AV.same a.val b.val) (Nat.beq a.born b.born))
def entsSame (l:List MEnt):List MEnt->Bool :=
 List.rec (motive:=fun _=>List MEnt->Bool) (fun m=>List.rec (motive:=fun _=>Bool) true (fun _ _ _=>false) m)
  (fun a _ ih m=>List.rec (motive:=fun _=>Bool) false (fun b m' _=>and' (entSame a b) (ih m')) m) l
theorem entsSame_ok:∀ (l m:List MEnt),entsSame l m=true->l=m
 | [],[],_=>rfl
 | [],_::_,h=>by cases h
 | _::_,[],h=>by cases h
 | a::l,b::m,h=>by
  have h:and' (and' (AV.same a.key b.key) (and' (AV.same a.val b.val) (Nat.beq a.born b.born))) (entsSame l m)=true:=h
  simp only [and'_eq,Bool.and_eq_true] at h
  obtain ⟨⟨h1,h2,h3⟩,h4⟩:=h
  have e1:=same_eq _ _ h1
  have e2:=same_eq _ _ h2
  have e3:=Nat.eq_of_beq_eq_true h3
  obtain ⟨k,v,n⟩:=a
  obtain ⟨k',v',n'⟩:=b
  cases e1;cases e2;cases e3
  rw [entsSame_ok l m h4]
def Blk.same (x y:Blk):Bool :=
 Blk.rec (motive:=fun _=>Bool)
  (fun t z n ro=>Blk.rec (motive:=fun _=>Bool) (fun t' z' n' ro'=>and' (Tr.same AV.same t t') (and' (AV.sames z z') (and' (Nat.beq n n') (eqB ro ro')))) false (fun _ _=>false) (fun _ _=>false) (fun _=>false) y)
  (Blk.rec (motive:=fun _=>Bool) (fun _ _ _ _=>false) true (fun _ _=>false) (fun _ _=>false) (fun _=>false) y)
  (fun es c=>Blk.rec (motive:=fun _=>Bool) (fun _ _ _ _=>false) false (fun es' c'=>and' (entsSame es es') (Nat.beq c c')) (fun _ _=>false) (fun _=>false) y)
  (fun _ _=>false) (fun _=>false) x
theorem Blk.same_ok (x y:Blk) (h:Blk.same x y=true):x=y:=by
 cases x with
 | cells t z n ro =>
  cases y with
  | cells t' z' n' ro' =>
   have h:and' (Tr.same AV.same t t') (and' (AV.sames z z') (and' (Nat.beq n n') (eqB ro ro')))=true:=h
   simp only [and'_eq,Bool.and_eq_true] at h
   obtain ⟨h1,h2,h3,h4⟩:=h
   obtain rfl:=Tr.same_ok same_eq _ _ h1
   obtain rfl:=sames_eq _ _ h2
   obtain rfl:=Nat.eq_of_beq_eq_true h3
   cases ro <;> cases ro' <;> first | rfl | cases h4
  | _=>cases h
 | dead=>cases y with | dead=>rfl | _=>cases h
 | map es c =>
  cases y with
  | map es' c' =>
   have h:and' (entsSame es es') (Nat.beq c c')=true:=h
   simp only [and'_eq,Bool.and_eq_true] at h
   obtain rfl:=entsSame_ok _ _ h.1
   obtain rfl:=Nat.eq_of_beq_eq_true h.2
   rfl
  | _=>cases h
 | _=>cases h
end
end Go.Am
namespace Go.Am
noncomputable section
mutual
def AV.flat:AV->Bool
 | .bool _ | .int _ _ | .str _ | .ptr none | .slice none _ _ _ | .map none | .nilFunc | .nilIface | .func (.func _) [] []=>true
 | .iface _ x=>AV.flat x
 | .agg cs=>AV.flats cs
 | .tuple cs=>AV.flats cs
 | _=>false
def AV.flats:List AV->Bool
 | []=>true
 | x::xs=>AV.flat x&&AV.flats xs
end
mutual
theorem VR.flat {ρ σ : Pls}:∀ (x:AV) (v:Value),AV.flat x=true->VR ρ x v->VR σ x v
 | .bool _,_,_,hv=>hv
 | .int _ _,_,_,hv=>hv
 | .str _,_,_,hv=>hv
 | .ptr none,_,_,hv=>hv
 | .ptr (some (_,_)),_,hf,_=>by simp [AV.flat] at hf
 | .slice none _ _ _,_,_,hv=>hv
 | .slice (some (_,_)) _ _ _,_,hf,_=>by simp [AV.flat] at hf
 | .map none,_,_,hv=>hv
 | .map (some _),_,hf,_=>by simp [AV.flat] at hf
 | .func fn a b,_,hf,hv=>by
  cases fn with
  | func f =>
   cases a with
   | nil =>
    cases b with
    | nil=>exact hv
    | cons=>simp [AV.flat] at hf
   | cons=>simp [AV.flat] at hf
  | _=>simp [AV.flat] at hf
 | .nilFunc,_,_,hv=>hv
 | .iface _ x,_,hf,hv=>by
  obtain ⟨y,e,hy⟩:=hv
  exact ⟨y,e,VR.flat x y (by simpa [AV.flat] using hf) hy⟩
 | .nilIface,_,_,hv=>hv
 | .agg cs,_,hf,hv=>by
  obtain ⟨cs',e,hc⟩:=hv
  exact ⟨cs',e,VRs.flat cs _ (by simpa [AV.flat] using hf) hc⟩
 | .tuple cs,_,hf,hv=>by
  obtain ⟨cs',e,hc⟩:=hv
  exact ⟨cs',e,VRs.flat cs _ (by simpa [AV.flat] using hf) hc⟩
theorem VRs.flat {ρ σ : Pls}:∀ (x:List AV) (v:List Value),AV.flats x=true->VRs ρ x v->VRs σ x v
 | [],_,_,hv=>hv
 | x::xs,_,hf,hv=>by
  obtain ⟨v,vs,e,h1,h2⟩:=hv
  have hf':AV.flat x=true/\AV.flats xs=true:=by simpa [AV.flats] using hf
  exact ⟨v,vs,e,VR.flat x v hf'.1 h1,VRs.flat xs vs hf'.2 h2⟩
end
def says (r:Res) (v:AV):Bool:=Option.rec (motive:=fun _=>Bool) false (fun r=>AV.same v r.1) r
theorem says_ok {r:Res} {v:AV} (h:says r v=true):∃ q,r=some (v,q):=by
 cases r with
 | none=>cases h
 | some r =>
  have h:AV.same v r.1=true:=h
  exact ⟨r.2,by rw [same_eq _ _ h]⟩
def pureP (f:FuncId) (args:List AV) (v:AV):Prims :=
 ⟨fun f' args' h'=>Bool.rec (motive:=fun _=>Option Res) none (Bool.rec (motive:=fun _=>Option Res) none (some (some (v,h'))) (AV.sames args args')) (Nat.beq f f')⟩
theorem pureP_ok {P:Program} {keep:Keeps} {prims:Prims} {lf n:Nat} (hm:P.follows .mixedOrders=true) (hn:NamesOk P) (hpr:PrimsOk P keep prims) {f:FuncId} {args:List AV} {v:AV}
  (hfl:AV.flats (v::args)=true) (hr:says (callNF P keep prims lf n (.fn f) args ⟨.leaf,0⟩) v=true):PrimsOk P keep (pureP f args v):=by
 intro f' args' h' r hr' ρ w avs hh hv
 replace hr':(Bool.rec (motive:=fun _=>Option Res) none (Bool.rec (motive:=fun _=>Option Res) none (some (some (v,h'))) (AV.sames args args')) (Nat.beq f f'):Option Res)=some (some r):=hr'
 have hfl':AV.flat v=true/\AV.flats args=true:=by simpa [AV.flats] using hfl
 cases h1:Nat.beq f f' with
 | false=>rw [h1] at hr';cases hr'
 | true =>
  rw [h1] at hr'
  cases h2:AV.sames args args' with
  | false=>rw [h2] at hr';cases hr'
  | true =>
   rw [h2] at hr'
   obtain rfl:(v,h')=r:=Option.some.inj (Option.some.inj hr')
   obtain rfl:=Nat.eq_of_beq_eq_true h1
   obtain rfl:=sames_eq _ _ h2
   obtain ⟨q,hq⟩:=says_ok hr
   rw [callNF_eq] at hq
   obtain ⟨hb,hc⟩:=callN_sound (lf:=lf) hm hn hpr n (.fn f) args ⟨.leaf,0⟩ _ hq (fun _=>none) w avs (empty_HR w) (VRs.flat _ _ hfl'.2 hv)
   refine ⟨hb,CallsIn.mono (F:=fen none) hc fun e w' hR=>?_⟩
   cases e with
   | returned u =>
    obtain ⟨σ,hv',hp⟩:=hR
    have hno:∀ k,k<w.heap.size->w'.heap[k]?=w.heap[k]?:=fun k hk=>hp.fr.same k hk (by rintro ⟨_,_,_,hx,_⟩;cases hx)
    refine ⟨ρ,VR.flat _ _ hfl'.1 hv',Pls.le_refl _,hh.frame fun b x p hx hd hpl=>?_,⟨hp.fr.os,hp.fr.output,hp.fr.size,fun k hk _=>hno k hk⟩,fun _ _ h=>h,Nat.le_refl _,fun _ _ h _=>h,fun _ _ h=>h⟩
    obtain ⟨p',hp',hlt⟩:=(hh.blk b x hx).place hd
    rw [hpl] at hp';cases hp'
    exact hno _ hlt
   | _=>exact hR.elim
def optOr {α : Type} (v w:Option α):Option α:=Option.rec (motive:=fun _=>Option α) w (fun x=>some x) v
def Tr.over {α : Type} (t:Tr α):Tr α->Tr α :=
 Tr.rec (motive:=fun _=>Tr α->Tr α) (fun s=>s)
  (fun l v r sl sr s=>Tr.rec (motive:=fun _=>Tr α) (.node l v r) (fun l' v' r' _ _=>.node (sl l') (optOr v v') (sr r')) s) t
theorem Tr.gt_over {α : Type}:∀ (t s:Tr α) (n:Nat),(t.over s).gt n=optOr (t.gt n) (s.gt n):=by
 intro t
 induction t with
 | leaf=>intro s n;rfl
 | node l v r ihl ihr =>
  intro s n
  cases s with
  | leaf =>
   show (Tr.node l v r).gt n=optOr ((Tr.node l v r).gt n) none
   cases (Tr.node l v r).gt n <;> rfl
  | node l' v' r' =>
   show (Tr.node (l.over l') (optOr v v') (r.over r')).gt n=_
   cases n with
   | zero=>rw [Tr.gt_zero,Tr.gt_zero,Tr.gt_zero]
   | succ m =>
    rw [Tr.gt_succ,Tr.gt_succ,Tr.gt_succ]
    split
    ·exact ihl l' _
    ·exact ihr r' _
theorem Post.over {P:Program} {keep:Keeps} {ρ σ : Pls} {g h h':Heap} {w w':World} (hl:h.le h') (hr:HR P keep ρ h' w) (hd:∀ b x,h.bs.gt b=some x->(∃ y,g.bs.gt b=some y)/\x.ro=false)
  (hp:Post P keep ρ h w σ g w'):Post P keep ρ h' w σ ⟨g.bs.over h'.bs,g.next⟩ w':=by
 have free:∀ b x p,h'.bs.gt b=some x->g.bs.gt b=none->x.dead?=false->ρ b=some p->¬Own ρ h p.blk:=by
  rintro b x p hx hg hdead hpb ⟨b2,x2,p2,h1,h2,h3,h4⟩
  obtain ⟨⟨y,hy⟩,hro⟩:=hd b2 x2 h1
  have hne:b2≠b:=by rintro rfl;rw [hg] at hy;cases hy
  exact hr.inj b2 b x2 x p2 p (hl.1 _ _ h1) hx h2 hdead (Or.inl hro) h3 hpb hne h4
 have get:∀ b x,(g.bs.over h'.bs).gt b=some x->g.bs.gt b=some x∨(g.bs.gt b=none/\h'.bs.gt b=some x):=by
  intro b x hx
  rw [Tr.gt_over] at hx
  cases hg:g.bs.gt b with
  | none=>rw [hg] at hx;exact Or.inr ⟨rfl,hx⟩
  | some y=>rw [hg] at hx;exact Or.inl hx
 have old:∀ b x p,h'.bs.gt b=some x->x.dead?=false->σ b=some p->ρ b=some p/\p.blk<w.heap.size:=by
  intro b x p hx hdead hpb
  obtain ⟨p',hp',hlt⟩:=(hr.blk b x hx).place hdead
  have:=hp.le _ _ hp'
  rw [hpb] at this;cases this
  exact ⟨hp',hlt⟩
 refine ⟨hp.le,⟨hp.hr.dom,fun b x hx=>?_,fun b x hx=>?_,fun b b' x x' p p' hx hx' hdx hdx' hro hpb hpb' hne he=>?_⟩,
  ⟨hp.fr.os,hp.fr.output,hp.fr.size,fun k hk ho=>hp.fr.sameW k hk fun h=>ho (h.sub hl)⟩,fun k hk ho=>?_,?_,fun b p hb hlt=>hp.new b p hb (by rw [hl.2];exact hlt),fun k hk ho=>?_⟩
 ·rcases get b x hx with hg|⟨_,hg⟩
  ·exact hp.hr.has b x hg
  ·exact Nat.lt_of_lt_of_le (hr.has b x hg) (by rw [← hl.2];exact hp.next)
 ·rcases get b x hx with hg|⟨hn,hg⟩
  ·exact hp.hr.blk b x hg
  ·refine ((hr.blk b x hg).mono hp.le).frame fun p hdead hpb=>?_
   obtain ⟨hpo,hlt⟩:=old b x p hg hdead hpb
   exact hp.fr.same _ hlt (free b x p hg hn hdead hpo)
 ·rcases get b x hx with hg|⟨hn,hg⟩
  ·rcases get b' x' hx' with hg'|⟨hn',hg'⟩
   ·exact hp.hr.inj b b' x x' p p' hg hg' hdx hdx' hro hpb hpb' hne he
   ·obtain ⟨hpo,hlt⟩:=old b' x' p' hg' hdx' hpb'
    exact free b' x' p' hg' hn' hdx' hpo (hp.own _ hlt ⟨b,x,p,hg,hdx,hpb,he⟩)
  ·obtain ⟨hpo,hlt⟩:=old b x p hg hdx hpb
   rcases get b' x' hx' with hg'|⟨hn',hg'⟩
   ·exact free b x p hg hn hdx hpo (hp.own _ hlt ⟨b',x',p',hg',hdx',hpb',he.symm⟩)
   ·obtain ⟨hpo',_⟩:=old b' x' p' hg' hdx' hpb'
    exact hr.inj b b' x x' p p' hg hg' hdx hdx' hro hpo hpo' hne he
 ·obtain ⟨b,x,p,hx,hdx,hpb,he⟩:=ho
  rcases get b x hx with hg|⟨hn,hg⟩
  ·exact (hp.own k hk ⟨b,x,p,hg,hdx,hpb,he⟩).sub hl
  ·exact ⟨b,x,p,hg,hdx,(old b x p hg hdx hpb).1,he⟩
 ·rw [← hl.2];exact hp.next
 ·obtain ⟨b,x,p,hx,hdx,hpb,he⟩:=ho
  rcases get b x hx with hg|⟨hn,hg⟩
  ·exact (hp.ownW k hk ⟨b,x,p,hg,hdx,hpb,he⟩).sub hl
  ·exact ⟨b,x,p,hg,hdx,(old b x p hg (dead_of_fixed hdx) hpb).1,he⟩
end
end Go.Am
namespace Go.Am
noncomputable section
inductive Wt where
 | seq (b:AC)
 | blk (id:Nat)
 | sco
abbrev XQ:=Ex->Tr AV->Heap->Prop
def retK (X:AC->St->XR) (Q:XQ):List Wt->Ex->Tr AV->Heap->Prop
 | [],e,tm,h=>Q e tm h
 | .seq b::k,.normal,tm,h=>match X b ⟨tm,h⟩ with
  | some (e,s)=>retK X Q k e s.tm s.hp
  | none=>False
 | .seq _::k,e,tm,h=>retK X Q k e tm h
 | .blk id::k,.exit j,tm,h=>if j=id then retK X Q k .normal tm h else retK X Q k (.exit j) tm h
 | .blk _::k,e,tm,h=>retK X Q k e tm h
 | .sco::_,.goto _,_,_=>False
 | .sco::k,e,tm,h=>retK X Q k e tm h
section
variable (call:CallFn) (lf nt:Nat) (f:FuncId) (ro:Option Nat)
def run (c:AC) (k:List Wt) (tm:Tr AV) (h:Heap) (Q:XQ):Prop :=
 match execA call lf nt f ro c ⟨tm,h⟩ with
 | some (e,s)=>retK (execA call lf nt f ro) Q k e s.tm s.hp
 | none=>False
def ret (e:Ex) (k:List Wt) (tm:Tr AV) (h:Heap) (Q:XQ):Prop:=retK (execA call lf nt f ro) Q k e tm h
variable {call lf nt f ro} {k:List Wt} {tm:Tr AV} {h:Heap} {Q:XQ}
theorem ret_nil {e:Ex}:ret call lf nt f ro e [] tm h Q=Q e tm h:=rfl
theorem ret_seq {b:AC}:ret call lf nt f ro .normal (.seq b::k) tm h Q=run call lf nt f ro b k tm h Q:=rfl
theorem ret_seq_ret {b:AC}:ret call lf nt f ro .ret (.seq b::k) tm h Q=ret call lf nt f ro .ret k tm h Q:=rfl
theorem ret_seq_exit {b:AC} {j:Nat}:ret call lf nt f ro (.exit j) (.seq b::k) tm h Q=ret call lf nt f ro (.exit j) k tm h Q:=rfl
theorem ret_blk {id:Nat}:ret call lf nt f ro .normal (.blk id::k) tm h Q=ret call lf nt f ro .normal k tm h Q:=rfl
theorem ret_blk_ret {id:Nat}:ret call lf nt f ro .ret (.blk id::k) tm h Q=ret call lf nt f ro .ret k tm h Q:=rfl
theorem ret_blk_exit {id j:Nat}:ret call lf nt f ro (.exit j) (.blk id::k) tm h Q=if j=id then ret call lf nt f ro .normal k tm h Q else ret call lf nt f ro (.exit j) k tm h Q:=rfl
theorem run_skip:run call lf nt f ro .skip k tm h Q=ret call lf nt f ro .normal k tm h Q:=rfl
theorem run_exit {id:Nat}:run call lf nt f ro (.exit id) k tm h Q=ret call lf nt f ro (.exit id) k tm h Q:=rfl
theorem run_ret:run call lf nt f ro .ret k tm h Q=ret call lf nt f ro .ret k tm h Q:=rfl
theorem run_seq {a b:AC}:run call lf nt f ro (.seq a b) k tm h Q=run call lf nt f ro a (.seq b::k) tm h Q:=by
 unfold run
 show (match ob (execA call lf nt f ro a ⟨tm,h⟩) (fun r=>thenX r (execA call lf nt f ro b)) with | some (e,s)=>_ | none=>False)=_
 cases execA call lf nt f ro a ⟨tm,h⟩ with
 | none=>rfl
 | some r=>obtain ⟨e,s⟩:=r;cases e <;> rfl
theorem run_block {id:Nat} {a:AC}:run call lf nt f ro (.block id a) k tm h Q=run call lf nt f ro a (.blk id::k) tm h Q:=by
 unfold run
 show (match ob (execA call lf nt f ro a ⟨tm,h⟩) (fun r=>inBlk id r) with | some (e,s)=>_ | none=>False)=_
 cases execA call lf nt f ro a ⟨tm,h⟩ with
 | none=>rfl
 | some r =>
  obtain ⟨e,s⟩:=r
  cases e with
  | exit j =>
   show (match (Bool.rec (motive:=fun _=>XR) (some (.exit j,s)) (some (.normal,s)) (Nat.beq j id):XR) with | some (e,s)=>_ | none=>False)=(if j=id then _ else _)
   rw [bool_rec_beq]
   by_cases e:j=id
   ·rw [if_pos e,if_pos e]
   ·rw [if_neg e,if_neg e]
  | _=>rfl
theorem run_cond {c:Opd} {a b:AC} {t:Bool} (hc:c.get [] .leaf tm=some (.bool t)) :
  run call lf nt f ro (.cond c a b) k tm h Q=if t=true then run call lf nt f ro a k tm h Q else run call lf nt f ro b k tm h Q:=by
 unfold run
 show (match ob (c.get [] .leaf tm) (fun v=>eBool (fun b'=>Bool.rec (motive:=fun _=>XR) (execA call lf nt f ro b ⟨tm,h⟩) (execA call lf nt f ro a ⟨tm,h⟩) b') v) with | some (e,s)=>_ | none=>False)=_
 rw [hc]
 cases t <;> rfl
theorem run_cond' {c:Opd} {a b:AC}:run call lf nt f ro (.cond c a b) k tm h Q=match c.get [] .leaf tm with
  | some (.bool b')=>(match b' with | true=>run call lf nt f ro a k tm h Q | false=>run call lf nt f ro b k tm h Q)
  | _=>False:=by
 cases hc:c.get [] .leaf tm with
 | none =>
  unfold run
  show (match ob (c.get [] .leaf tm) (fun v=>eBool (fun b'=>Bool.rec (motive:=fun _=>XR) (execA call lf nt f ro b ⟨tm,h⟩) (execA call lf nt f ro a ⟨tm,h⟩) b') v) with | some (e,s)=>_ | none=>False)=_
  rw [hc]
 | some v =>
  cases v with
  | bool t=>rw [run_cond hc];cases t <;> simp
  | _ =>
   unfold run
   show (match ob (c.get [] .leaf tm) (fun v=>eBool (fun b'=>Bool.rec (motive:=fun _=>XR) (execA call lf nt f ro b ⟨tm,h⟩) (execA call lf nt f ro a ⟨tm,h⟩) b') v) with | some (e,s)=>_ | none=>False)=_
   rw [hc]
   rfl
theorem run_reg {is:List GIns} {outs:List (Nat×Opd)}:run call lf nt f ro (.reg is outs) k tm h Q =
  match runIs is tm call [] h with
  | some (loc,h')=>match putOuts outs loc tm tm with
   | some tm'=>ret call lf nt f ro .normal k tm' h' Q
   | none=>False
  | none=>False:=by
 unfold run
 show (match ob (runIs is tm call [] h) (fun r=>ob (putOuts outs r.1 tm tm) fun tm'=>some (Ex.normal,(⟨tm',r.2⟩:St))) with | some (e,s)=>_ | none=>False)=_
 cases runIs is tm call [] h with
 | none=>rfl
 | some r =>
  obtain ⟨loc,h'⟩:=r
  show (match ob (putOuts outs loc tm tm) (fun tm'=>some (Ex.normal,(⟨tm',h'⟩:St))) with | some (e,s)=>_ | none=>False)=(match putOuts outs loc tm tm with | some tm'=>_ | none=>False)
  cases putOuts outs loc tm tm <;> rfl
theorem run_draw {n:Nat} {ss:List Stage} {outs:List (Nat×Nat)}:run call lf nt f ro (.draw n ss outs) k tm h Q =
  match runStages h.next tm call ss .leaf ⟨h.bs,h.next+n⟩ with
  | some (vs,h')=>match putOutsD outs vs tm with
   | some tm'=>ret call lf nt f ro .normal k tm' h' Q
   | none=>False
  | none=>False:=by
 unfold run
 show (match ob (runStages h.next tm call ss .leaf ⟨h.bs,Nat.add h.next n⟩) (fun r=>ob (putOutsD outs r.1 tm) fun tm'=>some (Ex.normal,(⟨tm',r.2⟩:St))) with | some (e,s)=>_ | none=>False)=_
 show _=(match runStages h.next tm call ss .leaf ⟨h.bs,Nat.add h.next n⟩ with | some (vs,h')=>_ | none=>False)
 cases runStages h.next tm call ss .leaf ⟨h.bs,Nat.add h.next n⟩ with
 | none=>rfl
 | some r =>
  obtain ⟨loc,h'⟩:=r
  show (match ob (putOutsD outs loc tm) (fun tm'=>some (Ex.normal,(⟨tm',h'⟩:St))) with | some (e,s)=>_ | none=>False)=(match putOutsD outs loc tm with | some tm'=>_ | none=>False)
  cases putOutsD outs loc tm <;> rfl
theorem run_loop {c:AC} (I:Nat->Tr AV->Heap->Prop) {n:Nat} (h0:I n tm h) (hn:n<lf)
  (step:∀ n tm h,I n tm h->∀ Q':XQ,(∀ tm' h' n',n'<n->I n' tm' h'->Q' .normal tm' h')->(∀ e tm' h',e≠.normal->ret call lf nt f ro e k tm' h' Q->Q' e tm' h')->run call lf nt f ro c [] tm h Q') :
  run call lf nt f ro (.loop c) k tm h Q:=by
 have key:∀ m n tm h,I n tm h->n<m->match loopN (execA call lf nt f ro c) m ⟨tm,h⟩ with | some (e,s)=>retK (execA call lf nt f ro) Q k e s.tm s.hp | none=>False:=by
  intro m
  induction m with
  | zero=>intro n tm h _ hn;omega
  | succ m ih =>
   intro n tm h hI hn
   have hs:=step n tm h hI (fun e tm' h'=>match e with | .normal=>∃ n',n'<n/\I n' tm' h' | e=>ret call lf nt f ro e k tm' h' Q) (fun tm' h' n' h1 h2=>⟨n',h1,h2⟩) (fun e tm' h' he hr=>by cases e <;> first | exact absurd rfl he | exact hr)
   unfold run at hs
   show (match ob (execA call lf nt f ro c ⟨tm,h⟩) (fun r=>Ex.rec (motive:=fun _=>XR) (loopN (execA call lf nt f ro c) m r.2) (some r) (fun _=>some r) (fun _=>some r) r.1) with | some (e,s)=>_ | none=>False)
   cases he:execA call lf nt f ro c ⟨tm,h⟩ with
   | none=>rw [he] at hs;exact hs.elim
   | some r =>
    rw [he] at hs
    obtain ⟨e,s⟩:=r
    cases e with
    | normal =>
     obtain ⟨n',h1,h2⟩:=hs
     exact ih n' s.tm s.hp h2 (by omega)
    | ret=>exact hs
    | exit j=>exact hs
    | goto j=>exact hs
 exact key lf n tm h h0 hn
end
abbrev RRet (c:AC) (e:Ex):Prop:=∀ call lf nt f ro k tm h Q,run call lf nt f ro c k tm h Q=ret call lf nt f ro e k tm h Q
abbrev RSeq (c a b:AC):Prop:=∀ call lf nt f ro k tm h Q,run call lf nt f ro c k tm h Q=run call lf nt f ro a (.seq b::k) tm h Q
abbrev RBlk (c:AC) (id:Nat) (a:AC):Prop:=∀ call lf nt f ro k tm h Q,run call lf nt f ro c k tm h Q=run call lf nt f ro a (.blk id::k) tm h Q
abbrev RCnd (c:AC) (t:Nat) (a b:AC):Prop:=∀ call lf nt f ro k tm h Q,run call lf nt f ro c k tm h Q=match tm.gt t with
 | some (.bool b')=>(match b' with | true=>run call lf nt f ro a k tm h Q | false=>run call lf nt f ro b k tm h Q)
 | _=>False
abbrev RReg (c:AC) (E:CallFn->Tr AV->Heap->Option (Tr AV×Heap)):Prop:=∀ call lf nt f ro k tm h Q,run call lf nt f ro c k tm h Q=match E call tm h with
 | none=>False
 | some (tm',h')=>ret call lf nt f ro .normal k tm' h' Q
theorem rSkip:RRet .skip .normal:=fun _ _ _ _ _ _ _ _ _=>run_skip
theorem rExit {id:Nat}:RRet (.exit id) (.exit id):=fun _ _ _ _ _ _ _ _ _=>run_exit
theorem rRet:RRet .ret .ret:=fun _ _ _ _ _ _ _ _ _=>run_ret
theorem rSeq {a b:AC}:RSeq (.seq a b) a b:=fun _ _ _ _ _ _ _ _ _=>run_seq
theorem rBlk {id:Nat} {a:AC}:RBlk (.block id a) id a:=fun _ _ _ _ _ _ _ _ _=>run_block
theorem rCnd {t:Nat} {a b:AC}:RCnd (.cond (.tmp t) a b) t a b:=fun _ _ _ _ _ _ _ _ _=>run_cond'
theorem rDrw {n:Nat} {ss:List Stage} {outs:List (Nat×Nat)} {E:CallFn->Tr AV->Heap->Option (Tr AV×Heap)}
  (hE:(fun call tm h=>E call tm h)=fun call tm h=>ob (runStages h.next tm call ss .leaf ⟨h.bs,h.next+n⟩) fun r=>ob (putOutsD outs r.1 tm) fun tm'=>some (tm',r.2)):RReg (.draw n ss outs) E:=fun call lf nt f ro k tm h Q=>by
 rw [run_draw]
 have this:E call tm h=ob (runStages h.next tm call ss .leaf ⟨h.bs,h.next+n⟩) (fun r=>ob (putOutsD outs r.1 tm) fun tm'=>some (tm',r.2)):=congrFun (congrFun (congrFun hE call) tm) h
 rw [this]
 cases runStages h.next tm call ss .leaf ⟨h.bs,h.next+n⟩ with
 | none=>rfl
 | some r =>
  obtain ⟨vs,h'⟩:=r
  show (match putOutsD outs vs tm with | some tm'=>ret call lf nt f ro .normal k tm' h' Q | none=>False)=(match ob (putOutsD outs vs tm) (fun tm'=>some (tm',h')) with | none=>False | some (tm',h')=>ret call lf nt f ro .normal k tm' h' Q)
  cases putOutsD outs vs tm <;> rfl
def bodyC (P:Program) (f:FuncId):Code:=match P.funcs[f]? with
 | some fn=>match fn.body with
  | some c=>c
  | none=>.skip
 | none=>.skip
def subC:Code->List Nat->Nat->Code
 | .rangeFunc _ _ a b,[],j=>match j with | 0=>a | _=>b
 | .rangeFunc _ _ a b,i::p,j=>match i with | 0=>subC a p j | _=>subC b p j
 | .seq a b,i::p,j=>match i with | 0=>subC a p j | _=>subC b p j
 | .cond _ a b,i::p,j=>match i with | 0=>subC a p j | _=>subC b p j
 | .block _ a,_::p,j=>subC a p j
 | .loop a,_::p,j=>subC a p j
 | .scope a,_::p,j=>subC a p j
 | _,_,_=>.skip
def W {α : Type} (r:Option α) (Q:α->Prop):Prop:=∃ v,r=some v/\Q v
def WC (r:Res) (Q:AV->Heap->Prop):Prop:=∃ v h,r=some (v,h)/\Q v h
theorem call_fn {P:Program} {keep:Keeps} {prims:Prims} {lf n:Nat} {f:FuncId} {args:List AV} {h:Heap} {k:FnA} (Q:AV->Heap->Prop) (hk:fnA P keep f=some k) (hp:prims.fn f args h=none) (hl:args.length<=k.nt)
  (hrun:∀ Q':XQ,(∀ e tm h vs,(e=.normal∨e=.ret)->tm.gt k.nt=none->resA P k.res ⟨tm,h⟩=some vs->Q (tupled vs) h->Q' e tm h)->run (callN P keep prims lf n) lf k.nt f none k.code [] (fillC args .leaf 0) h Q') :
  WC (callN P keep prims lf (n+1) (.fn f) args h) Q:=by
 have hr:=hrun (fun e tm h=>(e=.normal∨e=.ret)/\tm.gt k.nt=none/\∃ vs,resA P k.res ⟨tm,h⟩=some vs/\Q (tupled vs) h) (fun e tm h vs h1 h2 h3 h4=>⟨h1,h2,vs,h3,h4⟩)
 unfold run at hr
 show WC (Option.rec (motive:=fun _=>Res) (ob (fnA P keep f) fun k=>iff' (Nat.ble (len' args) k.nt) (ob (execA (callN P keep prims lf n) lf k.nt f none k.code ⟨fillC args .leaf 0,h⟩) fun r=>endFn P keep lf (callN P keep prims lf n) k.nt k.res r)) (fun r=>r) (prims.fn f args h)) Q
 rw [hp,hk]
 show WC (iff' (Nat.ble (len' args) k.nt) (ob (execA (callN P keep prims lf n) lf k.nt f none k.code ⟨fillC args .leaf 0,h⟩) fun r=>endFn P keep lf (callN P keep prims lf n) k.nt k.res r)) Q
 rw [len'_eq,show Nat.ble args.length k.nt=true from Nat.ble_eq_true_of_le hl]
 show WC (ob (execA (callN P keep prims lf n) lf k.nt f none k.code ⟨fillC args .leaf 0,h⟩) fun r=>endFn P keep lf (callN P keep prims lf n) k.nt k.res r) Q
 cases he:execA (callN P keep prims lf n) lf k.nt f none k.code ⟨fillC args .leaf 0,h⟩ with
 | none=>rw [he] at hr;exact hr.elim
 | some r =>
  rw [he] at hr
  obtain ⟨e,s⟩:=r
  obtain ⟨h1,h2,vs,h3,h4⟩:=hr
  have hend:endFn P keep lf (callN P keep prims lf n) k.nt k.res (e,s)=some (tupled vs,s.hp):=by
   have hl:leaveD P keep lf (callN P keep prims lf n) k.nt s=some s.hp:=by unfold leaveD;rw [show s.tm.gt k.nt=none from h2]
   have:(ob (leaveD P keep lf (callN P keep prims lf n) k.nt s) fun h=>ob (resA P k.res ⟨s.tm,h⟩) fun vs=>some (tupled vs,h))=some (tupled vs,s.hp):=by
    rw [hl]
    show ob (resA P k.res ⟨s.tm,s.hp⟩) _=_
    rw [show resA P k.res ⟨s.tm,s.hp⟩=some vs from h3]
   rcases h1 with rfl | rfl
   ·exact this
   ·exact this
  exact ⟨_,_,hend,h4⟩
end
end Go.Am
namespace Go.Am
theorem kEq_same {β : Type} (k:IntKind) (r:Option β):kEq k k r=r:=by cases k <;> rfl
theorem eBool_bool {β : Type} (f:Bool->Option β) (b:Bool):eBool f (.bool b)=f b:=rfl
section
variable {P:Program} {t:TypeId} {k:IntKind} {a b:Int} {s u:List Nat}
theorem b_lss:bin2 P .lss t (.int k a) (.int k b)=some (.bool (decide (a<b))):=by
 show kEq k k (yesB (ltI a b))=_;rw [kEq_same,ltI_eq];rfl
theorem b_leq:bin2 P .leq t (.int k a) (.int k b)=some (.bool (decide (a<=b))):=by
 show kEq k k (yesB (leI a b))=_;rw [kEq_same,leI_eq];rfl
theorem b_gtr:bin2 P .gtr t (.int k a) (.int k b)=some (.bool (decide (b<a))):=by
 show kEq k k (yesB (ltI b a))=_;rw [kEq_same,ltI_eq];rfl
theorem b_geq:bin2 P .geq t (.int k a) (.int k b)=some (.bool (decide (b<=a))):=by
 show kEq k k (yesB (leI b a))=_;rw [kEq_same,leI_eq];rfl
theorem b_add:bin2 P .add t (.int k a) (.int k b)=some (.int k (k.wrap (a+b))):=by
 show kEq k k (addI k a b)=_;rw [kEq_same,addI_eq]
theorem b_sub:bin2 P .sub t (.int k a) (.int k b)=some (.int k (k.wrap (a - b))):=by
 show kEq k k (subI k a b)=_;rw [kEq_same,subI_eq]
theorem b_mul:bin2 P .mul t (.int k a) (.int k b)=some (.int k (k.wrap (a*b))):=by
 show kEq k k (mulI k a b)=_;rw [kEq_same,mulI_eq]
theorem remI_eq (h:b≠0):remI k a b=some (.int k (a.tmod b)):=by
 cases a with
 | ofNat x =>
  cases b with
  | ofNat y =>
   cases y with
   | zero=>exact absurd rfl h
   | succ y=>rfl
  | negSucc y=>show remSlow k _ _=_;unfold remSlow;rw [if_neg h]
 | negSucc x=>show remSlow k _ _=_;unfold remSlow;rw [if_neg h]
theorem b_rem (h:b≠0):bin2 P .rem t (.int k a) (.int k b)=some (.int k (a.tmod b)):=by
 show kEq k k (remI k a b)=_;rw [kEq_same,remI_eq h]
theorem b_eql:bin2 P .eql t (.int k a) (.int k b)=some (.bool (decide (a=b))):=by
 show Option.rec (motive:=fun _=>Option AV) none yesB (kEq k k (some (eqI a b)))=_
 rw [kEq_same,eqI_eq];rfl
theorem b_neq:bin2 P .neq t (.int k a) (.int k b)=some (.bool (!decide (a=b))):=by
 show Option.rec (motive:=fun _=>Option AV) none (fun b=>yesB (notB b)) (kEq k k (some (eqI a b)))=_
 rw [kEq_same,eqI_eq]
 show yesB (notB (a==b))=_
 rw [notB_eq];rfl
theorem b_eqlS:bin2 P .eql t (.str s) (.str u)=some (.bool (decide (s=u))):=by
 show yesB (strEq s u)=_
 rw [strEq_eq]
 show some (AV.bool (s==u))=_
 by_cases h:s=u <;> simp [h]
theorem b_neqS:bin2 P .neq t (.str s) (.str u)=some (.bool (!decide (s=u))):=by
 show yesB (notB (strEq s u))=_
 rw [strEq_eq,notB_eq]
 show some (AV.bool (!(s==u)))=_
 by_cases h:s=u <;> simp [h]
theorem b_addS (h:s.length+u.length<=1099511627776):bin2 P .add t (.str s) (.str u)=some (.str (s++u)):=by
 show addS s u=_
 unfold addS
 rw [len'_eq,len'_eq,app'_eq,show Nat.ble (Nat.add s.length u.length) 1099511627776=true from Nat.ble_eq_true_of_le h]
theorem b_neqB {x y:Bool} (hu:P.underlying t=some .bool):bin2 P .neq t (.bool x) (.bool y)=some (.bool (!(x==y))):=by
 show Option.rec (motive:=fun _=>Option AV) none (fun b=>yesB (notB b)) (eqPlain P 50 t (.bool x) (.bool y))=_
 unfold eqPlain;rw [hu]
 show yesB (notB (eqB x y))=_
 rw [eqB_eq,notB_eq];rfl
theorem b_eqlP {e:TypeId} {x:Option (Nat×Nat)} (hu:P.underlying t=some (.pointer e)):bin2 P .eql t (.ptr x) (.ptr none)=some (.bool x.isNone):=by
 show Option.rec (motive:=fun _=>Option AV) none yesB (eqPlain P 50 t (.ptr x) (.ptr none))=_
 unfold eqPlain;rw [hu]
 cases x <;> rfl
theorem b_neqP {e:TypeId} {x:Option (Nat×Nat)} (hu:P.underlying t=some (.pointer e)):bin2 P .neq t (.ptr x) (.ptr none)=some (.bool x.isSome):=by
 show Option.rec (motive:=fun _=>Option AV) none (fun b=>yesB (notB b)) (eqPlain P 50 t (.ptr x) (.ptr none))=_
 unfold eqPlain;rw [hu]
 cases x <;> rfl
theorem b_neqM {e f:TypeId} {x:Option Nat} (hu:P.underlying t=some (.map e f)):bin2 P .neq t (.map x) (.map none)=some (.bool x.isSome):=by
 show Option.rec (motive:=fun _=>Option AV) none (fun b=>yesB (notB b)) (eqPlain P 50 t (.map x) (.map none))=_
 unfold eqPlain;rw [hu]
 cases x <;> rfl
theorem b_eqlL {e:TypeId} {x:Option (Nat×Nat)} {n c:Nat} {g:Option Nat} (hu:P.underlying t=some (.slice e)):bin2 P .eql t (.slice x n c g) (.slice none 0 0 none)=some (.bool x.isNone):=by
 show Option.rec (motive:=fun _=>Option AV) none yesB (eqPlain P 50 t (.slice x n c g) (.slice none 0 0 none))=_
 unfold eqPlain;rw [hu]
 cases x <;> rfl
end
theorem u_not {b:Bool}:un1 .not (.bool b)=some (.bool (!b)):=by show yesB (notB b)=_;rw [notB_eq];rfl
theorem w_true {b:Bool}:wanted true (.bool b)=b:=by show eqB b true=b;cases b <;> rfl
theorem w_false {b:Bool}:wanted false (.bool b)=!b:=by show eqB b false=!b;cases b <;> rfl
theorem mx_int {k l:IntKind} {a b:Int}:folds max2 [.int k a,.int l b]=some (.int k (max a b)):=by
 have:Bool.rec (motive:=fun _=>Int) a b (ltI a b)=max a b:=by
  rw [ltI_eq]
  by_cases h:a<b
  ·rw [show decide (a<b)=true from decide_eq_true h,show max a b=b from by omega]
  ·rw [show decide (a<b)=false from decide_eq_false h,show max a b=a from by omega]
 show some (AV.int k (Bool.rec (motive:=fun _=>Int) a b (ltI a b)))=_
 rw [this]
theorem mn_int {k l:IntKind} {a b:Int}:folds min2 [.int k a,.int l b]=some (.int k (min a b)):=by
 have:Bool.rec (motive:=fun _=>Int) a b (ltI b a)=min a b:=by
  rw [ltI_eq]
  by_cases h:b<a
  ·rw [show decide (b<a)=true from decide_eq_true h,show min a b=b from by omega]
  ·rw [show decide (b<a)=false from decide_eq_false h,show min a b=a from by omega]
 show some (AV.int k (Bool.rec (motive:=fun _=>Int) a b (ltI b a)))=_
 rw [this]
theorem wrap_i64 {n:Int} (h:-9223372036854775808<=n) (h':n<=9223372036854775807):IntKind.i64.wrap n=n:=by
 simp [IntKind.wrap,IntKind.signed,IntKind.bits]
 omega
theorem wrap_u32 {n:Int} (h:0<=n) (h':n<=4294967295):IntKind.u32.wrap n=n:=by
 simp [IntKind.wrap,IntKind.signed,IntKind.bits]
 omega
theorem wrap_u8 {n:Int} (h:0<=n) (h':n<=255):IntKind.u8.wrap n=n:=by
 simp [IntKind.wrap,IntKind.signed,IntKind.bits]
 omega
section
variable {β : Type}
theorem l1_one {f:AV->Option β} {a:AV}:l1 f [a]=f a:=rfl
theorem l2_two {f:AV->AV->Option β} {a b:AV}:l2 f [a,b]=f a b:=rfl
theorem l3_three {f:AV->AV->AV->Option β} {a b c:AV}:l3 f [a,b,c]=f a b c:=rfl
end
theorem g_loc0 {a:AV} {l:List AV} {vs tm:Tr AV}:Opd.get (.loc 0) (a::l) vs tm=some a:=rfl
theorem g_locS {a:AV} {l:List AV} {vs tm:Tr AV} {n:Nat}:Opd.get (.loc (n+1)) (a::l) vs tm=Opd.get (.loc n) l vs tm:=rfl
theorem g_tmp {l:List AV} {vs tm:Tr AV} {t:Nat}:Opd.get (.tmp t) l vs tm=tm.gt t:=rfl
theorem g_cst {l:List AV} {vs tm:Tr AV} {v:AV}:Opd.get (.cst v) l vs tm=some v:=rfl
theorem fill_nil {t:Tr AV} {i:Nat}:fillC [] t i=t:=rfl
theorem fill_cons {v:AV} {vs:List AV} {t:Tr AV} {i:Nat}:fillC (v::vs) t i=fillC vs (t.up (some v) i) (i+1):=rfl
theorem gt_leaf {α : Type} {n:Nat}:(Tr.leaf:Tr α).gt n=none:=rfl
theorem gt_same {α : Type} {t:Tr α} {x:Option α} {n:Nat}:(t.up x n).gt n=x:=by rw [Tr.gt_up,if_pos rfl]
theorem gt_other {α : Type} {t:Tr α} {x:Option α} {n m:Nat} (h:(m==n)=false):(t.up x n).gt m=t.gt m:=by
 rw [Tr.gt_up,if_neg (by simpa using h)]
theorem t_nth {i:Nat} {vs:List AV}:nthTuple i (.tuple vs)=vs[i]?:=by show nth vs i=_;rw [nth_eq]
theorem o_bool {b:Bool}:(AV.bool b).one=true:=rfl
theorem o_int {k:IntKind} {n:Int}:(AV.int k n).one=true:=rfl
theorem o_str {s:List Nat}:(AV.str s).one=true:=rfl
theorem o_ptr {p:Option (Nat×Nat)}:(AV.ptr p).one=true:=rfl
theorem o_slice {p:Option (Nat×Nat)} {n c:Nat} {g:Option Nat}:(AV.slice p n c g).one=true:=rfl
theorem o_map {p:Option Nat}:(AV.map p).one=true:=rfl
section
variable {P:Program} {tm:Tr AV} {h:Heap}
theorem resA_nil:resA P [] ⟨tm,h⟩=some []:=rfl
theorem resA_tmp {t:Nat} {rs:List ResultVar}:resA P (.tmp t::rs) ⟨tm,h⟩=match tm.gt t with
  | none=>none
  | some v=>match resA P rs ⟨tm,h⟩ with
   | none=>none
   | some vs=>some (v::vs):=by
 show ob (tm.gt t) (fun v=>ob (resA P rs ⟨tm,h⟩) fun vs=>some (v::vs))=_
 cases tm.gt t with
 | none=>rfl
 | some v=>cases resA P rs ⟨tm,h⟩ <;> rfl
theorem resA_cell {a t:Nat} {rs:List ResultVar}:resA P (.cell a t::rs) ⟨tm,h⟩=match tm.gt a with
  | none=>none
  | some p=>match resC P t h p with
   | none=>none
   | some v=>match resA P rs ⟨tm,h⟩ with
    | none=>none
    | some vs=>some (v::vs):=by
 show ob (ob (tm.gt a) (resC P t h)) (fun v=>ob (resA P rs ⟨tm,h⟩) fun vs=>some (v::vs))=_
 cases tm.gt a with
 | none=>rfl
 | some p =>
  show ob (resC P t h p) (fun v=>ob (resA P rs ⟨tm,h⟩) fun vs=>some (v::vs))=(match resC P t h p with
   | none=>none
   | some v=>match resA P rs ⟨tm,h⟩ with
    | none=>none
    | some vs=>some (v::vs))
  cases resC P t h p with
  | none=>rfl
  | some v =>
   show ob (resA P rs ⟨tm,h⟩) (fun vs=>some (v::vs))=_
   cases resA P rs ⟨tm,h⟩ <;> rfl
theorem okP_true {v:AV} {b:Bool}:okPair true v b=.tuple [v,.bool b]:=rfl
theorem okP_false {v:AV} {b:Bool}:okPair false v b=v:=rfl
theorem tupled_nil:tupled []=.tuple []:=rfl
theorem tupled_one {v:AV}:tupled [v]=v:=rfl
theorem tupled_more {v u:AV} {r:List AV}:tupled (v::u::r)=.tuple (v::u::r):=rfl
end
section
variable {h:Heap} {b o:Nat} {v:AV}
theorem m_load:load1 h (.ptr (some (b,o)))=h.ld1 b o:=rfl
theorem m_loadN {n:Nat}:loadN n h (.ptr (some (b,o)))=match h.ld b o n with
  | none=>none
  | some vs=>some (.agg vs):=by
 show (Option.rec (motive:=fun _=>Option AV) none (fun vs=>some (.agg vs)) (h.ld b o n):Option AV)=_
 cases h.ld b o n <;> rfl
theorem m_store:store1 h (.ptr (some (b,o))) v=match h.st1 b o v with
  | none=>none
  | some h'=>some (undefA,h'):=by
 show (Option.rec (motive:=fun _=>Option (AV×Heap)) none (fun h=>some (undefA,h)) (h.st1 b o v):Option (AV×Heap))=_
 cases h.st1 b o v <;> rfl
theorem n_ptr {a:Nat×Nat}:notNil (.ptr (some a))=some (.ptr (some a)):=rfl
end
end Go.Am
namespace Go.Am
def Rw (h:Heap) (b:Nat) (vs z:List AV) (ro:Bool):Prop:=∃ t,h.bs.gt b=some (.cells t z vs.length ro)/\∀ i,i<vs.length->cellAt t z i=vs[i]?
def Sm (F:Nat->Prop) (h h':Heap):Prop:=h.next<=h'.next/\∀ c,c<h.next->¬F c->h'.bs.gt c=h.bs.gt c
def NoB:Nat->Prop:=fun _=>False
theorem Sm.refl (F:Nat->Prop) (h:Heap):Sm F h h:=⟨Nat.le_refl _,fun _ _ _=>rfl⟩
theorem Sm.trans {F G H:Nat->Prop} {h h' h'':Heap} (a:Sm F h h') (b:Sm G h' h'') (hF:∀ c,c<h.next->F c->H c) (hG:∀ c,c<h.next->G c->H c):Sm H h h'' :=
 ⟨Nat.le_trans a.1 b.1,fun c hc hH=>(b.2 c (Nat.lt_of_lt_of_le hc a.1) fun hg=>hH (hG c hc hg)).trans (a.2 c hc fun hf=>hH (hF c hc hf))⟩
theorem Sm.mono {F G:Nat->Prop} {h h':Heap} (a:Sm F h h') (hG:∀ c,c<h.next->F c->G c):Sm G h h':=⟨a.1,fun c hc hF=>a.2 c hc fun hg=>hF (hG c hc hg)⟩
theorem Sm.bump (h:Heap) (n:Nat):∃ hb,Heap.mk h.bs (h.next+n)=hb/\Sm NoB h hb/\hb.bs=h.bs/\hb.next=h.next+n:=⟨_,rfl,⟨Nat.le_add_right _ _,fun _ _ _=>rfl⟩,rfl,rfl⟩
theorem Sm.no {F:Nat->Prop} {h h':Heap} (a:Sm NoB h h'):Sm F h h':=a.mono fun _ _ h=>h.elim
section
variable {h h':Heap} {b:Nat} {vs z:List AV} {ro:Bool}
theorem Rw.same (hr:Rw h b vs z ro) (he:h'.bs.gt b=h.bs.gt b):Rw h' b vs z ro:=by obtain ⟨t,h1,h2⟩:=hr;exact ⟨t,he.trans h1,h2⟩
theorem Rw.sm {F:Nat->Prop} (hr:Rw h b vs z ro) (hs:Sm F h h') (hb:b<h.next) (hF:¬F b):Rw h' b vs z ro:=hr.same (hs.2 b hb hF)
theorem Rw.ld1 (hr:Rw h b vs z ro) (i:Nat):h.ld1 b i=vs[i]?:=by
 obtain ⟨t,h1,h2⟩:=hr
 unfold Heap.ld1 Heap.cells
 rw [h1]
 show (Bool.rec (motive:=fun _=>Option AV) none (cellAt t z i) (Nat.ble (i+1) vs.length):Option AV)=_
 by_cases hi:i<vs.length
 ·rw [show Nat.ble (i+1) vs.length=true from Nat.ble_eq_true_of_le hi];exact h2 i hi
 ·rw [show Nat.ble (i+1) vs.length=false from by cases hb:Nat.ble (i+1) vs.length with | false=>rfl | true=>exact absurd (Nat.le_of_ble_eq_true hb) (by omega)]
  exact (List.getElem?_eq_none (by omega)).symm
theorem loadC_row {t:Tr AV}:∀ (n i:Nat),i+n<=vs.length->(∀ i,i<vs.length->cellAt t z i=vs[i]?)->loadC t z n i=some ((vs.drop i).take n)
 | 0,i,_,_=>by rw [List.take_zero];rfl
 | n+1,i,h1,h2=>by
  rw [loadC_succ,h2 i (by omega),List.getElem?_eq_getElem (by omega),loadC_row n (i+1) (by omega) h2]
  show some (vs[i]::_)=_
  rw [List.drop_eq_getElem_cons (show i<vs.length by omega)]
  rfl
theorem Rw.ld (hr:Rw h b vs z ro) {i n:Nat} (hi:i+n<=vs.length):h.ld b i n=some ((vs.drop i).take n):=by
 obtain ⟨t,h1,h2⟩:=hr
 unfold Heap.ld Heap.cells
 rw [h1]
 show (Bool.rec (motive:=fun _=>Option (List AV)) none (loadC t z n i) (Nat.ble (i+n) vs.length):Option (List AV))=_
 rw [show Nat.ble (i+n) vs.length=true from Nat.ble_eq_true_of_le hi]
 exact loadC_row n i hi h2
def putL (vs:List AV) (o:Nat) (us:List AV):List AV:=vs.take o++(us++vs.drop (o+us.length))
theorem putL_length {o:Nat} {us:List AV} (ho:o+us.length<=vs.length):(putL vs o us).length=vs.length:=by
 unfold putL;simp;omega
theorem putL_get {o:Nat} {us:List AV} (ho:o+us.length<=vs.length) (i:Nat):(putL vs o us)[i]?=if o<=i/\i<o+us.length then us[i - o]? else vs[i]?:=by
 unfold putL
 by_cases h1:i<o
 ·rw [List.getElem?_append_left (by simp;omega),if_neg (by omega),List.getElem?_take_of_lt h1]
 ·rw [List.getElem?_append_right (by simp;omega)]
  simp only [List.length_take]
  rw [show min o vs.length=o from by omega]
  by_cases h2:i<o+us.length
  ·rw [if_pos (by omega),List.getElem?_append_left (by omega)]
  ·rw [if_neg (by omega),List.getElem?_append_right (by omega),List.getElem?_drop]
   congr 1;omega
theorem putL_one {o:Nat} {u:AV} (ho:o<vs.length):putL vs o [u]=vs.set o u:=by
 apply List.ext_getElem?
 intro i
 rw [putL_get (by simp;omega),List.getElem?_set]
 by_cases e:o=i
 ·subst e;simp [ho]
 ·rw [if_neg (by simp;omega),if_neg e]
noncomputable def Heap.wr (h:Heap) (b o:Nat) (us:List AV):Heap:=(h.sto b o us).getD h
theorem Rw.sto (hr:Rw h b vs z false) {o:Nat} {us:List AV} (ho:o+us.length<=vs.length) (h1:us.all AV.one=true) :
  h.sto b o us=some (h.wr b o us)/\Rw (h.wr b o us) b (putL vs o us) z false/\(h.wr b o us).next=h.next/\∀ c,c≠b->(h.wr b o us).bs.gt c=h.bs.gt c:=by
 obtain ⟨t,g1,g2⟩:=hr
 have e:h.sto b o us=some (h.put b (.cells (fillC us t o) z vs.length false)):=by
  unfold Heap.sto Heap.cells
  rw [g1]
  show (Bool.rec (motive:=fun _=>Option Heap) none (Bool.rec (motive:=fun _=>Option Heap) none (some _) (allOne us)) (Nat.ble (o+len' us) vs.length):Option Heap)=_
  rw [len'_eq,show Nat.ble (o+us.length) vs.length=true from Nat.ble_eq_true_of_le ho,allOne_eq,h1]
 have e2:h.wr b o us=h.put b (.cells (fillC us t o) z vs.length false):=by unfold Heap.wr;rw [e];rfl
 refine ⟨by rw [e,e2],?_,by rw [e2];rfl,fun c hc=>by rw [e2,put_get,if_neg hc]⟩
 rw [e2]
 refine ⟨fillC us t o,by rw [put_get,if_pos rfl,putL_length ho],fun i hi=>?_⟩
 rw [putL_length ho] at hi
 rw [putL_get ho]
 unfold cellAt
 rw [gt_fillC]
 by_cases hin:o<=i/\i<o+us.length
 ·rw [if_pos hin,if_pos hin,List.getElem?_eq_getElem (by omega)]
 ·rw [if_neg hin,if_neg hin];exact g2 i hi
theorem st1_eq_sto (h:Heap) (b o:Nat) (v:AV):h.st1 b o v=h.sto b o [v]:=by
 unfold Heap.st1 Heap.sto Heap.cells
 cases h.bs.gt b with
 | none=>rfl
 | some x =>
  cases x with
  | cells t z n r =>
   cases r with
   | true=>rfl
   | false =>
    show (Bool.rec (motive:=fun _=>Option Heap) none (Bool.rec (motive:=fun _=>Option Heap) none _ v.one) (Nat.ble (o+1) n):Option Heap)=(Bool.rec (motive:=fun _=>Option Heap) none (Bool.rec (motive:=fun _=>Option Heap) none _ (allOne [v])) (Nat.ble (o+1) n):Option Heap)
    rw [allOne_eq,show [v].all AV.one=v.one from by simp]
    rfl
  | _=>rfl
theorem Rw.st1 (hr:Rw h b vs z false) {o:Nat} {v:AV} (ho:o<vs.length) (h1:v.one=true) :
  h.st1 b o v=some (h.wr b o [v])/\Rw (h.wr b o [v]) b (vs.set o v) z false/\(h.wr b o [v]).next=h.next/\∀ c,c≠b->(h.wr b o [v]).bs.gt c=h.bs.gt c:=by
 obtain ⟨a,c,d,e⟩:=hr.sto (o:=o) (us:=[v]) (by simp only [List.length_cons,List.length_nil];omega) (by simpa using h1)
 exact ⟨by rw [st1_eq_sto];exact a,by rw [← putL_one ho];exact c,d,e⟩
theorem Rw.new {id:Nat} (hid:h.next<=id):Rw (h.new id (.cells (fillC vs .leaf 0) z vs.length ro)) id vs z ro/\(h.new id (.cells (fillC vs .leaf 0) z vs.length ro)).next=id+1/\∀ c,c≠id->(h.new id (.cells (fillC vs .leaf 0) z vs.length ro)).bs.gt c=h.bs.gt c:=by
 rw [new_eq hid]
 refine ⟨⟨fillC vs .leaf 0,by show (h.bs.up _ id).gt id=_;rw [Tr.gt_up,if_pos rfl],fun i hi=>?_⟩,rfl,fun c hc=>by show (h.bs.up _ id).gt c=_;rw [Tr.gt_up,if_neg hc]⟩
 unfold cellAt
 rw [gt_fillC,if_pos (by omega),Nat.sub_zero,List.getElem?_eq_getElem hi]
theorem new_next' {id:Nat} (hid:h.next<=id) (x:Blk):(h.new id x).next=id+1:=by rw [new_eq hid]
theorem new_get' {id:Nat} (hid:h.next<=id) (x:Blk) (c:Nat):(h.new id x).bs.gt c=if c=id then some x else h.bs.gt c:=by rw [new_eq hid];exact Tr.gt_up _ _ _ _
end
end Go.Am
namespace Go.Am
section
variable {P:Program} {t e:TypeId} {k:IntKind} {s:Nat}
theorem len_str (hu:P.underlying t=some .string) (l:List Nat):len1 P t (.str l)=some (.int .i64 l.length):=by
 unfold len1;rw [hu];show goLen (len' l)=_;rw [len'_eq];rfl
theorem len_slice (hu:P.underlying t=some (.slice e)) (a:Option (Nat×Nat)) (n c:Nat) (g:Option Nat):len1 P t (.slice a n c g)=some (.int .i64 n):=by
 unfold len1;rw [hu];rfl
theorem byteAt_get:∀ (s:List Nat) (i:Nat),byteAt s i=s[i]?.map fun c=>.int .u8 (c:Int)
 | [],_=>rfl
 | c::s,0=>rfl
 | c::s,i+1=>byteAt_get s i
theorem ix_str (hu:P.underlying t=some .string) (l:List Nat) (i:Nat):index2 P t (.str l) (.int k (i:Int))=l[i]?.map fun c=>.int .u8 (c:Int):=by
 unfold index2;rw [hu];exact byteAt_get l i
theorem cv_int {src dst:TypeId} {d:TypeDesc} (hs:P.underlying src=some d) (hd:P.underlying dst=some (.int k)) (l:IntKind) (n:Int):conv1 P src dst (.int l n)=some (.int k (k.wrap n)):=by
 unfold conv1;rw [hs,hd]
 show (Int.rec (motive:=fun _=>Option AV) (fun x=>fit k x) (fun _=>wrapV k n) n:Option AV)=_
 cases n with
 | ofNat x=>exact fit_eq k x
 | negSucc x=>rfl
theorem inRange_in {n i:Nat} {f:Nat->Option AV} (hi:i<n):inRange n (i:Int) f=f i:=by
 show (Bool.rec (motive:=fun _=>Option AV) none (f i) (Nat.ble (i+1) n):Option AV)=_
 rw [show Nat.ble (i+1) n=true from Nat.ble_eq_true_of_le hi]
theorem ia_slice (hu:P.underlying t=some (.slice e)) (hs:tSize P e=some s) {b o n c i:Nat} {g:Option Nat} (hi:i<n):indexAddr2 P t (.slice (some (b,o)) n c g) (.int k (i:Int))=some (.ptr (some (b,o+i*s))):=by
 unfold indexAddr2;rw [hu];simp only [hs]
 show inRange n (i:Int) (fun i=>some (.ptr (some (b,Nat.add o (Nat.mul i s)))))=_
 rw [inRange_in hi];rfl
theorem ia_arr {n:Nat} (hu:P.underlying t=some (.array n e)) (hs:tSize P e=some s) {b o i:Nat} (hi:i<n):indexAddr2 P t (.ptr (some (b,o))) (.int k (i:Int))=some (.ptr (some (b,o+i*s))):=by
 unfold indexAddr2;rw [hu];simp only [hs]
 show inRange n (i:Int) (fun i=>some (.ptr (some (b,Nat.add o (Nat.mul i s)))))=_
 rw [inRange_in hi];rfl
theorem bound_at {d y n:Nat} {f:Nat->Option AV} (h:n<=y):boundV d y (some (.int k (n:Int))) f=f n:=by
 show (Bool.rec (motive:=fun _=>Option AV) none (f n) (Nat.ble n y):Option AV)=_
 rw [show Nat.ble n y=true from Nat.ble_eq_true_of_le h]
section
variable {l:List Nat} {lo hi:Nat}
theorem sl_str010 (hu:P.underlying t=some .string) (h:hi<=l.length):sliceN P t false true false [.str l,.int k (hi:Int)]=some (.str (l.take hi)):=by
 show sliceV P t (.str l) none (some (.int k (hi:Int))) none=_
 unfold sliceV;rw [hu]
 show boundV (len' l) (len' l) (some (.int k (hi:Int))) (fun h=>some (.str (take' (Nat.sub h 0) (drop' 0 l))))=_
 rw [bound_at (by rw [len'_eq];exact h),take'_eq,drop'_eq];rfl
end
section
variable {a:Option (Nat×Nat)} {n c lo hi mx:Nat} {g:Option Nat}
theorem sl_100 (hu:P.underlying t=some (.slice e)) (hs:tSize P e=some s) (hg:gOk g s=true) (h:lo<=n) :
  sliceN P t true false false [.slice a n c g,.int k (lo:Int)]=some (.slice (a.map fun p=>(p.1,p.2+lo*s)) (n - lo) (c - lo) g):=by
 show sliceV P t (.slice a n c g) (some (.int k (lo:Int))) none none=_
 unfold sliceV;rw [hu];simp only [hs]
 show iff' (gOk g s) (boundV 0 n (some (.int k (lo:Int))) fun l=>some (.slice (a.map fun p=>(p.1,p.2+l*s)) (n - l) (c - l) g))=_
 rw [hg,bound_at h];rfl
theorem sl_010 (hu:P.underlying t=some (.slice e)) (hs:tSize P e=some s) (hg:gOk g s=true) (h:hi<=c) :
  sliceN P t false true false [.slice a n c g,.int k (hi:Int)]=some (.slice (a.map fun p=>(p.1,p.2+0*s)) (hi - 0) (c - 0) g):=by
 show sliceV P t (.slice a n c g) none (some (.int k (hi:Int))) none=_
 unfold sliceV;rw [hu];simp only [hs]
 show iff' (gOk g s) (boundV n c (some (.int k (hi:Int))) fun x=>some (.slice (a.map fun p=>(p.1,p.2+0*s)) (x - 0) (c - 0) g))=_
 rw [hg,bound_at h];rfl
end
def kInt (k:IntKind) (n:Int) (e:MEnt):Bool:=match e.key with
 | .int l m=>l==k&&m==n
 | _=>false
def AllInt (k:IntKind) (es:List MEnt):Prop:=∀ e,e∈es->∃ n,e.key=.int k n
theorem keyEq_int (hu:P.underlying t=some (.int k)) (n m:Int):keyEq P t (.int k n) (.int k m)=some (n==m):=by
 unfold keyEq;rw [hu]
 show kEq k k (some (eqI n m))=_
 rw [kEq_same,eqI_eq]
theorem findE_int (hu:P.underlying t=some (.int k)) (n:Int):∀ es:List MEnt,AllInt k es->findE (keyEq P t) (.int k n) es=some ((es.find? (kInt k n)).map (·.val))
 | [],_=>rfl
 | e::es,ha=>by
  obtain ⟨m,hm⟩:=ha e (List.mem_cons_self ..)
  have ih:=findE_int hu n es fun x hx=>ha x (List.mem_cons_of_mem _ hx)
  show (Option.rec (motive:=fun _=>Option (Option AV)) none (fun b=>Bool.rec (motive:=fun _=>Option (Option AV)) (findE (keyEq P t) (.int k n) es) (some (some e.val)) b) (keyEq P t (.int k n) e.key):Option (Option AV))=_
  rw [hm,keyEq_int hu,List.find?_cons]
  have hk:kInt k n e=(n==m):=by
   unfold kInt;rw [hm]
   have hkk:(k==k)=true:=by cases k <;> rfl
   show (k==k&&m==n)=(n==m)
   rw [hkk,Bool.true_and]
   by_cases e:n=m
   ·subst e;rfl
   ·have e':¬m=n:=fun h=>e h.symm
    rw [show (m==n)=false from by simpa using e',show (n==m)=false from by simpa using e]
  rw [hk]
  cases n==m with
  | true=>rfl
  | false=>exact ih
theorem lk_int {kt:TypeId} {z:AV} {ok:Bool} (hu:P.underlying t=some (.map kt e)) (hk:P.underlying kt=some (.int k)) (hz:tZero P e=some z) {h:Heap} {b c:Nat} {es:List MEnt} (hb:h.bs.gt b=some (.map es c)) (ha:AllInt k es) (n:Int) :
  lookup2 P t ok (.map (some b)) (.int k n) h=some (match es.find? (kInt k n) with | some x=>okPair ok x.val true | none=>okPair ok z false):=by
 unfold lookup2;rw [hu];simp only [hz]
 have hko:keyOk P kt (.int k n)=true:=by unfold keyOk;rw [hk];rfl
 rw [hko]
 show h.theMap b (fun es _=>Option.rec (motive:=fun _=>Option AV) none (fun r=>Option.rec (motive:=fun _=>Option AV) (some (okPair ok z false)) (fun v=>some (okPair ok v true)) r) (findE (keyEq P kt) (.int k n) es))=_
 unfold Heap.theMap;rw [hb]
 show (Option.rec (motive:=fun _=>Option AV) none _ (findE (keyEq P kt) (.int k n) es):Option AV)=_
 rw [findE_int hk n es ha]
 cases es.find? (kInt k n) <;> rfl
def putE (k:IntKind) (n:Int) (v:AV) (clock:Nat):List MEnt->List MEnt
 | []=>[MEnt.mk (.int k n) v clock]
 | e::es=>if kInt k n e then MEnt.mk (.int k n) v e.born::es else e::putE k n v clock es
def cutE (k:IntKind) (n:Int):List MEnt->List MEnt
 | []=>[]
 | e::es=>if kInt k n e then es else e::cutE k n es
theorem updE_int (hu:P.underlying t=some (.int k)) (n:Int) (v:AV):∀ es:List MEnt,AllInt k es->updE (keyEq P t) (.int k n) v es=some (if es.any (kInt k n) then some (putE k n v 0 es) else none)
 | [],_=>rfl
 | e::es,ha=>by
  obtain ⟨m,hm⟩:=ha e (List.mem_cons_self ..)
  have ih:=updE_int hu n v es fun x hx=>ha x (List.mem_cons_of_mem _ hx)
  show (Option.rec (motive:=fun _=>Option (Option (List MEnt))) none (fun b=>Bool.rec (motive:=fun _=>Option (Option (List MEnt)))
   (Option.rec (motive:=fun _=>Option (Option (List MEnt))) none (fun o=>Option.rec (motive:=fun _=>Option (Option (List MEnt))) (some none) (fun l=>some (some (e::l))) o) (updE (keyEq P t) (.int k n) v es))
   (iff' (AV.same (.int k n) e.key) (some (some (MEnt.mk (.int k n) v e.born::es)))) b) (keyEq P t (.int k n) e.key):Option (Option (List MEnt)))=_
  rw [hm,keyEq_int hu,ih]
  have hk:kInt k n e=(n==m):=by
   unfold kInt;rw [hm]
   have hkk:(k==k)=true:=by cases k <;> rfl
   show (k==k&&m==n)=(n==m)
   rw [hkk,Bool.true_and]
   by_cases e:n=m
   ·subst e;rfl
   ·have e':¬m=n:=fun h=>e h.symm
    rw [show (m==n)=false from by simpa using e',show (n==m)=false from by simpa using e]
  rw [List.any_cons,hk]
  by_cases h:n=m
  ·subst h
   have hs:AV.same (.int k n) (.int k n)=true:=by simp [AV.same]
   have hp:putE k n v 0 (e::es)=MEnt.mk (.int k n) v e.born::es:=by rw [putE,hk];simp
   simp only [beq_self_eq_true,Bool.true_or,if_true,hs,hp]
   rfl
  ·have hb:(n==m)=false:=by simpa using h
   have hp:putE k n v 0 (e::es)=e::putE k n v 0 es:=by rw [putE,hk,hb];rfl
   rw [hb,Bool.false_or,hp]
   cases es.any (kInt k n) <;> rfl
theorem putE_clock {k:IntKind} {n:Int} {v:AV} {c d:Nat}:∀ {es:List MEnt},es.any (kInt k n)=true->putE k n v c es=putE k n v d es
 | [],h=>by cases h
 | e::es,h=>by
  unfold putE
  cases hk:kInt k n e with
  | true=>rfl
  | false =>
   rw [List.any_cons,hk,Bool.false_or] at h
   rw [putE_clock h]
theorem putE_end {k:IntKind} {n:Int} {v:AV} {c:Nat}:∀ {es:List MEnt},es.any (kInt k n)=false->putE k n v c es=es++[MEnt.mk (.int k n) v c]
 | [],_=>rfl
 | e::es,h=>by
  rw [List.any_cons,Bool.or_eq_false_iff] at h
  rw [putE,h.1,putE_end h.2];rfl
theorem mu_int {kt:TypeId} (hu:P.underlying t=some (.map kt e)) (hk:P.underlying kt=some (.int k)) {h:Heap} {b c:Nat} {es:List MEnt} (hb:h.bs.gt b=some (.map es c)) (ha:AllInt k es) (n:Int) (v:AV) :
  mapUpd P t (.map (some b)) (.int k n) v h=some (undefA,h.put b (.map (putE k n v c es) (if es.any (kInt k n) then c else c+1))):=by
 unfold mapUpd;rw [hu]
 have hko:keyOk P kt (.int k n)=true:=by unfold keyOk;rw [hk];rfl
 simp only [hko]
 show h.theMap b (fun es clock=>Option.rec (motive:=fun _=>Option (AV×Heap)) none
    (fun r=>Option.rec (motive:=fun _=>Option (AV×Heap)) (some (undefA,h.put b (.map (app' es [MEnt.mk (.int k n) v clock]) (Nat.succ clock)))) (fun l=>some (undefA,h.put b (.map l clock))) r) (updE (keyEq P kt) (.int k n) v es))=_
 unfold Heap.theMap;rw [hb]
 show (Option.rec (motive:=fun _=>Option (AV×Heap)) none _ (updE (keyEq P kt) (.int k n) v es):Option (AV×Heap))=_
 rw [updE_int hk n v es ha]
 cases h1:es.any (kInt k n) with
 | true=>rw [if_pos rfl,if_pos rfl,putE_clock (c:=c) (d:=0) h1]
 | false =>
  rw [putE_end (c:=c) h1,app'_eq];rfl
theorem mm_map {kt:TypeId} (hu:P.underlying t=some (.map kt e)):makeMap1 P t true=some (.map [] 0,mapTo):=by unfold makeMap1;rw [hu]
theorem box_agg {cs:List AV} (h1:cs.all AV.one=true):box1 (.agg cs)=some (.cells (fillC cs .leaf 0) [] cs.length false,ptrTo):=by
 show iff' (allOne cs) (some (rowBlk cs,ptrTo))=_
 rw [allOne_eq,h1,len_rowBlk];rfl
theorem st_agg {n:Nat} {h:Heap} {b o:Nat} {cs:List AV} (hn:cs.length=n):storeN n h (.ptr (some (b,o))) (.agg cs)=match h.sto b o cs with
  | none=>none
  | some h'=>some (undefA,h'):=by
 show (Bool.rec (motive:=fun _=>Option (AV×Heap)) none (Option.rec (motive:=fun _=>Option (AV×Heap)) none (fun h=>some (undefA,h)) (h.sto b o cs)) (Nat.beq (len' cs) n):Option (AV×Heap))=_
 rw [len'_eq,hn,Nat.beq_refl]
 cases h.sto b o cs <;> rfl
end
end Go.Am
namespace Go.Am
theorem Rw.alloc (h:Heap) {id n:Nat} {vs z:List AV} {ro:Bool} (hid:h.next<=id) (hn:n=vs.length) :
  ∃ h1,h.new id (.cells (fillC vs .leaf 0) z n ro)=h1/\Rw h1 id vs z ro/\h1.next=id+1/\∀ c,c≠id->h1.bs.gt c=h.bs.gt c:=by
 subst hn
 obtain ⟨a,b,c⟩:=Rw.new (h:=h) (id:=id) (vs:=vs) (z:=z) (ro:=ro) hid
 exact ⟨_,rfl,a,b,c⟩
def Els (h:Heap) (v:AV) (n s:Nat) (cs:List AV):Prop :=
 cs.length=n*s/\∃ a c g,v=.slice a n c g/\(a=none->n=0)/\∀ b o,a=some (b,o)->b<h.next/\h.ld b o (n*s)=some cs
def ElsR (h:Heap) (v:AV) (n s:Nat) (cs:List AV):Prop :=
 cs.length=n*s/\∃ a c g,v=.slice a n c g/\(a=none->n=0)/\∀ b o,a=some (b,o)->b<h.next/\(0<n->h.ld b o (n*s)=some cs)
def SlO (e s:Nat) (h:Heap) (v:AV) (n:Nat) (cs:List AV) (bs:List Nat):Prop :=
 (v=.slice none 0 0 none/\n=0/\cs=[]/\bs=[]) ∨
 ∃ b c rest z,v=.slice (some (b,0)) n c (some s)/\cs.length=n*s/\(cs++rest).length=c*s/\n<=c/\Rw h b (cs++rest) z false/\b<h.next/\bs=[b]/\z=tyMark e false/\cs.all AV.one=true
section
variable {h h':Heap} {v:AV} {n s e:Nat} {cs:List AV} {bs:List Nat}
theorem ld_ld1 {h:Heap} {b o n:Nat} {cs:List AV} (hl:h.ld b o n=some cs):cs.length=n/\∀ j,j<n->h.ld1 b (o+j)=cs[j]?:=by
 obtain ⟨t,z,m,ro,h1,h2,h3,h4⟩:=ld_some hl
 refine ⟨h3,fun j hj=>?_⟩
 unfold Heap.ld1 Heap.cells
 rw [h1]
 show (Bool.rec (motive:=fun _=>Option AV) none (cellAt t z (o+j)) (Nat.ble (o+j+1) m):Option AV)=_
 rw [show Nat.ble (o+j+1) m=true from Nat.ble_eq_true_of_le (by omega)]
 exact h4 j hj
theorem Els.cell {a:Option (Nat×Nat)} {c:Nat} {g:Option Nat} (hv:Els h (.slice a n c g) n s cs) (hn:0<n):∃ b o,a=some (b,o)/\∀ j,j<n*s->h.ld1 b (o+j)=cs[j]?:=by
 obtain ⟨_,a',c',g',e,h1,h2⟩:=hv
 cases e
 cases a with
 | none=>have:=h1 rfl;omega
 | some p=>exact ⟨p.1,p.2,rfl,fun j hj=>(ld_ld1 (h2 p.1 p.2 rfl).2).2 j hj⟩
theorem ElsR.cell {a:Option (Nat×Nat)} {c:Nat} {g:Option Nat} (hv:ElsR h (.slice a n c g) n s cs) (hn:0<n):∃ b o,a=some (b,o)/\∀ j,j<n*s->h.ld1 b (o+j)=cs[j]?:=by
 obtain ⟨_,a',c',g',e,h1,h2⟩:=hv
 cases e
 cases a with
 | none=>have:=h1 rfl;omega
 | some p=>exact ⟨p.1,p.2,rfl,fun j hj=>(ld_ld1 ((h2 p.1 p.2 rfl).2 hn)).2 j hj⟩
theorem ElsR.lt {b o c:Nat} {g:Option Nat} (hv:ElsR h (.slice (some (b,o)) n c g) n s cs):b<h.next:=by
 obtain ⟨_,_,_,_,e,_,h2⟩:=hv
 cases e
 exact (h2 b o rfl).1
theorem srcOf_at {p:Nat×Nat} {c:Nat} {g:Option Nat}:srcOf s (fun n=>n) (.slice (some p) n c g) h=if n=0 then some ([],0) else match h.ld p.1 p.2 (n*s) with
  | none=>none
  | some vs=>some (vs,n):=by
 show (Bool.rec (motive:=fun _=>Option (List AV×Nat)) (Option.rec (motive:=fun _=>Option (List AV×Nat)) none (fun vs=>some (vs,n)) (h.ld p.1 p.2 (n*s))) (some ([],0)) (Nat.beq n 0):Option (List AV×Nat))=_
 cases n with
 | zero=>rfl
 | succ n =>
  rw [if_neg (by omega)]
  show (Option.rec (motive:=fun _=>Option (List AV×Nat)) none (fun vs=>some (vs,n+1)) (h.ld p.1 p.2 ((n+1)*s)):Option (List AV×Nat))=_
  cases h.ld p.1 p.2 ((n+1)*s) <;> rfl
theorem Els.src (hv:Els h v n s cs):srcOf s (fun n=>n) v h=some (cs,n):=by
 obtain ⟨h0,a,c,g,rfl,h1,h2⟩:=hv
 cases a with
 | none =>
  obtain rfl:=h1 rfl
  rw [Nat.zero_mul] at h0
  rw [List.eq_nil_of_length_eq_zero h0];rfl
 | some p =>
  rw [srcOf_at]
  by_cases h0':n=0
  ·subst h0'
   rw [Nat.zero_mul] at h0
   rw [if_pos rfl,List.eq_nil_of_length_eq_zero h0]
  ·rw [if_neg h0',(h2 p.1 p.2 rfl).2]
theorem ElsR.src (hv:ElsR h v n s cs):srcOf s (fun n=>n) v h=some (cs,n):=by
 obtain ⟨h0,a,c,g,rfl,h1,h2⟩:=hv
 cases a with
 | none =>
  obtain rfl:=h1 rfl
  rw [Nat.zero_mul] at h0
  rw [List.eq_nil_of_length_eq_zero h0];rfl
 | some p =>
  rw [srcOf_at]
  by_cases h0':n=0
  ·subst h0'
   rw [Nat.zero_mul] at h0
   rw [if_pos rfl,List.eq_nil_of_length_eq_zero h0]
  ·rw [if_neg h0',(h2 p.1 p.2 rfl).2 (by omega)]
theorem srcOf_row {b o c:Nat} {g:Option Nat} {vs z:List AV} {ro:Bool} (hr:Rw h b vs z ro) (hi:o+n*s<=vs.length):srcOf s (fun n=>n) (.slice (some (b,o)) n c g) h=some ((vs.drop o).take (n*s),n):=by
 rw [srcOf_at]
 by_cases h0:n=0
 ·subst h0
  rw [if_pos rfl,Nat.zero_mul,List.take_zero]
 ·rw [if_neg h0]
  show (match h.ld b o (n*s) with | none=>none | some vs=>some (vs,n))=_
  rw [hr.ld hi]
theorem SlO.els (ho:SlO e s h v n cs bs):Els h v n s cs:=by
 rcases ho with ⟨rfl,rfl,rfl,rfl⟩|⟨b,c,rest,z,rfl,h1,_,_,h2,hlt,_,_,_⟩
 ·exact ⟨by simp,none,0,none,rfl,fun _=>rfl,fun _ _ e=>by cases e⟩
 ·refine ⟨h1,some (b,0),c,some s,rfl,(fun e=>by cases e),fun b' o e=>?_⟩
  cases e
  exact ⟨hlt,by rw [h2.ld (by rw [List.length_append];omega),List.drop_zero,← h1,List.take_left' rfl]⟩
theorem Els.same {h':Heap} {b o c:Nat} {g:Option Nat} (hv:Els h (.slice (some (b,o)) n c g) n s cs) (hb:h'.bs.gt b=h.bs.gt b) (hn:h.next<=h'.next):Els h' (.slice (some (b,o)) n c g) n s cs:=by
 obtain ⟨h0,a,c',g',e,h1,h2⟩:=hv
 cases e
 refine ⟨h0,_,_,_,rfl,h1,fun b' o' e=>?_⟩
 cases e
 refine ⟨Nat.lt_of_lt_of_le (h2 b o rfl).1 hn,?_⟩
 rw [← (h2 b o rfl).2]
 unfold Heap.ld Heap.cells
 rw [hb]
theorem Els.lt {b o c:Nat} {g:Option Nat} (hv:Els h (.slice (some (b,o)) n c g) n s cs):b<h.next:=by
 obtain ⟨_,_,_,_,e,_,h2⟩:=hv
 cases e
 exact (h2 b o rfl).1
theorem SlO.len (ho:SlO e s h v n cs bs):cs.length=n*s:=ho.els.1
theorem SlO.lt (ho:SlO e s h v n cs bs):∀ b,b∈bs->b<h.next:=by
 rcases ho with ⟨_,_,_,rfl⟩|⟨b,c,rest,z,_,_,_,_,_,hlt,rfl,_,_⟩
 ·intro b hb;cases hb
 ·intro b' hb;rw [List.mem_singleton] at hb;subst hb;exact hlt
theorem SlO.same (ho:SlO e s h v n cs bs) (hb:∀ b,b∈bs->h'.bs.gt b=h.bs.gt b) (hn:h.next<=h'.next):SlO e s h' v n cs bs:=by
 rcases ho with h0|⟨b,c,rest,z,h1,h2,h3,h4,h5,h6,rfl,h7,h8⟩
 ·exact .inl h0
 ·exact .inr ⟨b,c,rest,z,h1,h2,h3,h4,h5.same (hb b (List.mem_singleton.2 rfl)),Nat.lt_of_lt_of_le h6 hn,rfl,h7,h8⟩
theorem SlO.sm {F:Nat->Prop} (ho:SlO e s h v n cs bs) (hs:Sm F h h') (hF:∀ b,b∈bs->¬F b):SlO e s h' v n cs bs :=
 ho.same (fun b hb=>hs.2 b (ho.lt b hb) (hF b hb)) hs.1
theorem SlO.one (ho:SlO e s h v n cs bs):cs.all AV.one=true:=by
 rcases ho with ⟨_,_,rfl,_⟩|⟨b,c,rest,z,_,_,_,_,_,_,_,_,h8⟩
 ·rfl
 ·exact h8
theorem SlO.nil {h:Heap}:SlO e s h (.slice none 0 0 none) 0 [] []:=.inl ⟨rfl,rfl,rfl,rfl⟩
theorem room_le {by' need:Nat} (h:need*by'<=68719476736) (h':need<=68719476736):room by' need=true:=by
 unfold room
 rw [and'_eq,Bool.and_eq_true]
 exact ⟨Nat.ble_eq_true_of_le h,Nat.ble_eq_true_of_le h'⟩
theorem fitsZ_own (e:Nat):fitsZ e (tyMark e false)=true:=by
 show (Bool.rec (motive:=fun _=>Bool) (Nat.beq e e) false false:Bool)=true
 exact Nat.beq_refl e
theorem zKeep_own (e:Nat):zKeep (tyMark e false)=tyMark e false:=rfl
theorem appNew_eq {size need id:Nat} {z:List AV} {h:Heap} {cs:List AV} (h1:cs.all AV.one=true):appNew size need z id h cs=some (.slice (some (id,0)) need need (some size),h.new id (.cells (fillC cs .leaf 0) z cs.length false)):=by
 unfold appNew;rw [allOne_eq,h1,len'_eq];rfl
theorem appendS_eq {P:Program} {t:TypeId} {k by' m len:Nat} {zv x:AV} {ys:List AV} (hu:P.underlying t=some (.slice e)) (hs:tSize P e=some (k+1)) (hb:tBytes P e=some by') (hz:tZero P e=some zv) (hzl:zv.cells.length=k+1)
  (hsrc:srcOf (k+1) (fun n=>n) x h=some (ys,m)) (hyl:ys.length=m*(k+1)) (hr:room by' (len+m)=true) (a:Option (Nat×Nat)) (cap:Nat) (g:Option Nat) (id:Nat) :
  appendS P t (.slice a len cap g) x id h=if m=0 then some (.slice a len cap g,h) else appAt (k+1) e a len cap g id h ys m:=by
 unfold appendS
 rw [hu]
 simp only [hs,hb,hz,Option.map_some,Option.getD_some,len'_eq,hzl,Nat.beq_refl]
 show (Option.rec (motive:=fun _=>Option (AV×Heap)) none (fun src=>iff' (and' (room by' (Nat.add len src.2)) (Nat.beq src.1.length (Nat.mul src.2 (k+1)))) (Nat.rec (motive:=fun _=>Option (AV×Heap)) (some (_,h)) (fun _ _=>appAt (k+1) e a len cap g id h src.1 src.2) src.2)) (srcOf (k+1) (fun n=>n) x h):Option (AV×Heap))=_
 rw [hsrc]
 show iff' (and' (room by' (len+m)) (Nat.beq ys.length (m*(k+1)))) (Nat.rec (motive:=fun _=>Option (AV×Heap)) (some (.slice a len cap g,h)) (fun _ _=>appAt (k+1) e a len cap g id h ys m) m)=_
 rw [hr,hyl,Nat.beq_refl]
 cases m <;> rfl
theorem app_zero {P:Program} {t:TypeId} {k by' m b id:Nat} {zv x:AV} {ys:List AV} (hu:P.underlying t=some (.slice e)) (hs:tSize P e=some (k+1)) (hb:tBytes P e=some by') (hz:tZero P e=some zv) (hzl:zv.cells.length=k+1)
  (hsrc:srcOf (k+1) (fun n=>n) x h=some (ys,m)) (hyl:ys.length=m*(k+1)) (hy1:ys.all AV.one=true) (hr:room by' (0+m)=true) (hb0:h.ld b 0 0=some []) :
  appendS P t (.slice (some (b,0)) 0 0 none) x id h=if m=0 then some (.slice (some (b,0)) 0 0 none,h) else some (.slice (some (id,0)) m m (some (k+1)),h.new id (.cells (fillC ys .leaf 0) (tyMark e false) ys.length false)):=by
 rw [appendS_eq hu hs hb hz hzl hsrc hyl hr]
 cases m with
 | zero=>rfl
 | succ m =>
  rw [if_neg (by omega),if_neg (by omega)]
  have e1:appAt (k+1) e (some (b,0)) 0 0 none id h ys (m+1)=Option.rec (motive:=fun _=>Option (AV×Heap)) none (fun old=>appNew (k+1) (0+(m+1)) (tyMark e false) id h (app' old ys)) (h.ld b 0 (0*(k+1))):=rfl
  rw [e1,Nat.zero_mul,hb0,Nat.zero_add]
  show appNew (k+1) (m+1) (tyMark e false) id h (app' [] ys)=_
  rw [app'_eq,List.nil_append,appNew_eq hy1]
theorem app_own {P:Program} {t:TypeId} {k by' m id:Nat} {zv x:AV} {ys:List AV} (hu:P.underlying t=some (.slice e)) (hs:tSize P e=some (k+1)) (hb:tBytes P e=some by') (hz:tZero P e=some zv) (hzl:zv.cells.length=k+1)
  (ho:SlO e (k+1) h v n cs bs) (hsrc:srcOf (k+1) (fun n=>n) x h=some (ys,m)) (hm:0<m) (hyl:ys.length=m*(k+1)) (hy1:ys.all AV.one=true) (hr:room by' (n+m)=true) (hid:h.next<=id) :
  ∃ v' h' bs',appendS P t v x id h=some (v',h')/\SlO e (k+1) h' v' (n+m) (cs++ys) bs'/\h.next<=h'.next/\(∀ c,c∉bs->c≠id->h'.bs.gt c=h.bs.gt c)/\(∀ b,b∈bs'->b∈bs∨b=id)/\(h'.next=h.next∨h'.next=id+1):=by
 have hdef:∀ a len cap g,v=.slice a len cap g->len=n->appendS P t v x id h=appAt (k+1) e a len cap g id h ys m:=by
  rintro a len cap g rfl rfl
  obtain ⟨m',rfl⟩:∃ m',m=m'+1:=⟨m - 1,by omega⟩
  unfold appendS
  rw [hu]
  simp only [hs,hb,hz,Option.map_some,Option.getD_some,len'_eq,hzl,Nat.beq_refl]
  show (Option.rec (motive:=fun _=>Option (AV×Heap)) none (fun src=>iff' (and' (room by' (Nat.add len src.2)) (Nat.beq src.1.length (Nat.mul src.2 (k+1)))) (Nat.rec (motive:=fun _=>Option (AV×Heap)) (some (_,h)) (fun _ _=>appAt (k+1) e a len cap g id h src.1 src.2) src.2)) (srcOf (k+1) (fun n=>n) x h):Option (AV×Heap))=_
  rw [hsrc]
  show iff' (and' (room by' (len+(m'+1))) (Nat.beq ys.length ((m'+1)*(k+1)))) (appAt (k+1) e a len cap g id h ys (m'+1))=_
  rw [hr,hyl,Nat.beq_refl];rfl
 rcases ho with ⟨rfl,rfl,rfl,rfl⟩|⟨b,c,rest,z,rfl,h1,h2,h3,h4,h5,rfl,rfl,h8⟩
 ·have hn:=Rw.new (h:=h) (id:=id) (vs:=ys) (z:=tyMark e false) (ro:=false) hid
  refine ⟨.slice (some (id,0)) m m (some (k+1)),h.new id (.cells (fillC ys .leaf 0) (tyMark e false) ys.length false),[id],(hdef none 0 0 none rfl rfl).trans ?_,?_,?_,?_,?_,?_⟩
  ·show iff' (Nat.beq 0 0) (appNew (k+1) m (tyMark e false) id h ys)=_
   rw [appNew_eq hy1];rfl
  ·refine .inr ⟨id,m,[],_,by rw [Nat.zero_add],by rw [List.nil_append,hyl,Nat.zero_add],by rw [List.append_nil,List.nil_append,hyl],by omega,by rw [List.append_nil,List.nil_append];exact hn.1,by rw [hn.2.1];omega,rfl,rfl,by rw [List.nil_append];exact hy1⟩
  ·rw [new_next' hid];omega
  ·intro c _ hc;rw [new_get' hid,if_neg hc]
  ·intro b hb;exact .inr (List.mem_singleton.1 hb)
  ·exact .inr (new_next' hid _)
 ·rw [hdef _ _ _ _ rfl rfl]
  by_cases hle:n+m<=c
  · 
   have hroom:(n*(k+1))+ys.length<=(cs++rest).length:=by
    rw [h2,hyl,← Nat.add_mul];exact Nat.mul_le_mul_right _ hle
   obtain ⟨s1,s2,s3,s4⟩:=h4.sto hroom hy1
   refine ⟨.slice (some (b,0)) (n+m) c (some (k+1)),h.wr b (n*(k+1)) ys,[b],?_,?_,by rw [s3];exact Nat.le_refl _,fun c' hc' _=>s4 c' (fun e=>hc' (List.mem_singleton.2 e)),fun b hb=>.inl hb,.inl s3⟩
   ·show (Bool.rec (motive:=fun _=>Option (AV×Heap)) _ (stoAs (.slice (some (b,0)) (n+m) c (some (k+1))) (h.sto b (0+n*(k+1)) ys)) (Nat.ble (n+m) c):Option (AV×Heap))=_
    rw [show Nat.ble (n+m) c=true from Nat.ble_eq_true_of_le hle,Nat.zero_add,s1];rfl
   ·refine .inr ⟨b,c,rest.drop ys.length,_,rfl,by rw [List.length_append,h1,hyl,Nat.add_mul],?_,hle,?_,by rw [s3];exact h5,rfl,rfl,by rw [List.all_append,h8,hy1];rfl⟩
    ·rw [List.length_append] at hroom h2
     rw [List.length_append,List.length_append,List.length_drop];omega
    ·have:putL (cs++rest) (n*(k+1)) ys=cs++ys++rest.drop ys.length:=by
      unfold putL
      rw [← h1,List.take_left',List.append_assoc]
      ·congr 2
       rw [List.drop_append,List.drop_eq_nil_of_le (by omega),List.nil_append,Nat.add_sub_cancel_left]
      ·rfl
     rw [this] at s2;exact s2
  · 
   have hn:=Rw.new (h:=h.put b .dead) (id:=id) (vs:=cs++ys) (z:=tyMark e false) (ro:=false) hid
   have hall:(cs++ys).all AV.one=true:=by rw [List.all_append,h8,hy1];rfl
   have hnn:¬b=id:=by omega
   obtain ⟨tr,g1,g2⟩:=h4
   have htail:∀ (y:Blk),((h.put b .dead).new id y).next=id+1/\∀ c,c≠b->c≠id->((h.put b .dead).new id y).bs.gt c=h.bs.gt c:=fun y =>
    ⟨new_next' (h:=h.put b .dead) hid y,fun c hc hc'=>by rw [new_get' (h:=h.put b .dead) hid,if_neg hc',put_get,if_neg hc]⟩
   have hfull:∀ (y:Blk),Rw ((h.put b .dead).new id y) id (cs++ys) (tyMark e false) false->appAt (k+1) e (some (b,0)) n c (some (k+1)) id h ys m=some (.slice (some (id,0)) (n+m) (n+m) (some (k+1)),(h.put b .dead).new id y) ->
     ∃ v' h' bs',appAt (k+1) e (some (b,0)) n c (some (k+1)) id h ys m=some (v',h')/\SlO e (k+1) h' v' (n+m) (cs++ys) bs'/\h.next<=h'.next/\(∀ c,c∉[b]->c≠id->h'.bs.gt c=h.bs.gt c)/\(∀ b',b'∈bs'->b'∈[b]∨b'=id)/\(h'.next=h.next∨h'.next=id+1):=fun y hy he=>by
    refine ⟨_,_,[id],he,.inr ⟨id,n+m,[],_,rfl,by rw [List.length_append,h1,hyl,Nat.add_mul],by rw [List.append_nil,List.length_append,h1,hyl,Nat.add_mul],Nat.le_refl _,by rw [List.append_nil];exact hy,by rw [(htail y).1];omega,rfl,rfl,hall⟩,by rw [(htail y).1];omega,fun c hc hc'=>(htail y).2 c (fun e=>hc (List.mem_singleton.2 e)) hc',fun b' hb'=>.inr (List.mem_singleton.1 hb'),.inr (htail y).1⟩
   have hdead:appAt (k+1) e (some (b,0)) n c (some (k+1)) id h ys m=appDead (k+1) (n+m) e 0 n m ys b id h:=by
    show (Bool.rec (motive:=fun _=>Option (AV×Heap)) (iff' (Nat.beq (k+1) (k+1)) (appDead (k+1) (n+m) e 0 n m ys b id h)) _ (Nat.ble (n+m) c):Option (AV×Heap))=_
    rw [show Nat.ble (n+m) c=false from by cases hb:Nat.ble (n+m) c with | false=>rfl | true=>exact absurd (Nat.le_of_ble_eq_true hb) hle]
    show iff' (Nat.beq (k+1) (k+1)) _=_
    rw [Nat.beq_refl];rfl
   have hcell:∀ {β : Type} (f:Tr AV->List AV->Nat->Bool->Option β),h.cells b f=f tr (tyMark e false) (cs++rest).length false:=fun f=>by unfold Heap.cells;rw [g1]
   by_cases hfit:n*(k+1)=(cs++rest).length
   ·refine hfull (.cells (fillC ys tr (cs++rest).length) (tyMark e false) ((cs++rest).length+m*(k+1)) false) ?_ ?_
    ·have hrest:rest=[]:=by
      rw [List.length_append,h1] at hfit
      exact List.eq_nil_of_length_eq_zero (by omega)
     subst hrest
     rw [List.append_nil] at g1 g2 hfit ⊢
     refine ⟨fillC ys tr cs.length,?_,fun i hi=>?_⟩
     ·rw [new_get' (h:=h.put b .dead) hid,if_pos rfl,List.length_append,hyl]
     ·unfold cellAt
      rw [gt_fillC]
      rw [List.length_append] at hi
      by_cases hin:cs.length<=i/\i<cs.length+ys.length
      ·rw [if_pos hin,List.getElem?_append_right hin.1,List.getElem?_eq_getElem (by omega)]
      ·rw [if_neg hin,List.getElem?_append_left (by omega)]
       exact g2 i (by omega)
    ·rw [hdead]
     unfold appDead
     rw [hcell]
     show iff' (and' (and' (notB false) (allOne ys)) (fitsZ e (tyMark e false))) (Bool.rec (motive:=fun _=>Option (AV×Heap)) _ _ (and' (Nat.beq 0 0) (Nat.beq (n*(k+1)) (cs++rest).length)):Option (AV×Heap))=_
     rw [fitsZ_own,allOne_eq,hy1,show Nat.beq (n*(k+1)) (cs++rest).length=true from by rw [hfit];exact Nat.beq_refl _];rfl
   ·refine hfull _ hn.1 ?_
    rw [hdead]
    unfold appDead
    rw [hcell]
    show iff' (and' (and' (notB false) (allOne ys)) (fitsZ e (tyMark e false))) (Bool.rec (motive:=fun _=>Option (AV×Heap)) (Option.rec (motive:=fun _=>Option (AV×Heap)) none (fun old=>appNew (k+1) (n+m) (zKeep (tyMark e false)) id (h.put b .dead) (app' old ys)) (h.ld b 0 (n*(k+1)))) _ (and' (Nat.beq 0 0) (Nat.beq (n*(k+1)) (cs++rest).length)):Option (AV×Heap))=_
    have hld:h.ld b 0 (n*(k+1))=some cs:=by
     rw [Rw.ld (h:=h) (b:=b) (vs:=cs++rest) (z:=tyMark e false) (ro:=false) ⟨tr,g1,g2⟩ (by rw [List.length_append,h1];omega),List.drop_zero,← h1,List.take_left' rfl]
    rw [fitsZ_own,allOne_eq,hy1,hld,show Nat.beq (n*(k+1)) (cs++rest).length=false from by cases hb:Nat.beq (n*(k+1)) (cs++rest).length with | false=>rfl | true=>exact absurd (Nat.eq_of_beq_eq_true hb) hfit]
    show appNew (k+1) (n+m) (zKeep (tyMark e false)) id (h.put b .dead) (app' cs ys)=_
    rw [zKeep_own,app'_eq,appNew_eq hall]
end
end Go.Am
namespace Go.Am
section
variable {P:Program} {keep:Keeps}
theorem calls_of_args {prims:Prims} {lf n:Nat} (hm:P.follows .mixedOrders=true) (hn:NamesOk P) (hpr:PrimsOk P keep prims) {f:FuncId} {args:List AV} {avs:Array Value} {b:Bool} {h h':Heap} {ρ : Pls} {w:World}
  (hr:callN P keep prims lf n (.fn f) args h=some (.bool b,h')) (hh:HR P keep ρ h w) (hv:VRs ρ args avs.toList) (hfix:∀ c x,h.bs.gt c=some x->x.fixed=true) :
  Calls P f avs w fun e w'=>e=.returned (.bool b)/\w'.os=w.os/\w'.output=w.output/\w.heap.size<=w'.heap.size/\∀ k,k<w.heap.size->w'.heap[k]?=w.heap[k]?:=by
 have h1:=(callN_sound (lf:=lf) hm hn hpr n (.fn f) args h _ hr ρ w avs.toList hh hv).2
 rw [Array.toArray_toList] at h1
 refine callsIn_wide.1 (CallsIn.mono (F:=Fence.wide) h1 fun e w' hR=>?_)
 cases e with
 | returned v =>
  obtain ⟨ρ',hv',hp⟩:=hR
  refine ⟨by rw [show v=.bool b from hv'],hp.fr.os,hp.fr.output,hp.fr.size,fun k hk=>hp.fr.sameW k hk ?_⟩
  rintro ⟨c,x,p,hx,hf,_⟩
  rw [hfix c x hx] at hf;cases hf
 | panicked chain=>exact hR.elim
 | outgrown=>exact hR.elim
end
structure ArgIt where
 cs:Option (List AV)
 at':Pl
noncomputable def itemB (x:ArgIt):Option Blk:=x.cs.map fun cs=>.cells (fillC cs .leaf 0) [] cs.length true
noncomputable def argT:List ArgIt->Nat->Tr Blk
 | [],_=>.leaf
 | x::l,i=>(argT l (i+1)).up (itemB x) i
noncomputable def argH (l:List ArgIt):Heap:=⟨argT l 0,l.length⟩
def argP (l:List ArgIt):Pls:=fun b=>(l[b]?).map ArgIt.at'
theorem argT_get:∀ (l:List ArgIt) (i j:Nat),(argT l i).gt j=if i<=j then (l[j - i]?).bind itemB else none
 | [],i,j=>by
  rw [argT,Tr.gt_leaf];simp
 | x::l,i,j=>by
  rw [argT,Tr.gt_up,argT_get l (i+1) j]
  by_cases e:j=i
  ·subst e;simp
  ·rw [if_neg e]
   by_cases h:i+1<=j
   ·rw [if_pos h,if_pos (by omega),show j - i=(j - (i+1))+1 by omega,List.getElem?_cons_succ]
   ·rw [if_neg h,if_neg (by omega)]
def ArgOk (w:World) (ρ : Pls) (x:ArgIt):Prop:=∀ cs,x.cs=some cs->∃ c e fz,w.heap[x.at'.blk]?=some (.cells c e fz)/\c.size=x.at'.size/\x.at'.off+cs.length<=x.at'.size /\
 ∀ i v,cs[i]?=some v->v.one=true/\∃ cv,c[x.at'.off+i]?=some cv/\VR ρ v cv
theorem args_HR {P:Program} {keep:Keeps} {w:World} {l:List ArgIt} (h:∀ x,x∈l->ArgOk w (argP l) x):HR P keep (argP l) (argH l) w:=by
 have get:∀ b x,(argH l).bs.gt b=some x->∃ y cs,l[b]?=some y/\y.cs=some cs/\x=.cells (fillC cs .leaf 0) [] cs.length true:=by
  intro b x hx
  have hx:(argT l 0).gt b=some x:=hx
  rw [argT_get,if_pos (Nat.zero_le _),Nat.sub_zero] at hx
  cases hy:l[b]? with
  | none=>rw [hy] at hx;cases hx
  | some y =>
   rw [hy] at hx
   have hx:itemB y=some x:=hx
   unfold itemB at hx
   cases hc:y.cs with
   | none=>rw [hc] at hx;cases hx
   | some cs=>rw [hc] at hx;cases hx;exact ⟨y,cs,rfl,hc,rfl⟩
 refine ⟨fun b p hb=>?_,fun b x hx=>?_,fun b x hx=>?_,fun b b' x x' p p' hx hx' hd hd' hro=>?_⟩
 ·unfold argP at hb
  cases hy:l[b]? with
  | none=>rw [hy] at hb;cases hb
  | some y=>exact (List.getElem?_eq_some_iff.1 hy).1
 ·obtain ⟨y,cs,h1,_⟩:=get b x hx
  exact (List.getElem?_eq_some_iff.1 h1).1
 ·obtain ⟨y,cs,h1,h2,rfl⟩:=get b x hx
  obtain ⟨c,e,fz,g1,g2,g3,g4⟩:=h y (List.mem_of_getElem? h1) cs h2
  refine ⟨y.at',c,e,fz,by unfold argP;rw [h1];rfl,g1,g2,g3,fun i hi=>?_,(fun e=>by cases e),markOk_nil⟩
  obtain ⟨q1,cv,q2,q3⟩:=g4 i cs[i] (List.getElem?_eq_getElem hi)
  exact ⟨cs[i],cv,by rw [cellAt_fill _ _ _ hi];exact List.getElem?_eq_getElem hi,q1,q2,q3⟩
 ·obtain ⟨_,_,_,_,rfl⟩:=get b x hx
  obtain ⟨_,_,_,_,rfl⟩:=get b' x' hx'
  rcases hro with h | h <;> cases h
theorem args_fixed (l:List ArgIt):∀ c x,(argH l).bs.gt c=some x->x.fixed=true:=by
 intro b x hx
 have hx:(argT l 0).gt b=some x:=hx
 rw [argT_get,if_pos (Nat.zero_le _),Nat.sub_zero] at hx
 cases hy:l[b]? with
 | none=>rw [hy] at hx;cases hx
 | some y =>
  rw [hy] at hx
  have hx:itemB y=some x:=hx
  unfold itemB at hx
  cases hc:y.cs with
  | none=>rw [hc] at hx;cases hx
  | some cs=>rw [hc] at hx;cases hx;rfl
theorem args_Rw {l:List ArgIt} {b:Nat} {cs:List AV} {p:Pl} (h:l[b]?=some ⟨some cs,p⟩):Rw (argH l) b cs [] true:=by
 refine ⟨fillC cs .leaf 0,?_,fun i hi=>cellAt_fill _ _ _ hi⟩
 show (argT l 0).gt b=_
 rw [argT_get,if_pos (Nat.zero_le _),Nat.sub_zero,h];rfl
theorem args_lt {l:List ArgIt} {b:Nat} {x:ArgIt} (h:l[b]?=some x):b<(argH l).next:=(List.getElem?_eq_some_iff.1 h).1
section
open Go.ChangeShapes Go.WideShapes
theorem strs_in {P:Program} {H:Type} {enc:TypeId×Value->H} {W:World} {base:Nat} {t e:TypeId} (ht:P.underlying t=some (.slice e)) (he:P.underlying e=some .string) (hc:P.cellsOf e=1) {v:Value} {d:DataW H} {p:List MemPlace} {r:Reach} {b0:Nat} (hok:Value.okWide P W r b0 t v)
  (h:DataW.Trod enc P W base (fun _=>true) true t v d p) (i:Nat) :
  ∃ (it:ArgIt) (lv:AV) (ss:List (List Nat)),(∀ l1 l2:List ArgIt,l1.length=i->VR (argP (l1++it::l2)) lv v/\ElsR (argH (l1++it::l2)) lv ss.length 1 (ss.map .str))/\(∀ ρ,ArgOk W ρ it)/\∀ s,s∈ss->∀ (i c:Nat),s[i]?=some c->c<256:=by
 obtain ⟨a0,len,cap,rfl⟩:=okWide_slice ht hok
 obtain ⟨n,hn⟩:=h
 have hn:DataW.trod enc P W base (fun _=>true) true n t [.slice a0 len cap]=some (d,p):=hn
 have hat:∀ (l1 l2:List ArgIt) (it:ArgIt),l1.length=i->(l1++it::l2)[i]?=some it:=fun l1 l2 it hl=>by subst hl;simp
 rcases open_strings ht he hc hn with ⟨e1,_⟩|⟨a,len',cap',bs,e1,_,hle,_,hbl,_,hcell,_⟩
 ·cases e1
  exact ⟨⟨none,⟨0,0,0⟩⟩,.slice none 0 0 none,[],fun l1 l2 _=>⟨⟨rfl,rfl,rfl,rfl⟩,rfl,none,0,none,rfl,fun _=>rfl,(fun _ _ e=>by cases e)⟩,(fun _ _ e=>by cases e),(fun s hs=>by cases hs)⟩
 ·cases e1
  have hbl:bs.length=cap:=hbl
  by_cases h0:cap=0
  ·subst h0
   obtain rfl:len=0:=by omega
   refine ⟨⟨none,⟨0,0,0⟩⟩,.slice (some (i,0)) 0 0 none,[],fun l1 l2 hl=>⟨⟨⟨0,0,0⟩,a,0,?_,rfl,Nat.le_refl _,Nat.le_refl _,fun _=>rfl,(fun _ e=>by cases e),fun h=>absurd rfl h⟩,rfl,some (i,0),0,none,rfl,(fun e=>by cases e),fun b o e=>?_⟩,(fun _ _ e=>by cases e),(fun s hs=>by cases hs)⟩
   ·unfold argP;rw [hat l1 l2 _ hl];rfl
   ·cases e;exact ⟨args_lt (hat l1 l2 _ hl),fun h=>absurd h (Nat.lt_irrefl 0)⟩
  · 
   have h00:=hcell 0 (by omega)
   obtain ⟨blk,off,spot⟩:=a
   have hadd:∀ j,(⟨blk,off,spot⟩:Addr).add j=if j=0 then ⟨blk,off,spot⟩ else ⟨blk,off+j,none⟩:=fun j=>rfl
   rw [hadd,if_pos rfl] at h00
   have hex:∃ c e fz,W.heap[blk]?=some (.cells c e fz)/\spot=none:=by
    unfold World.cell? at h00
    cases hh:W.heap[blk]? with
    | none=>rw [hh] at h00;cases h00
    | some ob =>
     rw [hh] at h00
     cases ob with
     | cells c e fz =>
      cases spot with
      | none=>exact ⟨c,e,fz,rfl,rfl⟩
      | some k=>cases h00
     | _=>cases h00
   obtain ⟨c,e',fz,hblk,rfl⟩:=hex
   have hget:∀ j,j<cap->c[off+j]?=some (.string (bs.getD j ByteArray.empty)):=fun j hj=>by
    have:=hcell j (by omega)
    rw [hadd] at this
    split at this
    ·rename_i e0;subst e0;rw [cell_of_heap hblk] at this;exact this
    ·rw [cell_of_heap hblk] at this;exact this
   have hsz:off+cap<=c.size:=by
    have:=(Array.getElem?_eq_some_iff.1 (hget (cap - 1) (by omega))).1
    omega
   have hss:((bs.take len).map fun s=>s.data.toList.map (·.toNat)).length=len:=by simp;omega
   refine ⟨⟨some (((bs.take len).map fun s=>s.data.toList.map (·.toNat)).map .str),⟨blk,off,c.size⟩⟩,.slice (some (i,0)) len cap none,(bs.take len).map fun s=>s.data.toList.map (·.toNat),fun l1 l2 hl=>⟨⟨⟨blk,off,c.size⟩,⟨blk,off,none⟩,cap,?_,rfl,hle,Nat.le_refl _,fun _=>rfl,(fun _ e=>by cases e),fun _=>rfl⟩,?_⟩,?_,?_⟩
   ·unfold argP;rw [hat l1 l2 _ hl];rfl
   ·rw [hss]
    refine ⟨by rw [List.length_map,hss,Nat.mul_one],some (i,0),cap,none,rfl,(fun e=>by cases e),fun b o e=>?_⟩
    cases e
    refine ⟨args_lt (hat l1 l2 _ hl),fun _=>?_⟩
    rw [(args_Rw (hat l1 l2 _ hl)).ld (by rw [List.length_map,hss];omega),List.drop_zero,List.take_of_length_le (by rw [List.length_map,hss];omega)]
   ·intro ρ cs hcs
    cases hcs
    refine ⟨c,e',fz,hblk,rfl,by rw [List.length_map,hss];exact Nat.le_trans (Nat.add_le_add_left hle _) hsz,fun j w hw=>?_⟩
    have hjl:j<len:=by have:=(List.getElem?_eq_some_iff.1 hw).1;rw [List.length_map,hss] at this;exact this
    have hbj:bs[j]?=some (bs.getD j ByteArray.empty):=by
     rw [List.getD_eq_getElem?_getD,List.getElem?_eq_getElem (by omega)];rfl
    rw [List.getElem?_map,List.getElem?_map,List.getElem?_take_of_lt hjl,hbj] at hw
    cases hw
    exact ⟨rfl,_,hget j (by omega),_,rfl,rfl⟩
   ·intro s hs j b hb
    obtain ⟨s0,_,rfl⟩:=List.mem_map.1 hs
    rw [List.getElem?_map] at hb
    cases hx:s0.data.toList[j]? with
    | none=>rw [hx] at hb;cases hb
    | some y=>rw [hx] at hb;cases hb;exact y.toNat_lt
end
end Go.Am
namespace Go.Am
noncomputable section
theorem run_rangeF {call:CallFn} {lf nt:Nat} {f:FuncId} {t i:Nat} {ps:List Nat} {A B:Code} {k:List Wt} {tm:Tr AV} {h:Heap} {Q:XQ} {cap:List AV} (ht:tm.gt t=some (.func (.func i) [] cap))
  (hc:WC (call (.fn i) (.func (.yield h.next) [] []::cap) (h.new h.next (.loop ⟨.ready,none,f,tm.up none nt,ps,A,B⟩))) fun _ h1=>∃ b,h1.bs.gt h.next=some (.loop b)/\b.st≠.busy /\
   match b.pending with
   | none=>ret call lf nt f none .normal k tm (h1.put h.next (.loop { b with st:=.exhausted })) Q
   | some c=>∃ e,jumpEx c=some e/\ret call lf nt f none e k tm (h1.put h.next (.loop { b with st:=.exhausted })) Q) :
  run call lf nt f none (.rangeF (.tmp t) ps A B) k tm h Q:=by
 obtain ⟨v,h1,e,b,hb,hst,hp⟩:=hc
 have hx:execA call lf nt f none (.rangeF (.tmp t) ps A B) ⟨tm,h⟩=(h1.theLoop h.next fun b=>match b.st with
   | .busy=>none
   | _=>match b.pending with
    | none=>some (.normal,⟨tm,h1.put h.next (.loop { b with st:=.exhausted })⟩)
    | some c=>ob (jumpEx c) fun e=>some (e,⟨tm,h1.put h.next (.loop { b with st:=.exhausted })⟩):XR):=by
  show ob (tm.gt t) (fun fv=>runRange call nt f none ps A B ⟨tm,h⟩ fv)=_
  rw [ht]
  show ob (call (.fn i) (.func (.yield h.next) [] []::cap) (h.new h.next (.loop ⟨.ready,none,f,tm.up none nt,ps,A,B⟩))) _=_
  rw [e]
  rfl
 unfold run
 rw [hx,theLoop_of hb]
 cases hs:b.st with
 | busy=>exact absurd hs hst
 | ready | done | exhausted =>
  cases hpp:b.pending with
  | none=>rw [hpp] at hp;exact hp
  | some c =>
   rw [hpp] at hp
   obtain ⟨e',g1,g2⟩:=hp
   show (match (ob (jumpEx c) (fun e=>_):XR) with | some (e,s)=>retK _ Q k e s.tm s.hp | none=>False)
   rw [g1]
   exact g2
def endL (e:Ex) (b:LRec):AV×LRec:=match e with
 | .normal=>(.bool true,{ b with st:=.ready,pending:=none })
 | .ret=>(.bool false,{ b with st:=.done,pending:=some .ret })
 | .exit id=>(.bool false,{ b with st:=.done,pending:=some (.exit id) })
 | .goto t=>(.bool false,{ b with st:=.done,pending:=some (.goto t) })
theorem call_loop {P:Program} {keep:Keeps} {prims:Prims} {lf n l nt:Nat} {args:List AV} {h:Heap} {b:LRec} {CA CB:AC} {tm':Tr AV} (Q:AV->Heap->Prop) (hb:h.bs.gt l=some (.loop b)) (hn:ntOf P b.fn=nt) (hs:setPs nt b.params args b.tm=some tm') (hk:keep b.fn nt=false) (ho:b.tm.gt nt=none)
  (hA:compC P (keep b.fn) nt b.assign=CA) (hB:compC P (keep b.fn) nt b.body=CB)
  (hrun:∀ QA:XQ,(∀ tm2 h2 b2,h2.bs.gt l=some (.loop b2)->b2.st=.ready ->
    (∀ QB:XQ,(∀ e tm3 h3 b3,h3.bs.gt l=some (.loop b3)->b3.st=.busy->Q (endL e b3).1 (h3.put l (.loop (endL e b3).2))->QB e tm3 h3)->run (callN P keep prims lf n) lf nt b.fn (some l) CB [] tm2 (h2.put l (.loop { b2 with st:=.busy })) QB)->QA .normal tm2 h2) ->
   run (callN P keep prims lf n) lf nt b.fn (some l) CA [] tm' h QA) :
  WC (callN P keep prims lf (n+1) (.loop l) args h) Q:=by
 subst hn
 have h1:=hrun (fun e tm2 h2=>e=.normal/\∃ b2,h2.bs.gt l=some (.loop b2)/\b2.st=.ready /\
  run (callN P keep prims lf n) lf (ntOf P b.fn) b.fn (some l) CB [] tm2 (h2.put l (.loop { b2 with st:=.busy })) fun e tm3 h3=>∃ b3,h3.bs.gt l=some (.loop b3)/\b3.st=.busy/\Q (endL e b3).1 (h3.put l (.loop (endL e b3).2)))
  (fun tm2 h2 b2 g1 g2 g5=>⟨rfl,b2,g1,g2,g5 _ fun e tm3 h3 b3 k1 k2 k3=>⟨b3,k1,k2,k3⟩⟩)
 unfold run at h1
 show WC (callL P keep lf (callN P keep prims lf n) l args h) Q
 unfold callL
 rw [theLoop_of hb,hs]
 show WC (iff' (and' (notB (keep b.fn (ntOf P b.fn))) (noOff b.tm (ntOf P b.fn))) _) Q
 rw [hk,show noOff b.tm (ntOf P b.fn)=true from by unfold noOff;rw [ho]]
 show WC (ob (execA (callN P keep prims lf n) lf (ntOf P b.fn) b.fn (some l) (compC P (keep b.fn) (ntOf P b.fn) b.assign) ⟨tm',h⟩) _) Q
 rw [hA]
 cases he:execA (callN P keep prims lf n) lf (ntOf P b.fn) b.fn (some l) CA ⟨tm',h⟩ with
 | none=>rw [he] at h1;exact h1.elim
 | some r =>
  rw [he] at h1
  obtain ⟨e,s⟩:=r
  obtain ⟨e0,b2,g1,g2,g5⟩:=h1
  cases e0
  show WC (s.hp.theLoop l _) Q
  rw [theLoop_of g1]
  show WC (match b2.st with
    | .ready=>ob (execA (callN P keep prims lf n) lf (ntOf P b.fn) b.fn (some l) (compC P (keep b.fn) (ntOf P b.fn) b.body) ⟨s.tm,s.hp.put l (.loop { b2 with st:=.busy })⟩) fun r=>endRound l r
    | _=>none) Q
  rw [g2]
  show WC (ob (execA (callN P keep prims lf n) lf (ntOf P b.fn) b.fn (some l) (compC P (keep b.fn) (ntOf P b.fn) b.body) ⟨s.tm,s.hp.put l (.loop { b2 with st:=.busy })⟩) fun r=>endRound l r) Q
  rw [hB]
  cases he2:execA (callN P keep prims lf n) lf (ntOf P b.fn) b.fn (some l) CB ⟨s.tm,s.hp.put l (.loop { b2 with st:=.busy })⟩ with
  | none=>rw [he2] at g5;exact g5.elim
  | some r2 =>
   rw [he2] at g5
   obtain ⟨e,s2⟩:=r2
   obtain ⟨b3,k1,k2,k3⟩:=g5
   have hend:endRound l (e,s2)=some ((endL e b3).1,s2.hp.put l (.loop (endL e b3).2)):=by
    show s2.hp.theLoop l _=_
    rw [theLoop_of k1]
    show (match b3.st with | .busy=>_ | _=>none)=_
    rw [k2]
    cases e <;> rfl
   exact ⟨_,_,hend,k3⟩
end
end Go.Am
namespace Go.Am
noncomputable section
def cf (n:Nat):Opd:=.cst (.func (.func n) [] [])
theorem g_cf {n:Nat} {loc:List AV} {vs tm:Tr AV}:(cf n).get loc vs tm=some (.func (.func n) [] []):=rfl
theorem ap_fn {call:CallFn} {us first cap:List AV} {h:Heap} {n:Nat}:applyV call us h (.func (.func n) first cap)=call (.fn n) (first++(us++cap)) h:=by
 show call (.fn n) (app' first (app' us cap)) h=_
 rw [app'_eq,app'_eq]
theorem ap_yield {call:CallFn} {us first cap:List AV} {h:Heap} {l:Nat}:applyV call us h (.func (.yield l) first cap)=call (.loop l) (first++us) h:=by
 show call (.loop l) (app' first us) h=_
 rw [app'_eq]
section
variable {tm vs:Tr AV} {call:CallFn} {loc:List AV} {h:Heap} {is:List GIns} {x y z:Opd} {xs:List Opd}
theorem ge_nil:gets [] loc vs tm=some []:=rfl
theorem ge_cons:gets (x::xs) loc vs tm=match x.get loc vs tm with
  | none=>none
  | some v=>match gets xs loc vs tm with
   | none=>none
   | some us=>some (v::us):=by
 show (Option.rec (motive:=fun _=>Option (List AV)) none (fun v=>Option.rec (motive:=fun _=>Option (List AV)) none (fun us=>some (v::us)) (gets xs loc vs tm)) (x.get loc vs tm):Option (List AV))=_
 cases x.get loc vs tm with
 | none=>rfl
 | some v=>cases gets xs loc vs tm <;> rfl
theorem po_nil {tm0:Tr AV}:putOuts [] loc tm0 tm=some tm:=rfl
theorem po_cons {tm0:Tr AV} {t:Nat} {outs:List (Nat×Opd)}:putOuts ((t,x)::outs) loc tm0 tm=match x.get loc .leaf tm0 with
  | none=>none
  | some v=>putOuts outs loc tm0 (tm.up (some v) t):=by
 show ob (x.get loc .leaf tm0) (fun v=>putOuts outs loc tm0 (tm.up (some v) t))=_
 cases x.get loc .leaf tm0 <;> rfl
theorem ri_nil:runIs [] tm call loc h=some (loc,h):=rfl
theorem ri_gd {i:Ins} {w:Bool}:runIs (⟨some (x,w),i⟩::is) tm call loc h=match x.get loc .leaf tm with
  | none=>none
  | some v=>match wanted w v with
   | true=>runIs (⟨none,i⟩::is) tm call loc h
   | false=>runIs is tm call (undefA::loc) h:=by
 show ob (ob (x.get loc .leaf tm) fun v=>Bool.rec (motive:=fun _=>Res) (some (undefA,h)) (i.ev loc .leaf tm call h.next h) (wanted w v)) (fun r=>runIs is tm call (r.1::loc) r.2)=_
 cases x.get loc .leaf tm with
 | none=>rfl
 | some v =>
  show ob (Bool.rec (motive:=fun _=>Res) (some (undefA,h)) (i.ev loc .leaf tm call h.next h) (wanted w v)) (fun r=>runIs is tm call (r.1::loc) r.2)=match wanted w v with | true=>_ | false=>_
  cases wanted w v <;> rfl
theorem ri_mv:runIs (⟨none,.mv x⟩::is) tm call loc h=match x.get loc .leaf tm with
  | none=>none
  | some v=>runIs is tm call (v::loc) h:=by
 show ob (ob (x.get loc .leaf tm) fun v=>some (v,h)) (fun r=>runIs is tm call (r.1::loc) r.2)=_
 cases x.get loc .leaf tm <;> rfl
theorem ri_p1 {f:AV->Option AV}:runIs (⟨none,.p1 f x⟩::is) tm call loc h=match x.get loc .leaf tm with
  | none=>none
  | some a=>match f a with
   | none=>none
   | some v=>runIs is tm call (v::loc) h:=by
 show ob (ob (x.get loc .leaf tm) fun v=>ob (f v) fun r=>some (r,h)) (fun r=>runIs is tm call (r.1::loc) r.2)=_
 cases x.get loc .leaf tm with
 | none=>rfl
 | some a=>show ob (ob (f a) fun r=>some (r,h)) _=match f a with | none=>none | some v=>_;cases f a <;> rfl
theorem ri_p2 {f:AV->AV->Option AV}:runIs (⟨none,.p2 f x y⟩::is) tm call loc h=match x.get loc .leaf tm with
  | none=>none
  | some a=>match y.get loc .leaf tm with
   | none=>none
   | some b=>match f a b with
    | none=>none
    | some v=>runIs is tm call (v::loc) h:=by
 show ob (ob (x.get loc .leaf tm) fun v=>ob (y.get loc .leaf tm) fun u=>ob (f v u) fun r=>some (r,h)) (fun r=>runIs is tm call (r.1::loc) r.2)=_
 cases x.get loc .leaf tm with
 | none=>rfl
 | some a =>
  show ob (ob (y.get loc .leaf tm) fun u=>ob (f a u) fun r=>some (r,h)) _=match y.get loc .leaf tm with | none=>none | some b=>_
  cases y.get loc .leaf tm with
  | none=>rfl
  | some b=>show ob (ob (f a b) fun r=>some (r,h)) _=match f a b with | none=>none | some v=>_;cases f a b <;> rfl
theorem ri_pick:runIs (⟨none,.pick x y z⟩::is) tm call loc h=match x.get loc .leaf tm with
  | some (.bool t)=>match (match t with | true=>y.get loc .leaf tm | false=>z.get loc .leaf tm) with
   | none=>none
   | some v=>runIs is tm call (v::loc) h
  | _=>none:=by
 show ob (ob (x.get loc .leaf tm) fun v=>eBool (fun t=>ob (Bool.rec (motive:=fun _=>Option AV) (z.get loc .leaf tm) (y.get loc .leaf tm) t) fun r=>some (r,h)) v) (fun r=>runIs is tm call (r.1::loc) r.2)=_
 cases x.get loc .leaf tm with
 | none=>rfl
 | some v =>
  cases v with
  | bool t =>
   cases t with
   | true=>show ob (ob (y.get loc .leaf tm) fun r=>some (r,h)) _=match y.get loc .leaf tm with | none=>none | some v=>_;cases y.get loc .leaf tm <;> rfl
   | false=>show ob (ob (z.get loc .leaf tm) fun r=>some (r,h)) _=match z.get loc .leaf tm with | none=>none | some v=>_;cases z.get loc .leaf tm <;> rfl
  | _=>rfl
theorem ri_pn {f:List AV->Option AV}:runIs (⟨none,.pn f xs⟩::is) tm call loc h=match gets xs loc .leaf tm with
  | none=>none
  | some us=>match f us with
   | none=>none
   | some v=>runIs is tm call (v::loc) h:=by
 show ob (ob (gets xs loc .leaf tm) fun us=>ob (f us) fun r=>some (r,h)) (fun r=>runIs is tm call (r.1::loc) r.2)=_
 cases gets xs loc .leaf tm with
 | none=>rfl
 | some a=>show ob (ob (f a) fun r=>some (r,h)) _=match f a with | none=>none | some v=>_;cases f a <;> rfl
theorem ri_ld1:runIs (⟨none,.ld1 x⟩::is) tm call loc h=match x.get loc .leaf tm with
  | none=>none
  | some a=>match load1 h a with
   | none=>none
   | some v=>runIs is tm call (v::loc) h:=by
 show ob (ob (x.get loc .leaf tm) fun v=>ob (load1 h v) fun r=>some (r,h)) (fun r=>runIs is tm call (r.1::loc) r.2)=_
 cases x.get loc .leaf tm with
 | none=>rfl
 | some a=>show ob (ob (load1 h a) fun r=>some (r,h)) _=match load1 h a with | none=>none | some v=>_;cases load1 h a <;> rfl
theorem ri_ldn {s:Nat}:runIs (⟨none,.ldn s x⟩::is) tm call loc h=match x.get loc .leaf tm with
  | none=>none
  | some a=>match loadN s h a with
   | none=>none
   | some v=>runIs is tm call (v::loc) h:=by
 show ob (ob (x.get loc .leaf tm) fun v=>ob (loadN s h v) fun r=>some (r,h)) (fun r=>runIs is tm call (r.1::loc) r.2)=_
 cases x.get loc .leaf tm with
 | none=>rfl
 | some a=>show ob (ob (loadN s h a) fun r=>some (r,h)) _=match loadN s h a with | none=>none | some v=>_;cases loadN s h a <;> rfl
theorem ri_rd {f:List AV->Heap->Option AV}:runIs (⟨none,.rd f xs⟩::is) tm call loc h=match gets xs loc .leaf tm with
  | none=>none
  | some us=>match f us h with
   | none=>none
   | some v=>runIs is tm call (v::loc) h:=by
 show ob (ob (gets xs loc .leaf tm) fun us=>ob (f us h) fun r=>some (r,h)) (fun r=>runIs is tm call (r.1::loc) r.2)=_
 cases gets xs loc .leaf tm with
 | none=>rfl
 | some a=>show ob (ob (f a h) fun r=>some (r,h)) _=match f a h with | none=>none | some v=>_;cases f a h <;> rfl
theorem ri_al {f:List AV->Option (Blk×(Nat->AV))}:runIs (⟨none,.al f xs⟩::is) tm call loc h=match gets xs loc .leaf tm with
  | none=>none
  | some us=>match f us with
   | none=>none
   | some (b,v)=>runIs is tm call (v h.next::loc) (h.new h.next b):=by
 show ob (ob (gets xs loc .leaf tm) fun us=>ob (f us) fun r=>some (r.2 h.next,h.new h.next r.1)) (fun r=>runIs is tm call (r.1::loc) r.2)=_
 cases gets xs loc .leaf tm with
 | none=>rfl
 | some a=>show ob (ob (f a) fun r=>some (r.2 h.next,h.new h.next r.1)) _=match f a with | none=>none | some (b,v)=>_;cases f a <;> rfl
theorem ri_st1:runIs (⟨none,.st1 x y⟩::is) tm call loc h=match x.get loc .leaf tm with
  | none=>none
  | some a=>match y.get loc .leaf tm with
   | none=>none
   | some b=>match store1 h a b with
    | none=>none
    | some (v,h')=>runIs is tm call (v::loc) h':=by
 show ob (ob (x.get loc .leaf tm) fun p=>ob (y.get loc .leaf tm) fun v=>store1 h p v) (fun r=>runIs is tm call (r.1::loc) r.2)=_
 cases x.get loc .leaf tm with
 | none=>rfl
 | some a =>
  show ob (ob (y.get loc .leaf tm) fun v=>store1 h a v) _=match y.get loc .leaf tm with | none=>none | some b=>_
  cases y.get loc .leaf tm with
  | none=>rfl
  | some b=>show ob (store1 h a b) _=match store1 h a b with | none=>none | some (v,h')=>_;cases store1 h a b <;> rfl
theorem ri_ef {f:List AV->Nat->Heap->Option (AV×Heap)}:runIs (⟨none,.ef f xs⟩::is) tm call loc h=match gets xs loc .leaf tm with
  | none=>none
  | some us=>match f us h.next h with
   | none=>none
   | some (v,h')=>runIs is tm call (v::loc) h':=by
 show ob (ob (gets xs loc .leaf tm) fun us=>f us h.next h) (fun r=>runIs is tm call (r.1::loc) r.2)=_
 cases gets xs loc .leaf tm with
 | none=>rfl
 | some a=>show ob (f a h.next h) _=match f a h.next h with | none=>none | some (v,h')=>_;cases f a h.next h <;> rfl
theorem ri_cl:runIs (⟨none,.cl x xs⟩::is) tm call loc h=match x.get loc .leaf tm with
  | none=>none
  | some g=>match gets xs loc .leaf tm with
   | none=>none
   | some us=>match applyV call us h g with
    | none=>none
    | some (v,h')=>runIs is tm call (v::loc) h':=by
 show ob (ob (x.get loc .leaf tm) fun f=>ob (gets xs loc .leaf tm) fun us=>applyV call us h f) (fun r=>runIs is tm call (r.1::loc) r.2)=_
 cases x.get loc .leaf tm with
 | none=>rfl
 | some g =>
  show ob (ob (gets xs loc .leaf tm) fun us=>applyV call us h g) _=match gets xs loc .leaf tm with | none=>none | some us=>_
  cases gets xs loc .leaf tm with
  | none=>rfl
  | some us=>show ob (applyV call us h g) _=match applyV call us h g with | none=>none | some (v,h')=>_;cases applyV call us h g <;> rfl
end
abbrev RRegG (c:AC) (is:List GIns) (outs:List (Nat×Opd)):Prop:=∀ call lf nt f ro k tm h Q,run call lf nt f ro c k tm h Q=match runIs is tm call [] h with
 | none=>False
 | some (loc,h')=>match putOuts outs loc tm tm with
  | none=>False
  | some tm'=>ret call lf nt f ro .normal k tm' h' Q
theorem kReg {c:AC} {is:List GIns} {outs:List (Nat×Opd)} (hc:c=.reg is outs):RRegG c is outs:=fun call lf nt f ro k tm h Q=>by
 subst hc
 rw [run_reg]
 cases runIs is tm call [] h with
 | none=>rfl
 | some r =>
  obtain ⟨loc,h'⟩:=r
  show (match putOuts outs loc tm tm with | some tm'=>ret call lf nt f ro .normal k tm' h' Q | none=>False)=(match putOuts outs loc tm tm with | none=>False | some tm'=>ret call lf nt f ro .normal k tm' h' Q)
  cases putOuts outs loc tm tm <;> rfl
theorem kSeq {c a b:AC} (hc:c=.seq a b):RSeq c a b:=by subst hc;exact rSeq
theorem kBlk {c a:AC} {id:Nat} (hc:c=.block id a):RBlk c id a:=by subst hc;exact rBlk
theorem kCnd {c a b:AC} {t:Nat} (hc:c=.cond (.tmp t) a b):RCnd c t a b:=by subst hc;exact rCnd
theorem k_seq {a b:AC}:RSeq (.seq a b) a b:=rSeq
theorem k_blk {a:AC} {id:Nat}:RBlk (.block id a) id a:=rBlk
theorem k_cnd {a b:AC} {t:Nat}:RCnd (.cond (.tmp t) a b) t a b:=rCnd
theorem k_cndC {call:CallFn} {lf nt:Nat} {f:FuncId} {ro:Option Nat} {k:List Wt} {tm:Tr AV} {h:Heap} {Q:XQ} {a b:AC} {t:Bool}:run call lf nt f ro (.cond (.cst (.bool t)) a b) k tm h Q=match t with | true=>run call lf nt f ro a k tm h Q | false=>run call lf nt f ro b k tm h Q:=by
 rw [run_cond (t:=t) rfl];cases t <;> simp
structure Tg {α β : Type} (f:α->Option β) where
def tg {α β : Type} {f:α->Option β}:Tg f:=⟨⟩
def B {α β : Type} (x:Option α) (f:α->Option β) (_:Tg f):Option β:=match x with
 | none=>none
 | some a=>f a
theorem B_some {α β : Type} {a:α} {f:α->Option β} {t:Tg f}:B (some a) f t=f a:=by
 have h:∀ x:Option α,x=some a->B x f t=f a:=fun x hx=>by subst hx;rfl
 exact h _ rfl
structure Tk {α : Type} (f:α->Bool) where
def tk {α : Type} {f:α->Bool}:Tk f:=⟨⟩
def Ck {α : Type} (x:Option α) (f:α->Bool) (_:Tk f):Bool:=match x with
 | none=>false
 | some a=>f a
theorem Ck_some {α : Type} {a:α} {f:α->Bool} {t:Tk f}:Ck (some a) f t=f a:=by
 have h:∀ x:Option α,x=some a->Ck x f t=f a:=fun x hx=>by subst hx;rfl
 exact h _ rfl
def Wt? (w:Bool) (v:AV) (e:Option AV):Option AV:=match wanted w v with
 | true=>e
 | false=>some undefA
theorem Wt_eq {w:Bool} {v:AV} {e:Option AV}:Wt? w v e=match wanted w v with
 | true=>e
 | false=>some undefA:=by unfold Wt?;cases wanted w v <;> rfl
def Ins.q (i:Ins) (vs tm:Tr AV) (id:Nat) (h:Heap):Option AV :=
 Ins.rec (motive:=fun _=>Option AV) (fun x=>x.get [] vs tm) (fun f x=>ob (x.get [] vs tm) f) (fun f x y=>ob (x.get [] vs tm) fun a=>ob (y.get [] vs tm) fun b=>f a b)
  (fun c a b=>ob (c.get [] vs tm) fun v=>eBool (fun t=>Bool.rec (motive:=fun _=>Option AV) (b.get [] vs tm) (a.get [] vs tm) t) v)
  (fun f xs=>ob (gets xs [] vs tm) f) (fun x=>ob (x.get [] vs tm) (load1 h)) (fun s x=>ob (x.get [] vs tm) (loadN s h)) (fun f xs=>ob (gets xs [] vs tm) fun us=>f us h)
  (fun f xs=>ob (gets xs [] vs tm) fun us=>ob (f us) fun r=>some (r.2 id)) (fun _ _=>none) (fun _ _=>none) (fun _ _=>none) none i
theorem ob_pair {α : Type} {h:Heap} (x:Option α):ob (ob x fun r=>some (r,h)) (fun r=>some r.1)=x:=by cases x <;> rfl
theorem Ins.q_eq (i:Ins) (vs tm:Tr AV) (id:Nat) (h:Heap):i.q vs tm id h=i.quiet vs tm id h:=by
 cases i with
 | mv x=>exact (ob_pair (h:=h) (x.get [] vs tm)).symm
 | p1 f x =>
  show ob (x.get [] vs tm) f=ob (ob (x.get [] vs tm) fun v=>ob (f v) fun r=>some (r,h)) fun r=>some r.1
  cases x.get [] vs tm with
  | none=>rfl
  | some a=>exact (ob_pair (h:=h) (f a)).symm
 | p2 f x y =>
  show (ob (x.get [] vs tm) fun a=>ob (y.get [] vs tm) fun b=>f a b)=ob (ob (x.get [] vs tm) fun v=>ob (y.get [] vs tm) fun u=>ob (f v u) fun r=>some (r,h)) fun r=>some r.1
  cases x.get [] vs tm with
  | none=>rfl
  | some a =>
   show (ob (y.get [] vs tm) fun b=>f a b)=ob (ob (y.get [] vs tm) fun u=>ob (f a u) fun r=>some (r,h)) fun r=>some r.1
   cases y.get [] vs tm with
   | none=>rfl
   | some b=>exact (ob_pair (h:=h) (f a b)).symm
 | pick c a b =>
  show (ob (c.get [] vs tm) fun v=>eBool (fun t=>Bool.rec (motive:=fun _=>Option AV) (b.get [] vs tm) (a.get [] vs tm) t) v)=ob (ob (c.get [] vs tm) fun v=>eBool (fun t=>ob (Bool.rec (motive:=fun _=>Option AV) (b.get [] vs tm) (a.get [] vs tm) t) fun r=>some (r,h)) v) fun r=>some r.1
  cases c.get [] vs tm with
  | none=>rfl
  | some v =>
   cases v with
   | bool t=>cases t;exact (ob_pair (h:=h) (b.get [] vs tm)).symm;exact (ob_pair (h:=h) (a.get [] vs tm)).symm
   | _=>rfl
 | pn f xs =>
  show ob (gets xs [] vs tm) f=ob (ob (gets xs [] vs tm) fun v=>ob (f v) fun r=>some (r,h)) fun r=>some r.1
  cases gets xs [] vs tm with
  | none=>rfl
  | some a=>exact (ob_pair (h:=h) (f a)).symm
 | ld1 x =>
  show ob (x.get [] vs tm) (load1 h)=ob (ob (x.get [] vs tm) fun v=>ob (load1 h v) fun r=>some (r,h)) fun r=>some r.1
  cases x.get [] vs tm with
  | none=>rfl
  | some a=>exact (ob_pair (h:=h) (load1 h a)).symm
 | ldn s x =>
  show ob (x.get [] vs tm) (loadN s h)=ob (ob (x.get [] vs tm) fun v=>ob (loadN s h v) fun r=>some (r,h)) fun r=>some r.1
  cases x.get [] vs tm with
  | none=>rfl
  | some a=>exact (ob_pair (h:=h) (loadN s h a)).symm
 | rd f xs =>
  show (ob (gets xs [] vs tm) fun us=>f us h)=ob (ob (gets xs [] vs tm) fun us=>ob (f us h) fun r=>some (r,h)) fun r=>some r.1
  cases gets xs [] vs tm with
  | none=>rfl
  | some a=>exact (ob_pair (h:=h) (f a h)).symm
 | _=>rfl
def GIns.q (x:GIns) (vs tm:Tr AV) (id:Nat) (h:Heap):Option AV :=
 Option.rec (motive:=fun _=>Option AV) (x.i.q vs tm id h)
  (fun g=>ob (g.1.get [] vs tm) fun v=>Bool.rec (motive:=fun _=>Option AV) (some undefA) (x.i.q vs tm id h) (wanted g.2 v)) x.g
theorem GIns.q_eq (x:GIns) (vs tm:Tr AV) (id:Nat) (h:Heap):x.q vs tm id h=x.quiet vs tm id h:=by
 unfold GIns.q GIns.quiet
 rw [Ins.q_eq]
def quietQ (base:Nat) (tm vs:Tr AV) (own:Nat×GIns->List (Nat×GIns)) (h:Heap) (x:Nat×GIns):Option AV :=
 ob (runMats base tm vs (own x) h) fun hx=>x.2.q vs tm (Nat.add base x.1) hx
theorem quietQ_eq (base:Nat) (tm vs:Tr AV) (own:Nat×GIns->List (Nat×GIns)) (h:Heap) (x:Nat×GIns):quietQ base tm vs own h x=quietO base tm vs own h x:=by
 unfold quietQ quietO
 congr 1
 funext hx
 exact GIns.q_eq ..
def cksQ (base:Nat) (tm vs:Tr AV) (h:Heap) (own:Nat×GIns->List (Nat×GIns)) (l:List (Nat×GIns)):Bool :=
 List.rec (motive:=fun _=>Bool) true (fun x _ ih=>Option.rec (motive:=fun _=>Bool) false (fun v=>Option.rec (motive:=fun _=>Bool) false (fun u=>and' (AV.same v u) ih) (vs.gt x.1)) (quietQ base tm vs own h x)) l
theorem cksQ_eq (base:Nat) (tm vs:Tr AV) (h:Heap) (own:Nat×GIns->List (Nat×GIns)):∀ l,cksQ base tm vs h own l=runCks base tm vs h own l
 | []=>rfl
 | x::l=>by
  show (Option.rec (motive:=fun _=>Bool) false (fun v=>Option.rec (motive:=fun _=>Bool) false (fun u=>and' (AV.same v u) (cksQ base tm vs h own l)) (vs.gt x.1)) (quietQ base tm vs own h x):Bool)=_
  rw [quietQ_eq,cksQ_eq base tm vs h own l];rfl
section
variable {β : Type}
def evsK (base:Nat) (tm:Tr AV) (h:Heap) (own:Nat×GIns->List (Nat×GIns)) (l:List (Nat×GIns)) (kf:Tr AV->Option β):Tr AV->Option β :=
 List.rec (motive:=fun _=>Tr AV->Option β) kf (fun x _ ih vs=>ob (quietQ base tm vs own h x) fun v=>ih (vs.up (some v) x.1)) l
theorem evsK_eq (base:Nat) (tm:Tr AV) (h:Heap) (own:Nat×GIns->List (Nat×GIns)) (kf:Tr AV->Option β):∀ l vs,evsK base tm h own l kf vs=ob (runEvs base tm h own l vs) kf
 | [],_=>rfl
 | x::l,vs=>by
  show ob (quietQ base tm vs own h x) (fun v=>evsK base tm h own l kf (vs.up (some v) x.1))=ob (ob (quietO base tm vs own h x) fun v=>runEvs base tm h own l (vs.up (some v) x.1)) kf
  rw [quietQ_eq]
  cases quietO base tm vs own h x with
  | none=>rfl
  | some v=>exact evsK_eq base tm h own kf l _
def matsK (base:Nat) (tm vs:Tr AV) (l:List (Nat×GIns)) (kf:Heap->Option β):Heap->Option β :=
 List.rec (motive:=fun _=>Heap->Option β) kf (fun x _ ih h=>ob (x.2.blk vs tm) fun b=>Option.rec (motive:=fun _=>Option β) (ih h) (fun b=>ih (Heap.mk (h.bs.up (some b) (Nat.add base x.1)) h.next)) b) l
theorem matsK_eq (base:Nat) (tm vs:Tr AV) (kf:Heap->Option β):∀ l h,matsK base tm vs l kf h=ob (runMats base tm vs l h) kf
 | [],_=>rfl
 | x::l,h=>by
  show ob (x.2.blk vs tm) (fun b=>Option.rec (motive:=fun _=>Option β) (matsK base tm vs l kf h) (fun b=>matsK base tm vs l kf (Heap.mk (h.bs.up (some b) (Nat.add base x.1)) h.next)) b)=ob (ob (x.2.blk vs tm) fun b=>Option.rec (motive:=fun _=>Option Heap) (runMats base tm vs l h) (fun b=>runMats base tm vs l (Heap.mk (h.bs.up (some b) (Nat.add base x.1)) h.next)) b) kf
  cases x.2.blk vs tm with
  | none=>rfl
  | some b=>cases b <;> exact matsK_eq base tm vs kf l _
def actK (tm vs:Tr AV) (call:CallFn) (h:Heap) (kf:Tr AV->Heap->Option β) (a:Option (Nat×GIns)):Option β :=
 Option.rec (motive:=fun _=>Option β) (kf vs h) (fun x=>ob (x.2.ev [] vs tm call h.next h) fun r=>kf (vs.up (some r.1) x.1) r.2) a
def stagesK (base:Nat) (tm:Tr AV) (call:CallFn) (ss:List Stage) (kf:Tr AV->Heap->Option β):Tr AV->Heap->Option β :=
 List.rec (motive:=fun _=>Tr AV->Heap->Option β) kf (fun s _ ih vs h=>iff' (cksQ base tm vs h s.own s.cks) (evsK base tm h s.own s.evs (fun vs=>matsK base tm vs s.mats (fun h=>actK tm vs call h ih s.act) h) vs)) ss
theorem stagesK_eq (base:Nat) (tm:Tr AV) (call:CallFn) (kf:Tr AV->Heap->Option β):∀ ss vs h,stagesK base tm call ss kf vs h=ob (runStages base tm call ss vs h) fun r=>kf r.1 r.2
 | [],_,_=>rfl
 | s::ss,vs,h=>by
  show iff' (cksQ base tm vs h s.own s.cks) (evsK base tm h s.own s.evs (fun vs=>matsK base tm vs s.mats (fun h=>actK tm vs call h (stagesK base tm call ss kf) s.act) h) vs)=ob (iff' (runCks base tm vs h s.own s.cks) (ob (runEvs base tm h s.own s.evs vs) fun vs=>ob (runMats base tm vs s.mats h) fun h=>runAct tm vs call h (runStages base tm call ss) s.act)) fun r=>kf r.1 r.2
  rw [cksQ_eq]
  cases runCks base tm vs h s.own s.cks with
  | false=>rfl
  | true =>
   show evsK base tm h s.own s.evs _ vs=ob (ob (runEvs base tm h s.own s.evs vs) _) _
   rw [evsK_eq]
   cases runEvs base tm h s.own s.evs vs with
   | none=>rfl
   | some vs =>
    show matsK base tm vs s.mats _ h=ob (ob (runMats base tm vs s.mats h) _) _
    rw [matsK_eq]
    cases runMats base tm vs s.mats h with
    | none=>rfl
    | some h =>
     show actK tm vs call h (stagesK base tm call ss kf) s.act=ob (runAct tm vs call h (runStages base tm call ss) s.act) _
     cases s.act with
     | none=>exact stagesK_eq base tm call kf ss vs h
     | some x =>
      show ob (x.2.ev [] vs tm call h.next h) (fun r=>stagesK base tm call ss kf (vs.up (some r.1) x.1) r.2)=ob (ob (x.2.ev [] vs tm call h.next h) fun r=>runStages base tm call ss (vs.up (some r.1) x.1) r.2) _
      cases x.2.ev [] vs tm call h.next h with
      | none=>rfl
      | some r=>exact stagesK_eq base tm call kf ss _ _
end
theorem kDrw {c:AC} {n:Nat} {ss:List Stage} {outs:List (Nat×Nat)} {E:CallFn->Tr AV->Heap->Option (Tr AV×Heap)} (hc:c=.draw n ss outs)
  (hE:(fun call tm h=>E call tm h)=fun call tm h=>stagesK h.next tm call ss (fun vs h'=>ob (putOutsD outs vs tm) fun tm'=>some (tm',h')) .leaf ⟨h.bs,Nat.add h.next n⟩):RReg c E:=by
 subst hc
 refine rDrw ?_
 rw [hE]
 funext call tm h
 exact stagesK_eq h.next tm call _ ss .leaf _
end
end Go.Am
namespace Go.Am
section
variable {P:Program} {t e:TypeId} {k l:IntKind} {s:Nat}
theorem quoI_eq {a b:Int} (h:b≠0):quoI k a b=some (.int k (k.wrap (a.tdiv b))):=by
 cases a with
 | ofNat x =>
  cases b with
  | ofNat y =>
   cases y with
   | zero=>exact absurd rfl h
   | succ y=>show fit k (Nat.div x (y+1))=_;rw [fit_eq];rfl
  | negSucc y=>show quoSlow k _ _=_;unfold quoSlow;rw [if_neg h];rfl
 | negSucc x=>show quoSlow k _ _=_;unfold quoSlow;rw [if_neg h];rfl
theorem b_quo {a b:Int} (h:b≠0):bin2 P .quo t (.int k a) (.int k b)=some (.int k (k.wrap (a.tdiv b))):=by
 show kEq k k (quoI k a b)=_;rw [kEq_same,quoI_eq h]
theorem bitN_eq {g:Nat->Nat->Nat} {f:IntKind->Int->Int->Option AV} {x y:Nat} (hx:x<=maxK k) (hy:y<=maxK k):bitI g f k (x:Int) (y:Int)=some (.int k (k.wrap ((g x y:Nat):Int))):=by
 show (Bool.rec (motive:=fun _=>Option AV) (f k x y) (Bool.rec (motive:=fun _=>Option AV) (f k x y) (fit k (g x y)) (Nat.ble y (maxK k))) (Nat.ble x (maxK k)):Option AV)=_
 rw [Nat.ble_eq_true_of_le hx,Nat.ble_eq_true_of_le hy]
 show fit k (g x y)=_
 rw [fit_eq]
theorem b_and {x y:Nat} (hx:x<=maxK k) (hy:y<=maxK k):bin2 P .and t (.int k (x:Int)) (.int k (y:Int))=some (.int k (k.wrap ((x&&&y:Nat):Int))):=by
 show kEq k k (bitI Nat.land andS k x y)=_;rw [kEq_same,bitN_eq hx hy];rfl
theorem b_or {x y:Nat} (hx:x<=maxK k) (hy:y<=maxK k):bin2 P .or t (.int k (x:Int)) (.int k (y:Int))=some (.int k (k.wrap ((x|||y:Nat):Int))):=by
 show kEq k k (bitI Nat.lor orS k x y)=_;rw [kEq_same,bitN_eq hx hy];rfl
theorem b_shl {a:Int} {n:Nat} (h:n<=k.bits):bin2 P .shl t (.int k a) (.int l (n:Int))=some (.int k (k.wrap (a*2^n))):=by
 show shlS k a (n:Int)=_
 unfold shlS
 rw [if_neg (by omega),show min (n:Int).toNat k.bits=n by omega];rfl
theorem wrap_u64 {n:Int} (h:0<=n) (h':n<=18446744073709551615):IntKind.u64.wrap n=n:=by
 simp [IntKind.wrap,IntKind.signed,IntKind.bits]
 omega
theorem sl_arr {n b o:Nat} (hu:P.underlying t=some (.array n e)) (hs:tSize P e=some s):sliceN P t false false false [.ptr (some (b,o))]=some (.slice (some (b,o)) n n none):=by
 show sliceV P t (.ptr (some (b,o))) none none none=_
 unfold sliceV;rw [hu];simp only [hs]
 show some (AV.slice (some (b,o+0*s)) (n - 0) (n - 0) none)=_
 rw [Nat.zero_mul,Nat.add_zero,Nat.sub_zero]
theorem bytes_one (l:List Nat):(l.map byteV).all AV.one=true:=by
 rw [List.all_eq_true];intro x hx;obtain ⟨i,_,rfl⟩:=List.mem_map.1 hx;rfl
theorem theByte_eq {c:Nat} (h:c<256):theByte (byteV c)=some c:=by
 show iff' true (iff' (Nat.ble c 255) (some c))=_
 rw [show Nat.ble c 255=true from Nat.ble_eq_true_of_le (by omega)];rfl
theorem bytesOf_eq:∀ {l:List Nat},(∀ c,c∈l->c<256)->bytesOf (l.map byteV)=some l
 | [],_=>rfl
 | c::l,h=>by
  show (Option.rec (motive:=fun _=>Option (List Nat)) none (fun c=>Option.rec (motive:=fun _=>Option (List Nat)) none (fun l=>some (c::l)) (bytesOf (l.map byteV))) (theByte (byteV c)):Option (List Nat))=_
  rw [theByte_eq (h c (List.mem_cons_self ..)),bytesOf_eq fun x hx=>h x (List.mem_cons_of_mem _ hx)]
theorem of_bytes (hu:P.underlying e=some (.int .u8)) {h:Heap} {b o n c:Nat} {g:Option Nat} {m:List Nat} (hb:∀ c,c∈m->c<256) (hl:h.ld b o n=some (m.map byteV)):ofBytes1 P e (.slice (some (b,o)) n c g) h=some (.str m):=by
 unfold ofBytes1;rw [hu];simp only [hl,bytesOf_eq hb];rfl
theorem srcOf_str {h:Heap} (m:List Nat):srcOf s (fun n=>n) (.str m) h=some (m.map byteV,m.length):=by
 show some (bytesV (take' (len' m) m),len' m)=_
 rw [len'_eq,take'_eq,List.take_length,bytesV_eq]
theorem copy_str (hu:P.underlying t=some (.slice e)) (hs:tSize P e=some s) {h:Heap} {b o n c:Nat} {g:Option Nat} {vs z:List AV} {m:List Nat} (hr:Rw h b vs z false) (hm:m.length<=n) (ho:o+m.length<=vs.length) :
  ∃ h',copyS P t (.slice (some (b,o)) n c g) (.str m) h=some (.int .i64 (m.length:Int),h')/\Rw h' b (putL vs o (m.map byteV)) z false/\h'.next=h.next/\∀ c,c≠b->h'.bs.gt c=h.bs.gt c:=by
 obtain ⟨a,b',d,e'⟩:=hr.sto (o:=o) (us:=m.map byteV) (by simpa using ho) (bytes_one m)
 refine ⟨_,?_,b',d,e'⟩
 unfold copyS
 rw [hu];simp only [hs]
 show (Option.rec (motive:=fun _=>Option (AV×Heap)) none (fun src=>stoAs (.int .i64 (Int.ofNat src.2)) (h.sto b o src.1)) (srcOf s (fun x=>minN x n) (.str m) h):Option (AV×Heap))=_
 have hmin:minN m.length n=m.length:=by
  show (Bool.rec (motive:=fun _=>Nat) n m.length (Nat.ble m.length n):Nat)=_
  rw [show Nat.ble m.length n=true from Nat.ble_eq_true_of_le hm]
 have:srcOf s (fun x=>minN x n) (.str m) h=some (m.map byteV,m.length):=by
  show some (bytesV (take' (minN (len' m) n) m),minN (len' m) n)=_
  rw [len'_eq,hmin,take'_eq,List.take_length,bytesV_eq]
 rw [this]
 show stoAs (.int .i64 (Int.ofNat m.length)) (h.sto b o (m.map byteV))=_
 rw [a];rfl
theorem str_at {h:Heap} {b:Nat} {m:List Nat} {rest:List AV} {x ro:Bool} (hr:Rw h b (m.map byteV++rest) (tyMark e x) ro) (hm:0<m.length) (hl:m.length<=1099511627776) (hb:∀ c,c∈m->c<256) :
  ∃ h',strAt e h (.ptr (some (b,0))) (.int k (m.length:Int))=some (AV.str m,h')/\h'.next=h.next/\∀ c,c≠b->h'.bs.gt c=h.bs.gt c:=by
 obtain ⟨n,hn⟩:∃ n,m.length=n+1:=⟨m.length - 1,by omega⟩
 obtain ⟨tr,h1,h2⟩:=id hr
 have hld:=loadC_row (t:=tr) (z:=tyMark e x) (vs:=m.map byteV++rest) m.length 0 (by simp) h2
 rw [List.drop_zero,List.take_append_of_le_length (by simp),List.take_of_length_le (by simp)] at hld
 refine ⟨h.put b (.cells tr (tyMark e x) (m.map byteV++rest).length true),?_,rfl,fun c hc=>by rw [put_get,if_neg hc]⟩
 rw [hn]
 show iff' (Nat.ble (Nat.succ n) 1099511627776) (h.cells b fun t z m' _=>match markOf z with
   | some (e',_)=>if e'=e then iff' (Nat.ble (Nat.add 0 (Nat.succ n)) m') (ob' (loadC t z (Nat.succ n) 0) fun vs=>ob' (bytesOf vs) fun l=>some (AV.str l,h.put b (.cells t z m' true))) else none
   | none=>none)=_
 rw [show Nat.ble (Nat.succ n) 1099511627776=true from Nat.ble_eq_true_of_le (by omega)]
 show h.cells b _=_
 unfold Heap.cells
 rw [h1]
 show (match markOf (tyMark e x) with
   | some (e',_)=>if e'=e then iff' (Nat.ble (Nat.add 0 (Nat.succ n)) (m.map byteV++rest).length) (ob' (loadC tr (tyMark e x) (Nat.succ n) 0) fun vs=>ob' (bytesOf vs) fun l=>some (AV.str l,h.put b (.cells tr (tyMark e x) (m.map byteV++rest).length true))) else none
   | none=>none)=_
 rw [show markOf (tyMark e x)=some (e,x) from rfl]
 show (if e=e then _ else none)=_
 rw [if_pos rfl,show Nat.succ n=m.length from hn.symm,hld,show Nat.ble (Nat.add 0 m.length) (m.map byteV++rest).length=true from Nat.ble_eq_true_of_le (by simp)]
 show ob' (bytesOf (m.map byteV)) _=_
 rw [bytesOf_eq hb]
theorem str_at0 {h:Heap} {a:Option (Nat×Nat)}:strAt e h (.ptr a) (.int k 0)=some (AV.str [],h):=rfl
theorem ms_make {by':Nat} {z:AV} (hu:P.underlying t=some (.slice e)) (hs:tSize P e=some s) (hz:tZero P e=some z) (hb:tBytes P e=some by') (hzl:z.cells.length=s) (h1:z.cells.all AV.one=true) {n:Nat} (hn:n<1099511627776) (hby:by'*n<=140737488355328) :
  makeSlice2 P t (.int k (n:Int)) (.int l (n:Int))=some (.cells .leaf z.cells (n*s) false,fun b=>.slice (some (b,0)) n n none):=by
 unfold makeSlice2
 rw [hu];simp only [hs,hz,hb]
 show (if 0<=(n:Int)/\(n:Int)<=(n:Int)/\(n:Int)<2^40/\(by':Int)*(n:Int)<=2^47/\z.cells.length=s/\allOne z.cells=true then some (Blk.cells .leaf z.cells ((n:Int).toNat*s) false,fun b=>AV.slice (some (b,0)) (n:Int).toNat (n:Int).toNat none) else none)=_
 rw [if_pos ⟨by omega,by omega,by omega,by rw [← Int.natCast_mul];omega,hzl,by rw [allOne_eq];exact h1⟩];rfl
theorem flat_rep_get (z:List AV) (hz:0<z.length):∀ (n i:Nat),i<n*z.length->(List.replicate n z).flatten[i]?=z[i%z.length]?
 | 0,i,h=>by omega
 | n+1,i,h=>by
  rw [List.replicate_succ,List.flatten_cons]
  by_cases hi:i<z.length
  ·rw [List.getElem?_append_left hi,Nat.mod_eq_of_lt hi]
  ·rw [List.getElem?_append_right (by omega),flat_rep_get z hz n (i - z.length) (by rw [Nat.succ_mul] at h;omega),← Nat.mod_eq_sub_mod (by omega)]
theorem flat_rep_len (z:List AV) (n:Nat):(List.replicate n z).flatten.length=n*z.length:=by
 induction n with
 | zero=>simp
 | succ n ih=>rw [List.replicate_succ,List.flatten_cons,List.length_append,ih,Nat.succ_mul];omega
theorem Rw.zeros (h:Heap) {id n s:Nat} {z:List AV} {ro:Bool} (hid:h.next<=id) (hs:z.length=s) (h0:0<s) :
  ∃ h1,h.new id (.cells .leaf z (n*s) ro)=h1/\Rw h1 id (List.replicate n z).flatten z ro/\h1.next=id+1/\∀ c,c≠id->h1.bs.gt c=h.bs.gt c:=by
 subst hs
 refine ⟨_,rfl,⟨.leaf,?_,fun i hi=>?_⟩,new_next' hid _,fun c hc=>by rw [new_get' hid,if_neg hc]⟩
 ·rw [new_get' hid,if_pos rfl,flat_rep_len]
 ·rw [flat_rep_len] at hi
  rw [flat_rep_get z h0 n i hi]
  unfold cellAt
  rw [gt_leaf]
  show nth z (i%len' z)=_
  rw [nth_eq,len'_eq]
end
end Go.Am
namespace Go.Am
structure Bits (W:List Nat) (U:Nat->Bool):Prop where
 len:W.length=4
 lt:∀ w,w∈W->w<2^64
 bit:∀ k,k<256->(W.getD (k / 64) 0).testBit (k%64)=U k
theorem Bits.zero:Bits [0,0,0,0] fun _=>false:=by
 refine ⟨rfl,fun w hw=>?_,fun k hk=>?_⟩
 ·simp only [List.mem_cons,List.not_mem_nil,or_false,or_self] at hw;subst hw;decide
 ·have:([0,0,0,0]:List Nat).getD (k / 64) 0=0:=by
   have h4:k / 64<4:=by omega
   match k / 64,h4 with
   | 0,_=>rfl
   | 1,_=>rfl
   | 2,_=>rfl
   | 3,_=>rfl
  rw [this,Nat.zero_testBit]
theorem and_bit {w i:Nat}:w&&&2^i=if w.testBit i then 2^i else 0:=by
 apply Nat.eq_of_testBit_eq
 intro j
 rw [Nat.testBit_and,Nat.testBit_two_pow]
 by_cases e:i=j
 ·subst e
  cases w.testBit i with
  | true=>rw [if_pos rfl,Nat.testBit_two_pow];simp
  | false=>rw [if_neg (by decide),Nat.zero_testBit];rfl
 ·cases w.testBit i with
  | true=>rw [if_pos rfl,Nat.testBit_two_pow,decide_eq_false e,Bool.and_false]
  | false=>rw [if_neg (by decide),Nat.zero_testBit,decide_eq_false e,Bool.and_false]
theorem Bits.ask {W:List Nat} {U:Nat->Bool} (h:Bits W U) {k:Nat} (hk:k<256):(W.getD (k / 64) 0&&&2^(k%64))=if U k then 2^(k%64) else 0:=by
 rw [and_bit,h.bit k hk]
theorem or_bit {w i j:Nat}:(w|||2^i).testBit j=(w.testBit j||decide (i=j)):=by
 rw [Nat.testBit_or,Nat.testBit_two_pow]
theorem Bits.use {W:List Nat} {U:Nat->Bool} (h:Bits W U) {k:Nat} (hk:k<256):Bits (W.set (k / 64) (W.getD (k / 64) 0|||2^(k%64))) (fun j=>U j||decide (j=k)):=by
 have hl:=h.len
 have h4:k / 64<W.length:=by omega
 refine ⟨by rw [List.length_set];exact hl,fun w hw=>?_,fun j hj=>?_⟩
 ·rcases List.mem_or_eq_of_mem_set hw with h1 | rfl
  ·exact h.lt w h1
  ·have hm:W.getD (k / 64) 0∈W:=by rw [List.getD_eq_getElem?_getD,List.getElem?_eq_getElem h4];exact List.getElem_mem h4
   exact Nat.or_lt_two_pow (h.lt _ hm) (Nat.pow_lt_pow_right (by decide) (Nat.mod_lt _ (by decide)))
 ·by_cases e:j / 64=k / 64
  ·have:(W.set (k / 64) (W.getD (k / 64) 0|||2^(k%64))).getD (j / 64) 0=W.getD (j / 64) 0|||2^(k%64):=by
    rw [e,List.getD_eq_getElem?_getD,List.getElem?_set_self h4];rfl
   rw [this,or_bit,h.bit j hj]
   congr 1
   rw [decide_eq_decide]
   omega
  ·have:(W.set (k / 64) (W.getD (k / 64) 0|||2^(k%64))).getD (j / 64) 0=W.getD (j / 64) 0:=by
    rw [List.getD_eq_getElem?_getD,List.getElem?_set_ne (fun h=>e h.symm),← List.getD_eq_getElem?_getD]
   rw [this,h.bit j hj,show decide (j=k)=false from decide_eq_false (fun h=>e (by rw [h])),Bool.or_false]
theorem Bits.word {W:List Nat} {U:Nat->Bool} (h:Bits W U) {k:Nat} (hk:k<256):W[k / 64]?=some (W.getD (k / 64) 0)/\W.getD (k / 64) 0<2^64:=by
 have hl:=h.len
 have h4:k / 64<W.length:=by omega
 rw [List.getD_eq_getElem?_getD,List.getElem?_eq_getElem h4]
 exact ⟨rfl,h.lt _ (List.getElem_mem h4)⟩
theorem pow_le63 {i:Nat} (h:i<64):2^i<=9223372036854775808:=by
 have:2^i<=2^63:=Nat.pow_le_pow_right (by decide) (by omega)
 exact this
theorem Rw.mat (h:Heap) {id n:Nat} {vs z:List AV} {ro:Bool} (hn:n=vs.length) :
  ∃ h1,Heap.mk (h.bs.up (some (.cells (fillC vs .leaf 0) z n ro)) id) h.next=h1/\Rw h1 id vs z ro/\h1.next=h.next/\∀ c,c≠id->h1.bs.gt c=h.bs.gt c:=by
 subst hn
 refine ⟨_,rfl,⟨fillC vs .leaf 0,by show (h.bs.up _ id).gt id=_;rw [Tr.gt_up,if_pos rfl],fun i hi=>?_⟩,rfl,fun c hc=>by show (h.bs.up _ id).gt c=_;rw [Tr.gt_up,if_neg hc]⟩
 unfold cellAt
 rw [gt_fillC,if_pos (by omega),Nat.sub_zero,List.getElem?_eq_getElem hi]
theorem Rw.zmat (h:Heap) {id n s:Nat} {z:List AV} {ro:Bool} (hs:z.length=s) (h0:0<s) :
  ∃ h1,Heap.mk (h.bs.up (some (.cells .leaf z (n*s) ro)) id) h.next=h1/\Rw h1 id (List.replicate n z).flatten z ro/\h1.next=h.next/\∀ c,c≠id->h1.bs.gt c=h.bs.gt c:=by
 subst hs
 refine ⟨_,rfl,⟨.leaf,?_,fun i hi=>?_⟩,rfl,fun c hc=>by show (h.bs.up _ id).gt c=_;rw [Tr.gt_up,if_neg hc]⟩
 ·show (h.bs.up _ id).gt id=_
  rw [Tr.gt_up,if_pos rfl,flat_rep_len]
 ·rw [flat_rep_len] at hi
  rw [flat_rep_get z h0 n i hi]
  unfold cellAt
  rw [gt_leaf]
  show nth z (i%len' z)=_
  rw [nth_eq,len'_eq]
end Go.Am
