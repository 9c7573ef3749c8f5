/- A part of the proof of the law PoolLoads. -/
import Derived.Test.YtboobbebilegnaaGreatLoAmA
import Derived.Lib.OthersKept
import Derived.Laws.Append
set_option linter.unusedVariables false
set_option linter.unusedSimpArgs false
set_option linter.constructorNameAsVariable false
set_option linter.defProp false
set_option maxRecDepth 20000

namespace Go.Am
section
variable {P:Program} {w:World} {ρ : Pls}
def Gives (P:Program) (w:World) (ρ : Pls) (s:Sem Value) (r:AV):Prop:=∃ v,s.run P w=.ok v w/\VR ρ r v
theorem eqGuard_pass {op:BinOp} {t:TypeId} {X Y:Operand} {a b:Value} (h:∀ x y,a=.agg x->b=.agg y->P.eqGuardType P.depth t=false) (h2:¬(a=.nilIface/\b=.nilIface)) :
  (eqGuard op t X Y a b).run P w=.ok () w:=by
 unfold eqGuard
 cases op <;> try (simp;done)
 all_goals
  cases a <;> cases b <;> first
   | (simp;done)
   | (exact absurd ⟨rfl,rfl⟩ h2)
   | (have:=h _ _ rfl rfl;simp [this];done)
theorem andthen_ok {α β : Type} {x:Sem α} {f:α->Sem β} {a:α} {w':World} (h:x.run P w=.ok a w'):(x >>= f).run P w=(f a).run P w':=by rw [Sem.run_bind,h];rfl
theorem eqV_sound {t:TypeId} {x y:AV} {a b:Value} {r:Bool} (h:eqV P t x y=some r) (hx:VR ρ x a) (hy:VR ρ y b) {op:BinOp} {X Y:Operand} :
  (eqGuard op t X Y a b).run P w=.ok () w/\(binOp .eql t a b).run P w=.ok (.bool r) w/\(binOp .neq t a b).run P w=.ok (.bool (!r)) w:=by
 have plain:∀ (hp:eqPlain P 50 t x y=some r) (ha:∀ k n l m,¬(a=.int k n/\b=.int l m)) (hs:∀ s u,¬(a=.string s/\b=.string u)) (hf:∀ k n l m,¬(a=.float k n/\b=.float l m)) (hc:∀ k n q l m p,¬(a=.complex k n q/\b=.complex l m p)),
   (binOp .eql t a b).run P w=.ok (.bool r) w/\(binOp .neq t a b).run P w=.ok (.bool (!r)) w:=by
  intro hp ha hs hf hc
  have he:(Op.equal t a b).run P w=.ok r w:=run_eqPlain 50 t x y a b r 10000 hp hx hy (by decide)
  have e1:binOp .eql t a b=(do pure (.bool (← Op.equal t a b))):=by
   unfold binOp
   split <;> first | rfl | (exact absurd ⟨rfl,rfl⟩ (ha _ _ _ _)) | (exact absurd ⟨rfl,rfl⟩ (hs _ _)) | (exact absurd ⟨rfl,rfl⟩ (hf _ _ _ _)) | (exact absurd ⟨rfl,rfl⟩ (hc _ _ _ _ _ _)) | contradiction
  have e2:binOp .neq t a b=(do pure (.bool (!(← Op.equal t a b)))):=by
   unfold binOp
   split <;> first | rfl | (exact absurd ⟨rfl,rfl⟩ (ha _ _ _ _)) | (exact absurd ⟨rfl,rfl⟩ (hs _ _)) | (exact absurd ⟨rfl,rfl⟩ (hf _ _ _ _)) | (exact absurd ⟨rfl,rfl⟩ (hc _ _ _ _ _ _)) | contradiction
  rw [e1,e2,andthen_ok he,andthen_ok he]
  exact ⟨rfl,rfl⟩
 cases x with
 | int k n =>
  obtain ⟨l,m,rfl,h1⟩:=eInt_some h
  obtain ⟨ek,h2⟩:=kEq_some h1
  clear h h1
  subst ek
  cases h2;cases hx;cases hy
  refine ⟨eqGuard_pass (fun _ _ e=>by cases e) (fun e=>by cases e.1),?_,?_⟩ <;> simp [binOp,Op.intCmp,eqI_eq]
  rfl
 | str s =>
  obtain ⟨u,rfl,h⟩:=eStr_some h
  cases h
  obtain ⟨s',rfl,rfl⟩:=hx
  obtain ⟨u',rfl,rfl⟩:=hy
  refine ⟨eqGuard_pass (fun _ _ e=>by cases e) (fun e=>by cases e.1),?_,?_⟩ <;> simp [binOp,Op.stringOp,strEq_bytes,ByteArray.toList_eq]
 | bool c =>
  cases hx
  exact ⟨eqGuard_pass (fun _ _ e=>by cases e) (fun e=>by cases e.1),plain h (fun _ _ _ _ e=>by cases e.1) (fun _ _ e=>by cases e.1) (fun _ _ _ _ e=>by cases e.1) (fun _ _ _ _ _ _ e=>by cases e.1)⟩
 | ptr q =>
  have:∃ q',a=.pointer q':=by
   cases q with
   | none=>cases hx;exact ⟨_,rfl⟩
   | some q=>obtain ⟨b0,o0⟩:=q;obtain ⟨p,_,rfl⟩:=hx;exact ⟨_,rfl⟩
  obtain ⟨q',rfl⟩:=this
  exact ⟨eqGuard_pass (fun _ _ e=>by cases e) (fun e=>by cases e.1),plain h (fun _ _ _ _ e=>by cases e.1) (fun _ _ e=>by cases e.1) (fun _ _ _ _ e=>by cases e.1) (fun _ _ _ _ _ _ e=>by cases e.1)⟩
 | slice q n c g =>
  have:∃ q' n c,a=.slice q' n c:=by
   cases q with
   | none=>obtain ⟨_,_,_,rfl⟩:=hx;exact ⟨_,_,_,rfl⟩
   | some q=>obtain ⟨b0,o0⟩:=q;obtain ⟨p,_,_,_,rfl,_⟩:=hx;exact ⟨_,_,_,rfl⟩
  obtain ⟨q',n',c',rfl⟩:=this
  exact ⟨eqGuard_pass (fun _ _ e=>by cases e) (fun e=>by cases e.1),plain h (fun _ _ _ _ e=>by cases e.1) (fun _ _ e=>by cases e.1) (fun _ _ _ _ e=>by cases e.1) (fun _ _ _ _ _ _ e=>by cases e.1)⟩
 | map q =>
  have:∃ q',a=.map q':=by
   cases q with
   | none=>cases hx;exact ⟨_,rfl⟩
   | some q=>obtain ⟨p,_,_,rfl⟩:=hx;exact ⟨_,rfl⟩
  obtain ⟨q',rfl⟩:=this
  exact ⟨eqGuard_pass (fun _ _ e=>by cases e) (fun e=>by cases e.1),plain h (fun _ _ _ _ e=>by cases e.1) (fun _ _ e=>by cases e.1) (fun _ _ _ _ e=>by cases e.1) (fun _ _ _ _ _ _ e=>by cases e.1)⟩
 | func fn u v =>
  obtain ⟨_,_,_,rfl,_⟩:=hx
  exact ⟨eqGuard_pass (fun _ _ e=>by cases e) (fun e=>by cases e.1),plain h (fun _ _ _ _ e=>by cases e.1) (fun _ _ e=>by cases e.1) (fun _ _ _ _ e=>by cases e.1) (fun _ _ _ _ _ _ e=>by cases e.1)⟩
 | nilFunc =>
  cases hx
  exact ⟨eqGuard_pass (fun _ _ e=>by cases e) (fun e=>by cases e.1),plain h (fun _ _ _ _ e=>by cases e.1) (fun _ _ e=>by cases e.1) (fun _ _ _ _ e=>by cases e.1) (fun _ _ _ _ _ _ e=>by cases e.1)⟩
 | iface t' u =>
  obtain ⟨_,rfl,_⟩:=hx
  exact ⟨eqGuard_pass (fun _ _ e=>by cases e) (fun e=>by cases e.1),plain h (fun _ _ _ _ e=>by cases e.1) (fun _ _ e=>by cases e.1) (fun _ _ _ _ e=>by cases e.1) (fun _ _ _ _ _ _ e=>by cases e.1)⟩
 | nilIface =>
  cases hx
  refine ⟨eqGuard_pass (fun _ _ e=>by cases e) (fun e=>?_),plain h (fun _ _ _ _ e=>by cases e.1) (fun _ _ e=>by cases e.1) (fun _ _ _ _ e=>by cases e.1) (fun _ _ _ _ _ _ e=>by cases e.1)⟩
  have h:eqPlain P 50 t .nilIface y=some r:=h
  obtain ⟨_,rfl⟩:=e
  have hy':y=.nilIface:=by
   cases y with
   | nilIface=>rfl
   | ptr q=>cases q with
    | none=>cases hy
    | some q=>obtain ⟨_,_,e⟩:=hy;cases e
   | slice q _ _ _=>cases q with
    | none=>obtain ⟨_,_,_,e⟩:=hy;cases e
    | some q=>obtain ⟨_,_,_,_,e,_⟩:=hy;cases e
   | map q=>cases q with
    | none=>cases hy
    | some q=>obtain ⟨_,_,_,e⟩:=hy;cases e
   | str s=>obtain ⟨_,e,_⟩:=hy;cases e
   | func f u v=>obtain ⟨_,_,_,e,_⟩:=hy;cases e
   | iface t' u=>obtain ⟨_,e,_⟩:=hy;cases e
   | agg cs=>obtain ⟨_,e,_⟩:=hy;cases e
   | tuple cs=>obtain ⟨_,e,_⟩:=hy;cases e
   | bool b=>cases hy
   | int k n=>cases hy
   | nilFunc=>cases hy
  subst hy'
  simp only [eqPlain] at h
  split at h <;> first | cases h | (split at h <;> first | cases h | contradiction)
 | agg cs =>
  obtain ⟨hg,h⟩:=iff'_some.1 h
  have hg:P.eqGuardType P.depth t=false:=by simpa using hg
  obtain ⟨_,rfl,_⟩:=hx
  exact ⟨eqGuard_pass (fun _ _ _ _=>hg) (fun e=>by cases e.1),plain h (fun _ _ _ _ e=>by cases e.1) (fun _ _ e=>by cases e.1) (fun _ _ _ _ e=>by cases e.1) (fun _ _ _ _ _ _ e=>by cases e.1)⟩
 | tuple cs=>cases h
theorem bin2_sound {op:BinOp} {t:TypeId} {x y r:AV} {a b:Value} (h:bin2 P op t x y=some r) (hx:VR ρ x a) (hy:VR ρ y b) {X Y:Operand} :
  Gives P w ρ (do eqGuard op t X Y a b;binOp op t a b) r:=by
 have noGuard:∀ {op:BinOp},op≠.eql->op≠.neq->(eqGuard op t X Y a b).run P w=.ok () w:=by
  intro op h1 h2;unfold eqGuard;cases op <;> first | (simp;done) | exact absurd rfl h1 | exact absurd rfl h2
 have ints:∀ {op:BinOp} {f:IntKind->Int->Int->Option AV},int2 f x y=some r->op≠.eql->op≠.neq ->
   (∀ k n m,f k n m=some r->∃ v,(binOp op t (.int k n) (.int k m)).run P w=.ok v w/\VR ρ r v)->Gives P w ρ (do eqGuard op t X Y a b;binOp op t a b) r:=by
  intro op f h h1 h2 hf
  obtain ⟨k,n,e1,g1⟩:=eInt_some h
  obtain ⟨l,m,e2,g2⟩:=eInt_some g1
  obtain ⟨e3,g3⟩:=kEq_some g2
  subst e1;subst e2;subst e3
  cases hx;cases hy
  obtain ⟨v,hv,hr⟩:=hf k n m g3
  exact ⟨v,by rw [andthen_ok (noGuard h1 h2)];exact hv,hr⟩
 have shifts:∀ {op:BinOp} {f:IntKind->Int->Int->Option AV},shft f x y=some r->op≠.eql->op≠.neq ->
   (∀ k n l m,f k n m=some r->∃ v,(binOp op t (.int k n) (.int l m)).run P w=.ok v w/\VR ρ r v)->Gives P w ρ (do eqGuard op t X Y a b;binOp op t a b) r:=by
  intro op f h h1 h2 hf
  obtain ⟨k,n,e1,g1⟩:=eInt_some h
  obtain ⟨l,m,e2,g2⟩:=eInt_some g1
  subst e1;subst e2
  cases hx;cases hy
  obtain ⟨v,hv,hr⟩:=hf k n l m g2
  exact ⟨v,by rw [andthen_ok (noGuard h1 h2)];exact hv,hr⟩
 have cmps:∀ {op:BinOp} {f:Int->Int->Bool} {g:List Nat->List Nat->Bool},cmp2 f g x y=some r->op≠.eql->op≠.neq ->
   (∀ k n m,(binOp op t (.int k n) (.int k m)).run P w=.ok (.bool (f n m)) w) ->
   (∀ s u:ByteArray,(binOp op t (.string s) (.string u)).run P w=.ok (.bool (g (s.data.toList.map (·.toNat)) (u.data.toList.map (·.toNat)))) w)->Gives P w ρ (do eqGuard op t X Y a b;binOp op t a b) r:=by
  intro op f g h h1 h2 hf hg
  cases x with
  | int k n =>
   obtain ⟨l,m,e2,g2⟩:=eInt_some h
   obtain ⟨e3,g3⟩:=kEq_some g2
   subst e2;subst e3
   cases g3;cases hx;cases hy
   exact ⟨_,by rw [andthen_ok (noGuard h1 h2)];exact hf k n m,rfl⟩
  | str s =>
   obtain ⟨u,rfl,h⟩:=eStr_some h
   cases h
   obtain ⟨s',rfl,rfl⟩:=hx
   obtain ⟨u',rfl,rfl⟩:=hy
   exact ⟨_,by rw [andthen_ok (noGuard h1 h2)];exact hg s' u',rfl⟩
  | _=>cases h
 cases op with
 | add =>
  cases x with
  | int k n =>
   obtain ⟨l,m,e2,g2⟩:=eInt_some h
   obtain ⟨e3,g3⟩:=kEq_some g2
   subst e2;subst e3
   rw [addI_eq] at g3;cases g3;cases hx;cases hy
   exact ⟨.int k (k.wrap (n+m)),by rw [andthen_ok (noGuard (by simp) (by simp))];simp [binOp,Op.intArith],rfl⟩
  | str s =>
   obtain ⟨u,rfl,h⟩:=eStr_some h
   obtain ⟨s',rfl,rfl⟩:=hx
   obtain ⟨u',rfl,rfl⟩:=hy
   have h:addS (s'.data.toList.map (·.toNat)) (u'.data.toList.map (·.toNat))=some r:=h
   unfold addS at h
   obtain ⟨hle,h3⟩:=boolRec_some.1 h
   cases h3
   have hle:=Nat.le_of_ble_eq_true hle
   simp only [len'_eq,List.length_map,Nat.add_eq] at hle
   refine ⟨.string (s'++u'),?_,⟨_,rfl,?_⟩⟩
   ·rw [andthen_ok (noGuard (by simp) (by simp))]
    have:¬(((s'.size+u'.size:Nat):Int) > IntKind.i64.max):=by
     have e1:s'.size=s'.data.toList.length:=by rw [Array.length_toList];rfl
     have e2:u'.size=u'.data.toList.length:=by rw [Array.length_toList];rfl
     rw [e1,e2]
     simp only [IntKind.max,IntKind.signed,IntKind.bits];simp;omega
    simp only [binOp,Op.stringOp,if_neg this];rfl
   ·rw [app'_eq];simp
  | _=>cases h
 | sub=>exact ints h (by simp) (by simp) fun k n m hf=>⟨.int k (k.wrap (n - m)),by simp [binOp,Op.intArith],by rw [subI_eq] at hf;cases hf;rfl⟩
 | mul=>exact ints h (by simp) (by simp) fun k n m hf=>⟨.int k (k.wrap (n*m)),by simp [binOp,Op.intArith],by rw [mulI_eq] at hf;cases hf;rfl⟩
 | quo =>
  refine ints h (by simp) (by simp) fun k n m hf=>?_
  obtain ⟨h0,rfl⟩:=quoI_some hf
  exact ⟨.int k (k.wrap (n.tdiv m)),by simp [binOp,Op.intDiv,h0],rfl⟩
 | rem =>
  refine ints h (by simp) (by simp) fun k n m hf=>?_
  obtain ⟨h0,rfl⟩:=remI_some hf
  exact ⟨.int k (n.tmod m),by simp [binOp,Op.intDiv,h0],rfl⟩
 | and=>exact ints h (by simp) (by simp) fun k n m hf=>⟨.int k (k.wrap (BitVec.ofInt k.bits n&&&BitVec.ofInt k.bits m).toNat),by simp [binOp,Op.intBits],by rw [and_eq] at hf;cases hf;rfl⟩
 | or=>exact ints h (by simp) (by simp) fun k n m hf=>⟨.int k (k.wrap (BitVec.ofInt k.bits n|||BitVec.ofInt k.bits m).toNat),by simp [binOp,Op.intBits],by rw [or_eq] at hf;cases hf;rfl⟩
 | xor=>exact ints h (by simp) (by simp) fun k n m hf=>⟨.int k (k.wrap (BitVec.ofInt k.bits n ^^^ BitVec.ofInt k.bits m).toNat),by simp [binOp,Op.intBits],by rw [xor_eq] at hf;cases hf;rfl⟩
 | andNot=>exact ints h (by simp) (by simp) fun k n m hf=>⟨.int k (k.wrap (BitVec.ofInt k.bits n&&&~~~ BitVec.ofInt k.bits m).toNat),by simp [binOp,Op.intBits],by cases hf;rfl⟩
 | shl =>
  refine shifts h (by simp) (by simp) fun k n l m hf=>?_
  unfold shlS wrapV at hf
  split at hf
  ·cases hf
  ·rename_i h0;cases hf;exact ⟨.int k (k.wrap (n*2^min m.toNat k.bits)),by simp [binOp,Op.shift,h0],rfl⟩
 | shr =>
  refine shifts h (by simp) (by simp) fun k n l m hf=>?_
  unfold shrS at hf
  split at hf
  ·cases hf
  ·rename_i h0;cases hf;exact ⟨.int k (n.fdiv (2^min m.toNat k.bits)),by simp [binOp,Op.shift,h0],rfl⟩
 | eql =>
  cases he:eqV P t x y with
  | none=>simp only [bin2,eql2,he] at h;cases h
  | some q =>
   simp only [bin2,eql2,he] at h;cases h
   obtain ⟨h1,h2,_⟩:=eqV_sound (w:=w) he hx hy (op:=.eql) (X:=X) (Y:=Y)
   exact ⟨_,by rw [andthen_ok h1];exact h2,rfl⟩
 | neq =>
  cases he:eqV P t x y with
  | none=>simp only [bin2,neq2,he] at h;cases h
  | some q =>
   simp only [bin2,neq2,he,notB_eq] at h;cases h
   obtain ⟨h1,_,h2⟩:=eqV_sound (w:=w) he hx hy (op:=.neq) (X:=X) (Y:=Y)
   exact ⟨_,by rw [andthen_ok h1];exact h2,rfl⟩
 | lss=>exact cmps h (by simp) (by simp) (fun k n m=>by simp [binOp,Op.intCmp,ltI_eq]) (fun s u=>by simp [binOp,Op.stringOp,strLt_bytes,ByteArray.toList_eq])
 | leq=>exact cmps h (by simp) (by simp) (fun k n m=>by simp [binOp,Op.intCmp,leI_eq]) (fun s u=>by simp [binOp,Op.stringOp,strLt_bytes,strEq_bytes,ByteArray.toList_eq])
 | gtr=>exact cmps h (by simp) (by simp) (fun k n m=>by simp [binOp,Op.intCmp,ltI_eq]) (fun s u=>by simp [binOp,Op.stringOp,strLt_bytes,strEq_bytes,ByteArray.toList_eq])
 | geq=>exact cmps h (by simp) (by simp) (fun k n m=>by simp [binOp,Op.intCmp,leI_eq]) (fun s u=>by simp [binOp,Op.stringOp,strLt_bytes,ByteArray.toList_eq])
theorem un1_sound {op:UnOp} {x r:AV} {a:Value} (h:un1 op x=some r) (hx:VR ρ x a):Gives P w ρ (Op.unary op a) r:=by
 cases op with
 | neg=>obtain ⟨k,n,rfl,h⟩:=eInt_some h;cases h;cases hx;exact ⟨.int k (k.wrap (0 - n)),by simp [Op.unary,Op.intArith],rfl⟩
 | xor=>obtain ⟨k,n,rfl,h⟩:=eInt_some h;cases h;cases hx;exact ⟨.int k (k.wrap (BitVec.ofInt k.bits (if k.signed then -1 else k.max) ^^^ BitVec.ofInt k.bits n).toNat),by simp [Op.unary,Op.intBits],rfl⟩
 | not=>obtain ⟨b,rfl,h⟩:=eBool_some h;cases h;cases hx;exact ⟨.bool (!b),by simp [Op.unary],by simp [VR]⟩
 | plus=>cases h
theorem conv1_sound {s d:TypeId} {x r:AV} {a:Value} (h:conv1 P s d x=some r) (hx:VR ρ x a):Gives P w ρ (convert s d a) r:=by
 unfold conv1 at h
 cases hs:P.underlying s with
 | none=>rw [hs] at h;cases h
 | some ds =>
  cases hd:P.underlying d with
  | none=>rw [hs,hd] at h;cases h
  | some dd =>
   rw [hs,hd] at h
   cases dd with
   | int k =>
    obtain ⟨l,n,rfl,h⟩:=eInt_some h
    have:r=.int k (k.wrap n):=by
     cases n with
     | ofNat n=>have h:fit k n=some r:=h;rw [fit_eq] at h;cases h;rfl
     | negSucc n=>cases h;rfl
    subst this
    cases hx
    exact ⟨.int k (k.wrap n),by simp [convert,run_underlying hs,run_underlying hd,Conv.intToInt],rfl⟩
   | string =>
    obtain ⟨u,rfl,h⟩:=eStr_some h
    cases h
    obtain ⟨s',rfl,e⟩:=hx
    exact ⟨.string s',by simp [convert,run_underlying hs,run_underlying hd],⟨s',rfl,e⟩⟩
   | _=>cases h
end
end Go.Am
namespace Go.Am
section
variable {P:Program} {w:World} {ρ : Pls}
theorem toIface_sound {t:TypeId} {x r:AV} {a:Value} (h:toIface P t x=some r) (hx:VR ρ x a):Gives P w ρ (Instr.makeInterface t a) r:=by
 unfold toIface at h
 cases ht:P.underlying t with
 | none=>rw [ht] at h;cases h
 | some d =>
  rw [ht] at h
  have key:h=h->(∀ ms,d≠.interface ms)->Gives P w ρ (Instr.makeInterface t a) (.iface t x):=by
   intro _ hn
   refine ⟨.iface t a,?_,a,rfl,hx⟩
   unfold Instr.makeInterface
   rw [andthen_ok (run_underlying ht w)]
   cases d <;> first | rfl | exact absurd rfl (hn _)
  cases d <;> first | (cases h;done) | (cases h;exact key rfl (fun _ e=>by cases e))
theorem mkFunc_sound {fn:Fn} {n:Nat} {vs:List AV} {r:AV} {first cap:Array Value} (h:mkFunc fn n vs=some r) (hn:first.size=n) (hv:VRs ρ vs (first.toList++cap.toList)) :
  Gives P w ρ (Instr.makeFunc fn first cap) r:=by
 unfold mkFunc at h
 cases fn <;> first | (cases h;done) | skip
 rename_i f
 cases h
 rw [take'_eq,drop'_eq]
 refine ⟨_,rfl,_,_,_,rfl,rfl,?_,?_⟩
 ·have:=VRs.take n hv
  rwa [List.take_left' (by simpa using hn)] at this
 ·have:=VRs.drop n hv
  rwa [List.drop_left' (by simpa using hn)] at this
theorem nthTuple_sound {i:Nat} {x r:AV} {a:Value} (h:nthTuple i x=some r) (hx:VR ρ x a):Gives P w ρ (Instr.extract a i) r:=by
 obtain ⟨vs,rfl,g⟩:=eTuple_some h
 rw [nth_eq] at g
 obtain ⟨cs,rfl,hv⟩:=hx
 obtain ⟨v,h1,h2⟩:=hv.get i r g
 rw [Array.getElem?_toList] at h1
 exact ⟨v,by simp [Instr.extract,h1],h2⟩
theorem overlay_eq:∀ (vs cs:List AV),vs.length<=cs.length->overlay vs cs=vs++cs.drop vs.length
 | [],cs,_=>by show cs=_;simp
 | v::vs,cs,h=>by
  show v::overlay vs (tl' cs)=_
  cases cs with
  | nil=>simp at h
  | cons c cs =>
   rw [tl'_eq,overlay_eq vs _ (by simpa using h)];simp
theorem setRun_eq (vs:List AV):∀ (off:Nat) (cs:List AV),off+vs.length<=cs.length->setRun vs off cs=cs.take off++(vs++cs.drop (off+vs.length))
 | 0,cs,h=>by
  show overlay vs cs=_
  rw [overlay_eq vs cs (by omega)];simp
 | off+1,cs,h=>by
  cases cs with
  | nil=>simp at h
  | cons c cs =>
   show c::setRun vs off cs=_
   rw [setRun_eq vs off cs (by simp at h;omega)]
   simp [show off+1+vs.length=off+vs.length+1 by omega]
theorem putRun_toList:∀ (vs:List Value) (c:Array Value) (o:Nat),o+vs.length<=c.size->(putRun c o vs).toList=c.toList.take o++(vs++c.toList.drop (o+vs.length)):=by
 intro vs c o h
 apply List.ext_getElem?
 intro i
 rw [Array.getElem?_toList,putRun_get _ _ _ _ h]
 by_cases h1:i<o
 ·rw [if_neg (by omega),List.getElem?_append_left (by simp;omega),List.getElem?_take,if_pos h1,Array.getElem?_toList]
 ·rw [List.getElem?_append_right (by simp;omega)]
  have hl:(c.toList.take o).length=o:=by simp;omega
  rw [hl]
  by_cases h2:i<o+vs.length
  ·rw [if_pos (by omega),List.getElem?_append_left (by omega)]
  ·rw [if_neg (by omega),List.getElem?_append_right (by omega),List.getElem?_drop,Array.getElem?_toList]
   congr 1;omega
theorem foldl_putRun (off:Nat):∀ (l:List Value) (k:Nat) (cs:Array Value),(l.zipIdx k).foldl (fun cs (x:Value×Nat)=>cs.setIfInBounds (off+x.2) x.1) cs=putRun cs (off+k) l
 | [],_,_=>rfl
 | v::l,k,cs=>by
  rw [List.zipIdx_cons,List.foldl_cons,foldl_putRun off l (k+1)]
  rfl
theorem VRs.put {cs vs:List AV} {ca va:Array Value} {off:Nat} (hc:VRs ρ cs ca.toList) (hv:VRs ρ vs va.toList) (hle:off+vs.length<=cs.length) :
  VRs ρ (setRun vs off cs) (putRun ca off va.toList).toList:=by
 have l1:=hc.length
 have l2:=hv.length
 rw [setRun_eq vs off cs hle,putRun_toList _ _ _ (by simp at l1 l2 ⊢;omega),← l2]
 exact (hc.take off).append (hv.append (hc.drop _))
theorem fillB_sound:∀ {pls:List (Nat×Nat)} {vs cs r:List AV} {ca:Array Value} {ps:List (Nat×Value)} {place:Nat->Option (Nat×Nat)},
  fillB pls vs cs=some r->placesOf place cs.length (ps.map (·.1))=some pls->VRs ρ vs (ps.map (·.2))->VRs ρ cs ca.toList ->
  ∃ ra,Instr.fill place ca ps=some ra/\VRs ρ r ra.toList/\r.length=cs.length
 | [],vs,cs,r,ca,ps,place,h,hp,hv,hc=>by
  cases ps with
  | nil =>
   cases vs with
   | nil=>cases h;exact ⟨ca,rfl,hc,rfl⟩
   | cons _ _=>cases h
  | cons q ps =>
   simp only [List.map_cons,placesOf] at hp
   split at hp
   ·split at hp <;> cases hp
   ·cases hp
 | p::pls,vs,cs,r,ca,ps,place,h,hp,hv,hc=>by
  cases ps with
  | nil=>cases hp
  | cons q ps =>
   obtain ⟨i,v⟩:=q
   simp only [List.map_cons,placesOf] at hp
   split at hp
   ·rename_i p' ps' hpl hpls
    split at hp
    ·rename_i hle
     cases hp
     obtain ⟨u,us,e,hu,hus⟩:∃ u us,vs=u::us/\VR ρ u v/\VRs ρ us (ps.map (·.2)):=by
      cases vs with
      | nil=>cases hv
      | cons u us=>obtain ⟨v',ws,e,h1,h2⟩:=hv;cases e;exact ⟨u,us,rfl,h1,h2⟩
     subst e
     obtain ⟨hsz,h⟩:=iff'_some.1 (show iff' (Nat.beq (len' u.cells) p.2) (fillB pls us (setRun u.cells p.1 cs))=some r from h)
     have hsz:u.cells.length=p.2:=by simpa using hsz
     have hcells:=hu.cells
     have hlen:=hcells.length
     have hlc:=hc.length
     have hput:=VRs.put hc hcells (off:=p.1) (by omega)
     have hlen':(setRun u.cells p.1 cs).length=cs.length:=by rw [setRun_eq _ _ _ (by omega)];simp;omega
     obtain ⟨ra,h1,h2,h3⟩:=fillB_sound (ps:=ps) (place:=place) h (by rw [hlen'];exact hpls) hus hput
     refine ⟨ra,?_,h2,by rw [h3,hlen']⟩
     simp only [Instr.fill,hpl]
     rw [if_neg (by simp at hlen hlc ⊢;omega)]
     rw [← h1]
     congr 1
     have:=foldl_putRun p.1 v.cells.toList 0 ca
     rw [Nat.add_zero] at this
     rw [← this,← Array.foldl_toList,Array.toList_zipIdx]
    ·cases hp
   ·cases hp
theorem fieldPlaces_get:∀ {fs:List Field} {pl:List (Nat×Nat)},fieldPlaces P fs=some pl->(fs.mapM fun f=>(do pure (f.offset,← sizeOf f.type):Sem (Nat×Nat))).run P w=.ok pl w
 | [],_,h=>by cases h;rfl
 | f::fs,pl,h=>by
  simp only [fieldPlaces] at h
  split at h
  ·rename_i s ps hs hps
   cases h
   rw [List.mapM_cons,Sem.run_bind,Sem.run_bind,run_sizeT hs]
   simp only [Result.andThen_ok,Sem.run_pure]
   rw [Sem.run_bind,fieldPlaces_get hps]
   rfl
  ·cases h
theorem buildN_sound {t:TypeId} {vs:List AV} {r:AV} {ps:Array (Nat×Value)} (h:buildN P t (ps.toList.map (·.1)) vs=some r) (hv:VRs ρ vs (ps.toList.map (·.2))):Gives P w ρ (Instr.build t ps) r:=by
 unfold buildN at h
 cases hz:tZero P t with
 | none=>rw [hz] at h;cases h
 | some z =>
  rw [hz] at h
  obtain ⟨zv,rz,vz⟩:=run_zeroT (w:=w) (ρ:=ρ) hz
  have hzc:=vz.cells
  cases hu:P.underlying t with
  | none=>rw [hu] at h;cases h
  | some d =>
   rw [hu] at h
   cases d with
   | struct fs =>
    cases hpl:fieldPlaces P fs.toList with
    | none=>simp only [hpl] at h;cases h
    | some pl =>
     cases hpls:placesOf (pl[·]?) z.cells.length (ps.toList.map (·.1)) with
     | none=>simp only [hpl,hpls] at h;cases h
     | some pls =>
      simp only [hpl,hpls] at h
      cases hf:fillB pls vs z.cells with
      | none=>rw [hf] at h;cases h
      | some cs =>
       rw [hf] at h;cases h
       obtain ⟨ra,h1,h2,_⟩:=fillB_sound (ps:=ps.toList) (place:=(pl[·]?)) hf hpls hv hzc
       refine ⟨.agg ra,?_,ra,rfl,h2⟩
       have hm:=fieldPlaces_get (w:=w) hpl
       simp only [Instr.build,Sem.run_bind,rz,run_underlying hu,Result.andThen_ok]
       have hm':(fs.mapM fun f=>(do pure (f.offset,← sizeOf f.type):Sem (Nat×Nat))).run P w=.ok pl.toArray w:=by
        rw [Array.mapM_eq_mapM_toList,Sem.run_map,hm];rfl
       rw [hm']
       simp only [Result.andThen_ok]
       rw [show (fun x=>pl.toArray[x]?)=(fun x:Nat=>pl[x]?) from funext fun x=>by simp,h1]
       rfl
   | array n e =>
    cases hs:tSize P e with
    | none=>simp only [hs] at h;cases h
    | some s =>
     cases hpls:placesOf (fun i=>some (i*s,s)) z.cells.length (ps.toList.map (·.1)) with
     | none=>simp only [hs,hpls] at h;cases h
     | some pls =>
      simp only [hs,hpls] at h
      cases hf:fillB pls vs z.cells with
      | none=>rw [hf] at h;cases h
      | some cs =>
       rw [hf] at h;cases h
       obtain ⟨ra,h1,h2,_⟩:=fillB_sound (ps:=ps.toList) hf hpls hv hzc
       refine ⟨.agg ra,?_,ra,rfl,h2⟩
       simp only [Instr.build,Sem.run_bind,rz,run_underlying hu,Result.andThen_ok,run_sizeT hs]
       rw [h1]
       rfl
   | _=>cases h
theorem field1_sound {t:TypeId} {f:Nat} {x r:AV} {a:Value} (h:field1 P t f x=some r) (hx:VR ρ x a):Gives P w ρ (Instr.field t a f) r:=by
 unfold field1 at h
 cases hu:P.underlying t with
 | none=>rw [hu] at h;cases h
 | some d =>
  rw [hu] at h
  cases d with
  | struct fs =>
   simp only at h
   cases hf:fs[f]? with
   | none=>rw [hf] at h;cases h
   | some fd =>
    rw [hf] at h
    simp only at h
    cases hs:tSize P fd.type with
    | none=>rw [hs] at h;cases h
    | some s =>
     cases hg:tAgg P fd.type with
     | none=>rw [hs,hg] at h;cases h
     | some g =>
      rw [hs,hg] at h
      simp only at h
      split at h
      ·rename_i cs
       simp only [take'_eq,drop'_eq] at h
       obtain ⟨cs',rfl,hv⟩:=hx
       obtain ⟨v,h1,h2⟩:=run_part (w:=w) hs hg hv h
       exact ⟨v,by simp [Instr.field,run_underlying hu,hf,asAgg,h1],h2⟩
      ·cases h
  | _=>cases h
theorem add_addr (k o n:Nat):(⟨k,o,none⟩:Addr).add n=⟨k,o+n,none⟩:=by unfold Addr.add;split <;> simp_all
theorem fieldAddr1_sound {t:TypeId} {f:Nat} {x r:AV} {a:Value} (h:fieldAddr1 P t f x=some r) (hx:VR ρ x a):Gives P w ρ (Instr.fieldAt t a f) r:=by
 unfold fieldAddr1 at h
 cases hu:P.underlying t with
 | none=>rw [hu] at h;cases h
 | some d =>
  rw [hu] at h
  cases d with
  | struct fs =>
   simp only at h
   cases hf:fs[f]? with
   | none=>rw [hf] at h;cases h
   | some fd =>
    rw [hf] at h
    simp only at h
    cases hs:tSize P fd.type with
    | none=>rw [hs] at h;cases h
    | some s =>
     rw [hs] at h
     cases s with
     | zero=>cases h
     | succ s =>
      obtain ⟨b,o,rfl,g⟩:=ePtr_some h
      cases g
      obtain ⟨p,hp,rfl⟩:=hx
      refine ⟨.pointer (some ⟨p.blk,p.off+(o+fd.offset),none⟩),?_,p,hp,rfl⟩
      simp [Instr.fieldAt,run_underlying hu,hf,Instr.sureAddr,fieldPlace,run_sizeT hs,add_addr,Nat.add_assoc]
  | _=>cases h
theorem inRange_some {n:Nat} {j:Int} {f:Nat->Option AV} {r:AV} (h:inRange n j f=some r):∃ i:Nat,j=i/\i<n/\f i=some r:=by
 cases j with
 | negSucc j=>cases h
 | ofNat i=>obtain ⟨h1,h2⟩:=boolRec_some.1 h;exact ⟨i,rfl,Nat.le_of_ble_eq_true h1,h2⟩
theorem indexAddr2_sound {t:TypeId} {x j r:AV} {a b:Value} (h:indexAddr2 P t x j=some r) (hx:VR ρ x a) (hj:VR ρ j b):Gives P w ρ (Instr.indexAt t a b) r:=by
 unfold indexAddr2 at h
 cases hu:P.underlying t with
 | none=>rw [hu] at h;cases h
 | some d =>
  rw [hu] at h
  cases d with
  | array n e =>
   simp only at h
   cases hs:tSize P e with
   | none=>rw [hs] at h;cases h
   | some s =>
    rw [hs] at h
    obtain ⟨k,jn,rfl,g1⟩:=eInt_some h
    obtain ⟨b0,o,rfl,g2⟩:=ePtr_some g1
    obtain ⟨i,rfl,hi,g3⟩:=inRange_some g2
    cases g3;cases hj
    obtain ⟨p,hp,rfl⟩:=hx
    refine ⟨.pointer (some ⟨p.blk,p.off+(o+i*s),none⟩),?_,p,hp,rfl⟩
    have:(0:Int)<=i/\(i:Int)<n:=by omega
    simp [Instr.indexAt,asIntOf,run_underlying hu,Instr.sureAddr,run_sizeT hs,add_addr,Nat.add_assoc,hi]
  | slice e =>
   simp only at h
   cases hs:tSize P e with
   | none=>rw [hs] at h;cases h
   | some s =>
    rw [hs] at h
    obtain ⟨k,jn,rfl,g1⟩:=eInt_some h
    obtain ⟨q,n,c,g,rfl,g2⟩:=eSlice_some g1
    cases q with
    | none=>cases g2
    | some q =>
     obtain ⟨b0,o⟩:=q
     obtain ⟨i,rfl,hi,g3⟩:=inRange_some g2
     cases g3;cases hj
     obtain ⟨p,a',c',hp,rfl,hn,hc,_,_,ha⟩:=hx
     have ha:=ha (by omega)
     subst ha
     refine ⟨.pointer (some ⟨p.blk,p.off+(o+i*s),none⟩),?_,p,hp,rfl⟩
     simp [Instr.indexAt,asIntOf,run_underlying hu,run_sizeT hs,add_addr,Nat.add_assoc,hi]
  | _=>cases h
theorem byteAt_some:∀ {s:List Nat} {i:Nat} {r:AV},byteAt s i=some r->∃ c,s[i]?=some c/\r=.int .u8 c
 | [],_,_,h=>by cases h
 | c::s,0,_,h=>by cases h;exact ⟨c,rfl,rfl⟩
 | c::s,i+1,r,h=>by
  have h:byteAt s i=some r:=h
  obtain ⟨d,h1,h2⟩:=byteAt_some h
  exact ⟨d,by simpa using h1,h2⟩
theorem index2_sound {t:TypeId} {x j r:AV} {a b:Value} (h:index2 P t x j=some r) (hx:VR ρ x a) (hj:VR ρ j b):Gives P w ρ (Instr.index t a b) r:=by
 unfold index2 at h
 cases hu:P.underlying t with
 | none=>rw [hu] at h;cases h
 | some d =>
  rw [hu] at h
  cases d with
  | array n e =>
   simp only at h
   cases hs:tSize P e with
   | none=>rw [hs] at h;cases h
   | some s =>
    cases hg:tAgg P e with
    | none=>rw [hs,hg] at h;cases h
    | some g =>
     rw [hs,hg] at h
     obtain ⟨k,jn,rfl,g1⟩:=eInt_some h
     split at g1
     ·rename_i cs
      obtain ⟨i,rfl,hi,g2⟩:=inRange_some g1
      simp only [take'_eq,drop'_eq,Nat.mul_eq] at g2
      cases hj
      obtain ⟨cs',rfl,hv⟩:=hx
      obtain ⟨v,h1,h2⟩:=run_part (w:=w) hs hg hv g2
      exact ⟨v,by simp [Instr.index,asIntOf,run_underlying hu,hi,run_sizeT hs,h1],h2⟩
     ·cases g1
  | string =>
   obtain ⟨k,jn,rfl,g1⟩:=eInt_some h
   obtain ⟨s,rfl,g2⟩:=eStr_some g1
   cases hj
   obtain ⟨s',rfl,rfl⟩:=hx
   cases jn with
   | negSucc j=>cases g2
   | ofNat i =>
    obtain ⟨c,h1,rfl⟩:=byteAt_some g2
    rw [List.getElem?_map] at h1
    cases hb:s'.data.toList[i]? with
    | none=>rw [hb] at h1;cases h1
    | some u =>
     rw [hb] at h1
     simp at h1;subst h1
     rw [Array.getElem?_toList] at hb
     have hi:i<s'.size:=(Array.getElem?_eq_some_iff.1 hb).1
     have hu':s'[i]?=some u:=by
      rw [getElem?_pos s' i hi]
      have:=(Array.getElem?_eq_some_iff.1 hb).2
      rw [← this];rfl
     exact ⟨.int .u8 u.toNat,by simp [Instr.index,asIntOf,run_underlying hu,hu'],rfl⟩
  | _=>cases h
theorem size_bytes (b:ByteArray):b.size=(b.data.toList.map (·.toNat)).length:=by rw [List.length_map,Array.length_toList];rfl
theorem len1_sound {t ty:TypeId} {ts:Array TypeId} {x r:AV} {a:Value} (h:len1 P t x=some r) (hx:VR ρ x a) (ht:ts[0]?=some t):Gives P w ρ (Builtin.len_ ts ty #[a]) r:=by
 unfold len1 at h
 cases hu:P.underlying t with
 | none=>rw [hu] at h;cases h
 | some d =>
  rw [hu] at h
  cases d with
  | string =>
   obtain ⟨s,rfl,g1⟩:=eStr_some h
   cases g1
   obtain ⟨s',rfl,rfl⟩:=hx
   exact ⟨.int .i64 s'.size,by simp [Builtin.len_,ht,run_underlying hu,goInt],by rw [len'_eq,size_bytes];rfl⟩
  | array n e=>cases h;exact ⟨.int .i64 n,by simp [Builtin.len_,ht,run_underlying hu,goInt],rfl⟩
  | slice e =>
   obtain ⟨q,n,c,g,rfl,g1⟩:=eSlice_some h
   cases g1
   cases q with
   | none=>obtain ⟨rfl,_,_,rfl⟩:=hx;exact ⟨.int .i64 0,by simp [Builtin.len_,ht,run_underlying hu,goInt],rfl⟩
   | some q =>
    obtain ⟨b0,o⟩:=q
    obtain ⟨p,a',c',hp,rfl,_⟩:=hx
    exact ⟨.int .i64 n,by simp [Builtin.len_,ht,run_underlying hu,goInt],rfl⟩
  | pointer arr =>
   simp only at h
   cases hv:P.underlying arr with
   | none=>rw [hv] at h;cases h
   | some d' =>
    rw [hv] at h
    cases d' with
    | array n e=>cases h;exact ⟨.int .i64 n,by simp [Builtin.len_,ht,run_underlying hu,run_underlying hv,goInt],rfl⟩
    | _=>cases h
  | _=>cases h
theorem cap1_sound {t ty:TypeId} {ts:Array TypeId} {x r:AV} {a:Value} (h:cap1 P t x=some r) (hx:VR ρ x a) (ht:ts[0]?=some t):Gives P w ρ (Builtin.cap_ ts ty #[a]) r:=by
 unfold cap1 at h
 cases hu:P.underlying t with
 | none=>rw [hu] at h;cases h
 | some d =>
  rw [hu] at h
  cases d with
  | slice e =>
   obtain ⟨q,n,c,g,rfl,g1⟩:=eSlice_some h
   cases g with
   | some g=>cases g1
   | none =>
    cases g1
    cases q with
    | none=>obtain ⟨rfl,rfl,_,rfl⟩:=hx;exact ⟨.int .i64 0,by simp [Builtin.cap_,ht,run_underlying hu,goInt],rfl⟩
    | some q =>
     obtain ⟨b0,o⟩:=q
     obtain ⟨p,a',c',hp,rfl,_,_,he,_⟩:=hx
     obtain rfl:=he rfl
     exact ⟨.int .i64 c',by simp [Builtin.cap_,ht,run_underlying hu,goInt],rfl⟩
  | _=>cases h
theorem max2_sound {x y r:AV} {a b:Value} (h:max2 x y=some r) (hx:VR ρ x a) (hy:VR ρ y b):Gives P w ρ (Builtin.max2 a b) r:=by
 obtain ⟨k,n,rfl,g1⟩:=eInt_some h
 obtain ⟨l,m,rfl,g2⟩:=eInt_some g1
 cases g2;cases hx;cases hy
 refine ⟨.int k (if m > n then m else n),rfl,?_⟩
 rw [ltI_eq]
 by_cases hh:n<m
 ·rw [decide_eq_true hh,if_pos hh];rfl
 ·rw [decide_eq_false hh,if_neg hh];rfl
theorem min2_sound {x y r:AV} {a b:Value} (h:min2 x y=some r) (hx:VR ρ x a) (hy:VR ρ y b):Gives P w ρ (Builtin.min2 a b) r:=by
 obtain ⟨k,n,rfl,g1⟩:=eInt_some h
 obtain ⟨l,m,rfl,g2⟩:=eInt_some g1
 cases g2;cases hx;cases hy
 refine ⟨.int k (if m<n then m else n),rfl,?_⟩
 rw [ltI_eq]
 by_cases hh:m<n
 ·rw [decide_eq_true hh,if_pos hh];rfl
 ·rw [decide_eq_false hh,if_neg hh];rfl
theorem foldA_sound {f:AV->AV->Option AV} {g:Value->Value->Sem Value} (hf:∀ {x y r:AV} {a b:Value},f x y=some r->VR ρ x a->VR ρ y b->Gives P w ρ (g a b) r) :
  ∀ {ys:List AV} {x r:AV} {a:Value} {bs:List Value},foldA f x ys=some r->VR ρ x a->VRs ρ ys bs->Gives P w ρ (bs.foldlM g a) r
 | [],x,r,a,bs,h,hx,hy=>by cases hy;cases h;exact ⟨a,rfl,hx⟩
 | y::ys,x,r,a,bs,h,hx,hy=>by
  obtain ⟨b,bs',rfl,h1,h2⟩:=hy
  simp only [foldA] at h
  split at h
  ·rename_i z hz
   obtain ⟨c,hc,vc⟩:=hf hz hx h1
   obtain ⟨d,hd,vd⟩:=foldA_sound hf h vc h2
   exact ⟨d,by simp [List.foldlM_cons,hc,hd],vd⟩
  ·cases h
theorem max_sound {ts:Array TypeId} {ty:TypeId} {xs:List AV} {r:AV} {as:List Value} (h:folds max2 xs=some r) (hv:VRs ρ xs as):Gives P w ρ (Builtin.max_ ts ty as.toArray) r:=by
 cases xs with
 | nil=>cases h
 | cons x xs=>obtain ⟨v,us,rfl,h1,h2⟩:=hv;exact foldA_sound (f:=max2) max2_sound h h1 h2
theorem min_sound {ts:Array TypeId} {ty:TypeId} {xs:List AV} {r:AV} {as:List Value} (h:folds min2 xs=some r) (hv:VRs ρ xs as):Gives P w ρ (Builtin.min_ ts ty as.toArray) r:=by
 cases xs with
 | nil=>cases h
 | cons x xs=>obtain ⟨v,us,rfl,h1,h2⟩:=hv;exact foldA_sound (f:=min2) min2_sound h h1 h2
end
end Go.Am
namespace Go.Am
section
variable {P:Program} {keep:Keeps} {w:World} {ρ : Pls} {h:Heap}
def OR (ρ : Pls):Option AV->Option Value->Prop
 | none,v=>v=none
 | some x,v=>∃ u,v=some u/\VR ρ x u
theorem boundV_some {d y:Nat} {x:Option AV} {x':Option Value} {f:Nat->Option AV} {r:AV} (h:boundV d y x f=some r) (hx:OR ρ x x') :
  ∃ n,f n=some r/\((x'=none/\x=none/\n=d)∨∃ k,x'=some (.int k n)/\n<=y):=by
 cases x with
 | none=>exact ⟨d,h,.inl ⟨hx,rfl,rfl⟩⟩
 | some v =>
  obtain ⟨u,rfl,hu⟩:=hx
  obtain ⟨k,i,rfl,g⟩:=eInt_some h
  cases i with
  | negSucc i=>cases g
  | ofNat n =>
   obtain ⟨g1,g2⟩:=boolRec_some.1 g
   cases hu
   exact ⟨n,g2,.inr ⟨k,rfl,Nat.le_of_ble_eq_true g1⟩⟩
theorem run_bound {k:IntKind} {n y:Nat} {c:BoundsCode} (hn:n<=y):(Instr.sliceBound (.int k n) y c).run P w=.ok n w:=by
 have:(0:Int)<=n/\(n:Int)<=y:=by omega
 simp [Instr.sliceBound,asIntOf,hn]
theorem run_bounds2 {isSlice:Bool} {len cap l hh:Nat} {lo hi:Option Value} (hhi:(hi=none/\hh=len)∨∃ k,hi=some (.int k hh)/\hh<=cap)
  (hlo:(lo=none/\l=0)∨∃ k,lo=some (.int k l)/\l<=hh):(Instr.sliceBounds isSlice len cap lo hi none).run P w=.ok (l,hh,cap) w:=by
 rcases hhi with ⟨rfl,rfl⟩|⟨k,rfl,h1⟩ <;> rcases hlo with ⟨rfl,rfl⟩|⟨k',rfl,h2⟩
 ·simp [Instr.sliceBounds]
 ·simp [Instr.sliceBounds,run_bound h2]
 ·simp [Instr.sliceBounds,run_bound h1]
 ·simp [Instr.sliceBounds,run_bound h1,run_bound h2]
theorem run_bounds3 {len cap l hh m:Nat} {k k1:IntKind} {lo:Option Value} (hm:m<=cap) (hhi:hh<=m)
  (hlo:(lo=none/\l=0)∨∃ k,lo=some (.int k l)/\l<=hh):(Instr.sliceBounds true len cap lo (some (.int k hh)) (some (.int k1 m))).run P w=.ok (l,hh,m) w:=by
 rcases hlo with ⟨rfl,rfl⟩|⟨k',rfl,h2⟩
 ·simp [Instr.sliceBounds,run_bound hm,run_bound hhi]
 ·simp [Instr.sliceBounds,run_bound hm,run_bound hhi,run_bound h2]
theorem run_slice_str {t:TypeId} {s:ByteArray} {lo hi:Option Value} {l hh m:Nat} (hu:P.underlying t=some .string) (hb:(Instr.sliceBounds false s.size s.size lo hi none).run P w=.ok (l,hh,m) w) :
  (Instr.sliceAt t (.string s) lo hi none).run P w=.ok (.string (s.extract l hh)) w:=by
 simp [Instr.sliceAt,Instr.slice,run_underlying hu,hb]
theorem run_slice_sl {t e:TypeId} {size n c' l hh m:Nat} {a:Option Addr} {lo hi mx:Option Value} (hu:P.underlying t=some (.slice e)) (hs:tSize P e=some size)
  (hb:(Instr.sliceBounds true n c' lo hi mx).run P w=.ok (l,hh,m) w):(Instr.sliceAt t (.slice a n c') lo hi mx).run P w=.ok (.slice (if m=l then a else a.map (·.add (l*size))) (hh - l) (m - l)) w:=by
 simp [Instr.sliceAt,Instr.slice,run_underlying hu,hb,run_sizeT hs]
theorem run_slice_arr {t e:TypeId} {size n l hh m:Nat} {a:Addr} {lo hi mx:Option Value} (hu:P.underlying t=some (.array n e)) (hs:tSize P e=some size)
  (hb:(Instr.sliceBounds false n n lo hi mx).run P w=.ok (l,hh,m) w):(Instr.sliceAt t (.pointer (some a)) lo hi mx).run P w=.ok (.slice (some (if m=l then a else a.add (l*size))) (hh - l) (m - l)) w:=by
 simp [Instr.sliceAt,Instr.sureAddr,run_underlying hu,hb,run_sizeT hs]
theorem run_slice_ptr {t arr e:TypeId} {size n l hh m:Nat} {a:Addr} {lo hi mx:Option Value} (hu:P.underlying t=some (.pointer arr)) (hv:P.underlying arr=some (.array n e)) (hs:tSize P e=some size)
  (hb:(Instr.sliceBounds false n n lo hi mx).run P w=.ok (l,hh,m) w):(Instr.sliceAt t (.pointer (some a)) lo hi mx).run P w=.ok (.slice (some (if m=l then a else a.add (l*size))) (hh - l) (m - l)) w:=by
 simp [Instr.sliceAt,Instr.slice,asAddr,run_underlying hu,run_underlying hv,hb,run_sizeT hs]
theorem take_drop_bytes (s:ByteArray) (l hh:Nat):((s.extract l hh).data.toList.map (·.toNat))=((s.data.toList.map (·.toNat)).drop l).take (hh - l):=by
 rw [show (s.extract l hh).data=s.data.extract l hh from ByteArray.data_extract,Array.toList_extract,List.extract_eq_take_drop,List.map_take,List.map_drop]
theorem slice_str {t:TypeId} {x r:AV} {a:Value} {lo hi:Option AV} {lo' hi':Option Value} (hu:P.underlying t=some .string)
  (h:eStr (fun s=>boundV (len' s) (len' s) hi fun h=>boundV 0 h lo fun l=>some (.str (take' (Nat.sub h l) (drop' l s)))) x=some r) (hx:VR ρ x a) (hlo:OR ρ lo lo') (hhi:OR ρ hi hi'):Gives P w ρ (Instr.sliceAt t a lo' hi' none) r:=by
 obtain ⟨s,rfl,g1⟩:=eStr_some h
 obtain ⟨s',rfl,rfl⟩:=hx
 obtain ⟨hh,g2,q1⟩:=boundV_some g1 hhi
 obtain ⟨l,g3,q2⟩:=boundV_some g2 hlo
 cases g3
 rw [len'_eq,← size_bytes] at q1
 refine ⟨.string (s'.extract l hh),run_slice_str hu (run_bounds2 (q1.imp (fun q=>⟨q.1,q.2.2⟩) id) (q2.imp (fun q=>⟨q.1,q.2.2⟩) id)),_,rfl,?_⟩
 rw [take'_eq,drop'_eq,take_drop_bytes];rfl
theorem slice_sl2 {t e:TypeId} {size:Nat} {q:Option (Nat×Nat)} {n c:Nat} {g:Option Nat} {r:AV} {a:Value} {lo hi:Option AV} {lo' hi':Option Value} (hu:P.underlying t=some (.slice e)) (hs:tSize P e=some size)
  (h:iff' (gOk g size) (boundV n c hi fun h=>boundV 0 h lo fun l=>some (.slice (q.map fun p=>(p.1,p.2+l*size)) (h - l) (c - l) g))=some r)
  (hx:VR ρ (.slice q n c g) a) (hlo:OR ρ lo lo') (hhi:OR ρ hi hi'):Gives P w ρ (Instr.sliceAt t a lo' hi' none) r:=by
 obtain ⟨gg,g1⟩:=iff'_some.1 h
 obtain ⟨hh,g2,q1⟩:=boundV_some g1 hhi
 obtain ⟨l,g3,q2⟩:=boundV_some g2 hlo
 have r1:∀ {c':Nat},n<=c'->c<=c'->(Instr.sliceBounds true n c' lo' hi' none).run P w=.ok (l,hh,c') w/\l<=hh/\hh<=c':=by
  intro c' h1 h2
  have hhc:hh<=c':=by rcases q1 with ⟨_,_,rfl⟩|⟨k,_,h⟩ <;> omega
  have hl:l<=hh:=by rcases q2 with ⟨_,_,rfl⟩|⟨k,_,h⟩ <;> omega
  exact ⟨run_bounds2 (q1.imp (fun q=>⟨q.1,q.2.2⟩) fun ⟨k,e,h⟩=>⟨k,e,by omega⟩) (q2.imp (fun q=>⟨q.1,q.2.2⟩) id),hl,hhc⟩
 cases q with
 | none =>
  obtain ⟨rfl,rfl,rfl,rfl⟩:=hx
  obtain ⟨r1,h1,h2⟩:=r1 (Nat.le_refl 0) (Nat.le_refl 0)
  obtain rfl:hh=0:=by omega
  obtain rfl:l=0:=by omega
  cases g3
  exact ⟨.slice none 0 0,run_slice_sl hu hs r1,rfl,rfl,rfl,rfl⟩
 | some q =>
  obtain ⟨b,o⟩:=q
  obtain ⟨p,a',c',hp,rfl,hn,hc,he,hes,ha⟩:=hx
  obtain ⟨r1,h1,h2⟩:=r1 hn hc
  cases g3
  refine ⟨.slice (some (if c'=l then a' else a'.add (l*size))) (hh - l) (c' - l),?_,p,_,_,hp,rfl,by omega,by omega,fun e=>by rw [he e],fun es e=>?_,fun hne=>?_⟩
  ·rw [run_slice_sl hu hs r1]
   split <;> rfl
  ·subst e
   have:es=size:=by simpa [gOk] using gg
   subst this
   have:=hes es rfl
   have hm:l*es+(c' - l)*es=c'*es:=by rw [← Nat.add_mul];congr 1;omega
   omega
  ·rw [if_neg (by omega),ha (by omega),add_addr,Nat.add_assoc]
theorem slice_sl3 {t e:TypeId} {size:Nat} {q:Option (Nat×Nat)} {n c:Nat} {g:Option Nat} {r m hv:AV} {a m' hv':Value} {lo:Option AV} {lo':Option Value} (hu:P.underlying t=some (.slice e)) (hs:tSize P e=some size)
  (h:(boundV 0 c (some m) fun m=>boundV 0 m (some hv) fun h=>boundV 0 h lo fun l=>some (.slice (q.map fun p=>(p.1,p.2+l*size)) (h - l) (m - l) none))=some r)
  (hx:VR ρ (.slice q n c g) a) (hlo:OR ρ lo lo') (hhi:VR ρ hv hv') (hm:VR ρ m m'):Gives P w ρ (Instr.sliceAt t a lo' (some hv') (some m')) r:=by
 obtain ⟨mm,g2,q0⟩:=boundV_some (x':=some m') h ⟨m',rfl,hm⟩
 obtain ⟨hh,g3,q1⟩:=boundV_some (x':=some hv') g2 ⟨hv',rfl,hhi⟩
 obtain ⟨l,g4,q2⟩:=boundV_some g3 hlo
 rcases q0 with ⟨q0,_⟩|⟨k1,q0,hmc⟩
 ·cases q0
 ·rcases q1 with ⟨q1,_⟩|⟨k2,q1,hhm⟩
  ·cases q1
  ·cases q0;cases q1
   have hl:l<=hh:=by rcases q2 with ⟨_,_,rfl⟩|⟨k,_,h⟩ <;> omega
   have r3:∀ {c':Nat},c<=c'->(Instr.sliceBounds true n c' lo' (some (.int k2 hh)) (some (.int k1 mm))).run P w=.ok (l,hh,mm) w :=
    fun h=>run_bounds3 (by omega) hhm (q2.imp (fun q=>⟨q.1,q.2.2⟩) id)
   cases q with
   | none =>
    obtain ⟨rfl,rfl,rfl,rfl⟩:=hx
    have r3:=r3 (Nat.le_refl 0)
    cases g4
    refine ⟨_,run_slice_sl hu hs r3,?_⟩
    obtain rfl:mm=0:=by omega
    obtain rfl:hh=0:=by omega
    obtain rfl:l=0:=by omega
    exact ⟨rfl,rfl,rfl,rfl⟩
   | some q =>
    obtain ⟨b,o⟩:=q
    obtain ⟨p,a',c',hp,rfl,hn,hc,he,hes,ha⟩:=hx
    cases g4
    refine ⟨.slice (some (if mm=l then a' else a'.add (l*size))) (hh - l) (mm - l),?_,p,_,_,hp,rfl,by omega,Nat.le_refl _,fun _=>rfl,(fun es e=>by cases e),fun hne=>?_⟩
    ·rw [run_slice_sl hu hs (r3 hc)]
     split <;> rfl
    ·rw [if_neg (by omega),ha (by omega),add_addr,Nat.add_assoc]
theorem slice_at {size n:Nat} {r x:AV} {a:Value} {lo hi:Option AV} {lo' hi':Option Value} {t:TypeId}
  (run:∀ (ad:Addr) (l hh m:Nat),(Instr.sliceBounds false n n lo' hi' none).run P w=.ok (l,hh,m) w->(Instr.sliceAt t (.pointer (some ad)) lo' hi' none).run P w=.ok (.slice (some (if m=l then ad else ad.add (l*size))) (hh - l) (m - l)) w)
  (h:ePtr (fun b o=>boundV n n hi fun h=>boundV 0 h lo fun l=>some (.slice (some (b,o+l*size)) (h - l) (n - l) none)) x=some r)
  (hx:VR ρ x a) (hlo:OR ρ lo lo') (hhi:OR ρ hi hi'):Gives P w ρ (Instr.sliceAt t a lo' hi' none) r:=by
 obtain ⟨b,o,rfl,g1⟩:=ePtr_some h
 obtain ⟨p,hp,rfl⟩:=hx
 obtain ⟨hh,g2,q1⟩:=boundV_some g1 hhi
 obtain ⟨l,g3,q2⟩:=boundV_some g2 hlo
 cases g3
 have hhc:hh<=n:=by rcases q1 with ⟨_,_,rfl⟩|⟨k,_,h⟩ <;> omega
 have hl:l<=hh:=by rcases q2 with ⟨_,_,rfl⟩|⟨k,_,h⟩ <;> omega
 have r1:=run_bounds2 (P:=P) (w:=w) (isSlice:=false) (len:=n) (cap:=n) (l:=l) (hh:=hh) (lo:=lo') (hi:=hi') (q1.imp (fun q=>⟨q.1,q.2.2⟩) id) (q2.imp (fun q=>⟨q.1,q.2.2⟩) id)
 exact ⟨_,run _ _ _ _ r1,p,_,_,hp,rfl,by omega,Nat.le_refl _,fun _=>rfl,(fun es e=>by cases e),fun hne=>by rw [if_neg (by omega),add_addr,Nat.add_assoc]⟩
theorem sliceV_sound {t:TypeId} {x r:AV} {a:Value} {lo hi mx:Option AV} {lo' hi' mx':Option Value} (h:sliceV P t x lo hi mx=some r) (hx:VR ρ x a) (hlo:OR ρ lo lo') (hhi:OR ρ hi hi') (hmx:OR ρ mx mx') :
  Gives P w ρ (Instr.sliceAt t a lo' hi' mx') r:=by
 unfold sliceV at h
 cases hu:P.underlying t with
 | none=>rw [hu] at h;cases h
 | some d =>
  rw [hu] at h
  cases d with
  | string =>
   cases mx with
   | some m=>cases h
   | none=>cases hmx;exact slice_str hu h hx hlo hhi
  | slice e =>
   simp only at h
   cases hs:tSize P e with
   | none=>rw [hs] at h;cases h
   | some size =>
    rw [hs] at h
    obtain ⟨q,n,c,g,rfl,g1⟩:=eSlice_some h
    cases mx with
    | none=>cases hmx;exact slice_sl2 hu hs g1 hx hlo hhi
    | some m =>
     obtain ⟨m',rfl,hm'⟩:=hmx
     cases hi with
     | none =>
      obtain ⟨mm,g2,_⟩:=boundV_some (x':=some m') g1 ⟨m',rfl,hm'⟩
      cases g2
     | some hv =>
      obtain ⟨hv',rfl,hhv⟩:=hhi
      exact slice_sl3 hu hs g1 hx hlo hhv hm'
  | array n e =>
   cases hs:tSize P e with
   | none=>simp only [hs] at h;cases h
   | some size =>
    cases mx with
    | some m=>simp only [hs] at h;cases h
    | none =>
     cases hmx
     simp only [hs] at h
     exact slice_at (fun ad l hh m hb=>run_slice_arr hu hs hb) h hx hlo hhi
  | pointer arr =>
   simp only at h
   cases hv:P.underlying arr with
   | none=>rw [hv] at h;cases h
   | some d' =>
    cases d' with
    | array n e =>
     cases mx with
     | some m=>simp only [hv] at h;cases h
     | none =>
      cases hmx
      cases hs:tSize P e with
      | none=>simp only [hv,hs] at h;cases h
      | some size =>
       simp only [hv,hs] at h
       exact slice_at (fun ad l hh m hb=>run_slice_ptr hu hv hs hb) h hx hlo hhi
    | _=>cases mx <;> (simp only [hv] at h;cases h)
  | _=>cases h
theorem oneAgg {t:TypeId} (hg:tAgg P t=some false) {b off:Nat} {v:AV} (hr:HR P keep ρ h w) (hl:load1 h (.ptr (some (b,off)))=some v) {a:Value} (ha:VR ρ (.ptr (some (b,off))) a) :
  Gives P w ρ (Instr.loadAt t a) v:=by
 obtain ⟨p,cv,hp,hc,hv⟩:=hr.ld1 hl
 obtain ⟨p',hp',rfl⟩:=ha
 rw [hp] at hp';cases hp'
 exact ⟨cv,by simp [Instr.loadAt,Instr.sureAddr,loadVar,run_aggT hg,hc],hv⟩
theorem load1_sound {t:TypeId} (hg:tAgg P t=some false) {x v:AV} (hr:HR P keep ρ h w) (hl:load1 h x=some v) {a:Value} (ha:VR ρ x a):Gives P w ρ (Instr.loadAt t a) v:=by
 obtain ⟨b,off,rfl,_⟩:=ePtr_some hl
 exact oneAgg hg hr hl ha
theorem loadN_sound {t:TypeId} {s:Nat} (hs:tSize P t=some s) (hg:tAgg P t=some true) {x v:AV} (hr:HR P keep ρ h w) (hl:loadN s h x=some v) {a:Value} (ha:VR ρ x a):Gives P w ρ (Instr.loadAt t a) v:=by
 obtain ⟨b,off,rfl,g⟩:=ePtr_some hl
 cases hv:h.ld b off s with
 | none=>rw [hv] at g;cases g
 | some vs =>
  rw [hv] at g;cases g
  obtain ⟨p,cs,hp,hvs,hn,_,hc⟩:=hr.ld hv
  obtain ⟨p',hp',rfl⟩:=ha
  rw [hp] at hp';cases hp'
  have:=run_loadRun (P:=P) (w:=w) (a:=⟨p.blk,p.off+off,none⟩) hn (fun j u hj=>by rw [add_addr];exact hc j u hj)
  exact ⟨.agg cs.toArray,by simp [Instr.loadAt,Instr.sureAddr,loadVar,run_aggT hg,run_sizeT hs,this],_,rfl,by simpa using hvs⟩
theorem load1_var {t:TypeId} (hg:tAgg P t=some false) {x v:AV} (hr:HR P keep ρ h w) (hl:load1 h x=some v) {a:Value} (ha:VR ρ x a):∃ ad cv,a=.pointer (some ad)/\(loadVar t ad).run P w=.ok cv w/\VR ρ v cv:=by
 obtain ⟨b,off,rfl,_⟩:=ePtr_some hl
 obtain ⟨p,cv,hp,hc,hv⟩:=hr.ld1 hl
 obtain ⟨p',hp',rfl⟩:=ha
 rw [hp] at hp';cases hp'
 exact ⟨_,cv,rfl,by simp [loadVar,run_aggT hg,hc],hv⟩
theorem loadN_var {t:TypeId} {s:Nat} (hs:tSize P t=some s) (hg:tAgg P t=some true) {x v:AV} (hr:HR P keep ρ h w) (hl:loadN s h x=some v) {a:Value} (ha:VR ρ x a):∃ ad cv,a=.pointer (some ad)/\(loadVar t ad).run P w=.ok cv w/\VR ρ v cv:=by
 obtain ⟨b,off,rfl,g⟩:=ePtr_some hl
 cases hv:h.ld b off s with
 | none=>rw [hv] at g;cases g
 | some vs =>
  rw [hv] at g;cases g
  obtain ⟨p,cs,hp,hvs,hn,_,hc⟩:=hr.ld hv
  obtain ⟨p',hp',rfl⟩:=ha
  rw [hp] at hp';cases hp'
  have:=run_loadRun (P:=P) (w:=w) (a:=⟨p.blk,p.off+off,none⟩) hn (fun j u hj=>by rw [add_addr];exact hc j u hj)
  exact ⟨_,.agg cs.toArray,rfl,by simp [loadVar,run_aggT hg,run_sizeT hs,this],_,rfl,by simpa using hvs⟩
theorem lenMap_sound {t k e ty:TypeId} {ts:Array TypeId} {x r:AV} {a:Value} (hu:P.underlying t=some (.map k e)) (ht:ts[0]?=some t) (hr:HR P keep ρ h w) (hl:lenMap h x=some r) (hx:VR ρ x a):Gives P w ρ (Builtin.len_ ts ty #[a]) r:=by
 unfold lenMap at hl
 split at hl
 ·cases hl;cases hx
  exact ⟨.int .i64 0,by simp [Builtin.len_,ht,run_underlying hu,goInt],rfl⟩
 ·rename_i b
  obtain ⟨es,c,hb,g⟩:=theMap_some hl
  cases g
  obtain ⟨p,es',hp,h0,hh,he⟩:=hr.blk _ _ hb
  obtain ⟨p',hp',_,rfl⟩:=hx
  rw [hp] at hp';cases hp'
  have hlen:=he.length
  refine ⟨.int .i64 es'.size,by simp [Builtin.len_,ht,run_underlying hu,goInt,getObj,Sem.run,hh],?_⟩
  rw [len'_eq,← hlen];simp [VR]
 ·cases hl
theorem theByte_some {v:AV} {c:Nat} (h:theByte v=some c):v=.int .u8 c/\c<256:=by
 obtain ⟨k,n,rfl,g⟩:=eInt_some h
 obtain ⟨g1,g2⟩:=iff'_some.1 g
 have:k=.u8:=by cases k <;> first | rfl | cases g1
 subst this
 cases n with
 | negSucc n=>cases g2
 | ofNat n =>
  obtain ⟨g3,g4⟩:=iff'_some.1 g2
  cases g4
  exact ⟨rfl,Nat.lt_succ_of_le (Nat.le_of_ble_eq_true g3)⟩
theorem bytesOf_cons (v:AV) (vs:List AV):bytesOf (v::vs)=ob (theByte v) fun c=>ob (bytesOf vs) fun l=>some (c::l):=rfl
theorem bytesOf_sound:∀ {vs:List AV} {l:List Nat} {cs:List Value},bytesOf vs=some l->VRs ρ vs cs->(cs=l.map fun (n:Nat)=>Value.int .u8 n)/\∀ c∈l,c<256
 | [],l,cs,h,hv=>by cases h;cases hv;exact ⟨rfl,by simp⟩
 | v::vs,l,cs,h,hv=>by
  rw [bytesOf_cons] at h
  obtain ⟨c,hc,h⟩:=ob_some.1 h
  obtain ⟨l',hl,h⟩:=ob_some.1 h
  cases h
  obtain ⟨u,us,rfl,h1,h2⟩:=hv
  obtain ⟨rfl,hlt⟩:=theByte_some hc
  cases h1
  obtain ⟨e,he⟩:=bytesOf_sound hl h2
  refine ⟨by rw [e];rfl,fun d hd=>?_⟩
  rcases List.mem_cons.1 hd with rfl | hd
  ·exact hlt
  ·exact he d hd
end
end Go.Am
namespace Go.Am
section
variable {P:Program} {keep:Keeps} {w:World} {ρ : Pls} {h:Heap}
def Makes (P:Program) (keep:Keeps) (w:World) (ρ : Pls) (s:Sem Value) (r:Blk×(Nat->AV)):Prop :=
 ∃ o sz v w',s.run P w=.ok v w'/\w'.os=w.os/\w'.output=w.output/\w'.heap=w.heap.push o /\
  ∀ id,ρ id=none->BR P keep (ρ.up id ⟨w.heap.size,0,sz⟩) id r.1 w'/\VR (ρ.up id ⟨w.heap.size,0,sz⟩) (r.2 id) v
theorem Makes.rowM {s:Sem Value} {vs:List AV} {cs:Array Value} {e:TypeId} {f:Nat->AV} {v:Value} (hv:VRs ρ vs cs.toList) (hone:allOne vs=true)
  (hrun:s.run P w=.ok v { w with heap:=w.heap.push (.cells cs e) }) (hf:∀ σ : Pls,∀ id,σ id=some ⟨w.heap.size,0,cs.size⟩->VR σ (f id) v) (x:Bool):Makes P keep w ρ s (.cells (fillC vs .leaf 0) (tyMark e x) (len' vs) false,f):=by
 refine ⟨.cells cs e,cs.size,v,_,hrun,rfl,rfl,rfl,fun id hid=>⟨?_,hf _ _ (Pls.up_same _ _ _)⟩⟩
 rw [allOne_eq,List.all_eq_true] at hone
 refine BR.rowM (extra:=[]) (e:=e) (hv.mono (Pls.le_up hid)) hone (Pls.up_same _ _ _) rfl rfl (by simp) (fz:=(0,0)) (fun i _ hh=>by simp at hh) ?_ ?_
 ·show (w.heap.push _)[w.heap.size]?=_
  simp
 ·intro t y ht
  simp only [tyMark,List.cons.injEq,AV.tuple.injEq,AV.int.injEq,AV.bool.injEq,and_true,true_and] at ht
  refine ⟨by have:=ht.1;exact Int.ofNat_inj.1 this,fun _=>⟨rfl,?_⟩⟩
  have:=hv.length
  simpa using this.symm
theorem Makes.row {s:Sem Value} {vs:List AV} {cs:Array Value} {e:TypeId} {f:Nat->AV} {v:Value} (hv:VRs ρ vs cs.toList) (hone:allOne vs=true)
  (hrun:s.run P w=.ok v { w with heap:=w.heap.push (.cells cs e) }) (hf:∀ σ : Pls,∀ id,σ id=some ⟨w.heap.size,0,cs.size⟩->VR σ (f id) v):Makes P keep w ρ s (rowBlk vs,f):=by
 refine ⟨.cells cs e,cs.size,v,_,hrun,rfl,rfl,rfl,fun id hid=>⟨?_,hf _ _ (Pls.up_same _ _ _)⟩⟩
 rw [allOne_eq,List.all_eq_true] at hone
 refine BR.row (extra:=[]) (e:=e) (hv.mono (Pls.le_up hid)) hone (Pls.up_same _ _ _) rfl rfl (by simp) (fz:=(0,0)) (fun i _ hh=>by simp at hh) ?_
 show (w.heap.push _)[w.heap.size]?=_
 simp
theorem wrap_small {n:Int} (h0:0<=n) (h1:n<2^40):IntKind.i64.wrap n=n:=by
 obtain ⟨k,rfl⟩:=Int.eq_ofNat_of_zero_le h0
 exact wrap_fit (show k<=maxK .i64 by simp only [maxK];omega)
theorem ptrTo_VR {σ : Pls} {id n sz:Nat} (hs:σ id=some ⟨n,0,sz⟩):VR σ (ptrTo id) (.pointer (some ⟨n,0,none⟩)):=⟨_,hs,rfl⟩
theorem allocN_sound {t:TypeId} {r:Blk×(Nat->AV)} (hr:allocN P t=some r):Makes P keep w ρ (Instr.alloc t true (.tuple #[])) r:=by
 unfold allocN at hr
 cases hz:tZero P t with
 | none=>rw [hz] at hr;cases hr
 | some z =>
  rw [hz] at hr
  obtain ⟨h1,h2⟩:=iff'_some.1 (show iff' (allOne z.cells) (some (.cells (fillC z.cells .leaf 0) (tyMark t true) (len' z.cells) false,ptrTo))=some r from hr)
  cases h2
  obtain ⟨v,rz,vz⟩:=run_zeroT (w:=w) (ρ:=ρ) hz
  refine Makes.rowM (e:=t) vz.cells h1 ?_ (fun σ id hs=>ptrTo_VR hs) true
  simp [Instr.alloc,rz,newVar,newRow]
theorem box1_sound {t:TypeId} {x:AV} {a:Value} {r:Blk×(Nat->AV)} (hr:box1 x=some r) (hx:VR ρ x a):Makes P keep w ρ (Instr.box t a) r:=by
 obtain ⟨h1,h2⟩:=iff'_some.1 (show iff' (allOne x.cells) (some (rowBlk x.cells,ptrTo))=some r from hr)
 cases h2
 refine Makes.row (e:=t) hx.cells h1 ?_ (fun σ id hs=>ptrTo_VR hs)
 simp [Instr.box,newVar,newRow]
theorem zeros_get {zs:List AV} {za:Array Value} (hz:VRs ρ zs za.toList) (len:Nat):VRs ρ (List.replicate len zs).flatten ((Array.range (len*zs.length)).map (za[·% za.size]!)).toList:=by
 have hl:za.size=zs.length:=by have:=hz.length;simpa using this.symm
 refine VRs.of_get (by simp) fun i x hx=>?_
 have hi:i<len*zs.length:=by
  have:=(List.getElem?_eq_some_iff.1 hx).1
  simpa using this
 have hpos:0<zs.length:=by
  rcases Nat.eq_zero_or_pos zs.length with h | h
  ·rw [h] at hi;simp at hi
  ·exact h
 have hget:∀ (n i:Nat),(List.replicate n zs).flatten[i]?=if i<n*zs.length then zs[i%zs.length]? else none:=by
  intro n
  induction n with
  | zero=>intro i;simp
  | succ n ih =>
   intro i
   rw [List.replicate_succ,List.flatten_cons]
   by_cases h:i<zs.length
   ·rw [List.getElem?_append_left h,Nat.mod_eq_of_lt h,if_pos]
    rw [Nat.add_mul];omega
   ·rw [List.getElem?_append_right (by omega),ih]
    have:(i - zs.length)%zs.length=i%zs.length:=by
     conv=>rhs;rw [show i=i - zs.length+zs.length by omega,Nat.add_mod_right]
    rw [this]
    by_cases h2:i - zs.length<n*zs.length
    ·rw [if_pos h2,if_pos (by rw [Nat.add_mul];omega)]
    ·rw [if_neg h2,if_neg (by rw [Nat.add_mul];omega)]
 rw [hget,if_pos hi] at hx
 obtain ⟨v,h1,h2⟩:=hz.get _ _ hx
 refine ⟨v,?_,h2⟩
 rw [Array.getElem?_toList] at h1
 simp only [Array.toList_map,Array.toList_range,List.getElem?_map,List.getElem?_range hi,Option.map_some]
 rw [hl,getElem!_pos _ _ (by have:=Nat.mod_lt i hpos;omega)]
 rw [Array.getElem?_eq_getElem (by have:=Nat.mod_lt i hpos;omega)] at h1
 exact h1
theorem sliceTo_VR {σ : Pls} {id n sz len:Nat} (hs:σ id=some ⟨n,0,sz⟩):VR σ (sliceTo len id) (.slice (some ⟨n,0,none⟩) len len) :=
 ⟨_,_,_,hs,rfl,Nat.le_refl _,Nat.le_refl _,fun _=>rfl,(fun es e=>by cases e),fun _=>rfl⟩
theorem buildSliceN_sound {t:TypeId} {len:Nat} {vs:List AV} {ps:Array (Nat×Value)} {r:Blk×(Nat->AV)} (hr:buildSliceN P t len (ps.toList.map (·.1)) vs=some r) (hv:VRs ρ vs (ps.toList.map (·.2))) :
  Makes P keep w ρ (Instr.buildSlice t len ps) r:=by
 unfold buildSliceN at hr
 cases hu:P.underlying t with
 | none=>rw [hu] at hr;cases hr
 | some d =>
  cases d with
  | slice e =>
   cases hs:tSize P e with
   | none=>simp only [hu,hs] at hr;cases hr
   | some s =>
    cases hz:tZero P e with
    | none=>simp only [hu,hs,hz] at hr;cases hr
    | some z =>
     simp only [hu,hs,hz] at hr
     by_cases hc:len*s<=2^24/\z.cells.length=s
     ·rw [if_pos hc] at hr
      cases hpls:placesOf (fun i=>some (i*s,s)) (len*s) (ps.toList.map (·.1)) with
      | none=>rw [hpls] at hr;cases hr
      | some pls =>
       rw [hpls] at hr
       simp only at hr
       cases hf:fillB pls vs (rep' len z.cells) with
       | none=>rw [hf] at hr;cases hr
       | some cs =>
        rw [hf] at hr
        obtain ⟨h1,h2⟩:=iff'_some.1 (show iff' (allOne cs) (some (rowBlk cs,sliceTo len))=some r from hr)
        cases h2
        obtain ⟨zv,rz,vz⟩:=run_zeroT (w:=w) (ρ:=ρ) hz
        have hzl:(rep' len z.cells).length=len*s:=by rw [rep'_eq];simp [hc.2]
        have key:∀ (za:Array Value),(len*s=0∨za=zv.cells)->∃ ra,Instr.fill (fun i=>some (i*s,s)) ((Array.range (len*s)).map (za[·% za.size]!)) ps.toList=some ra/\VRs ρ cs ra.toList:=by
         intro za hza
         have hzs:VRs ρ (rep' len z.cells) ((Array.range (len*s)).map (za[·% za.size]!)).toList:=by
          rcases hza with h0 | rfl
          ·rw [h0]
           have:(rep' len z.cells)=[]:=List.length_eq_zero_iff.1 (by omega)
           rw [this];simp [VRs]
          ·rw [rep'_eq,← hc.2];exact zeros_get vz.cells len
         obtain ⟨ra,g1,g2,_⟩:=fillB_sound (ps:=ps.toList) (place:=fun i=>some (i*s,s)) hf (by rw [hzl];exact hpls) hv hzs
         exact ⟨ra,g1,g2⟩
        by_cases h0:len*s=0
        ·obtain ⟨ra,g1,g2⟩:=key #[] (.inl h0)
         refine Makes.row (e:=e) g2 h1 ?_ (fun σ id hs=>sliceTo_VR hs)
         simp only [h0] at g1
         simp only [Instr.buildSlice,Sem.run_bind,run_underlying hu,Result.andThen_ok,run_sizeT hs]
         rw [if_neg (by omega),if_pos h0]
         simp only [Sem.run_pure,Result.andThen_ok,Sem.run_bind,h0,g1]
         rfl
        ·obtain ⟨ra,g1,g2⟩:=key zv.cells (.inr rfl)
         refine Makes.row (e:=e) g2 h1 ?_ (fun σ id hs=>sliceTo_VR hs)
         simp only [Instr.buildSlice,Sem.run_bind,run_underlying hu,Result.andThen_ok,run_sizeT hs]
         rw [if_neg (by omega),if_neg h0]
         simp only [Sem.run_pure,Result.andThen_ok,Sem.run_bind,rz,g1]
         rfl
     ·rw [if_neg hc] at hr;cases hr
  | _=>simp only [hu] at hr;cases hr
theorem makeMap_block {t:TypeId} {r:Blk×(Nat->AV)} (hr:makeMap1 P t true=some r) {s:Sem Value} (hs:s.run P w=.ok (.map (some w.heap.size)) { w with heap:=w.heap.push (.map #[] 0) }):Makes P keep w ρ s r:=by
 unfold makeMap1 at hr
 split at hr
 ·cases hr
  refine ⟨.map #[] 0,0,_,_,hs,rfl,rfl,rfl,fun id hid=>⟨⟨_,#[],Pls.up_same _ _ _,rfl,?_,rfl⟩,_,Pls.up_same _ _ _,rfl,rfl⟩⟩
  show (w.heap.push _)[w.heap.size]?=_
  simp
 ·cases hr
theorem makeMap0_sound {t:TypeId} {r:Blk×(Nat->AV)} (hr:makeMap1 P t true=some r):Makes P keep w ρ (Instr.makeMap t none) r :=
 makeMap_block hr (by simp [Instr.makeMap])
theorem makeMap1_sound {t:TypeId} {x:AV} {a:Value} {r:Blk×(Nat->AV)} (hr:eInt (fun _ _=>makeMap1 P t true) x=some r) (hx:VR ρ x a):Makes P keep w ρ (Instr.makeMap t (some a)) r:=by
 obtain ⟨k,n,rfl,g⟩:=eInt_some hr
 cases hx
 have hu:∃ kt e,P.underlying t=some (.map kt e):=by
  unfold makeMap1 at g
  split at g
  ·exact ⟨_,_,by assumption⟩
  ·cases g
 obtain ⟨kt,e,hu⟩:=hu
 exact makeMap_block g (by simp [Instr.makeMap,run_underlying hu,asInt,asIntOf])
theorem makeSlice2_sound {t:TypeId} {x y:AV} {a b:Value} {r:Blk×(Nat->AV)} (hr:makeSlice2 P t x y=some r) (hx:VR ρ x a) (hy:VR ρ y b):Makes P keep w ρ (Instr.makeSlice t a b) r:=by
 unfold makeSlice2 at hr
 cases hu:P.underlying t with
 | none=>rw [hu] at hr;cases hr
 | some d =>
  cases d with
  | slice e =>
   cases hs:tSize P e with
   | none=>simp only [hu,hs] at hr;cases hr
   | some s =>
    cases hz:tZero P e with
    | none=>simp only [hu,hs,hz] at hr;cases hr
    | some z =>
     cases hb:tBytes P e with
     | none=>simp only [hu,hs,hz,hb] at hr;cases hr
     | some bs =>
      simp only [hu,hs,hz,hb] at hr
      obtain ⟨k,n,rfl,g1⟩:=eInt_some hr
      obtain ⟨k',m,rfl,g2⟩:=eInt_some g1
      split at g2
      ·rename_i hc
       obtain ⟨c1,c2,c3,c4,c5,c6⟩:=hc
       cases g2
       cases hx;cases hy
       obtain ⟨zv,rz,vz⟩:=run_zeroT (w:=w) (ρ:=ρ) hz
       obtain ⟨inf,ri,ib⟩:=run_bytesT (w:=w) hb
       have wn:IntKind.i64.wrap n=n:=wrap_small (by omega) (by omega)
       have wm:IntKind.i64.wrap m=m:=wrap_small (by omega) (by omega)
       have hzl:zv.cells.size=s:=by have:=vz.cells.length;rw [c5] at this;simpa using this.symm
       let za:Array Value:=if m.toNat*s=0 then #[] else zv.cells
       let row:Array Value:=(Array.range (m.toNat*s)).map (za[·% za.size]!)
       refine ⟨.cells row e,m.toNat*s,.slice (some ⟨w.heap.size,0,none⟩) n.toNat m.toNat,{ w with heap:=w.heap.push (.cells row e) },?_,rfl,rfl,rfl,fun id hid=>⟨?_,?_⟩⟩
       ·simp only [Instr.makeSlice,Sem.run_bind,run_underlying hu,Result.andThen_ok,asInt,asIntOf,Sem.run_pure,ri,ib,wn,wm]
        have t1:((m<0||decide ((bs:Int)*m > 2^48))||decide (n<0)||decide (n > m))=false:=by
         simp only [Bool.or_eq_false_iff,decide_eq_false_iff_not]
         refine ⟨⟨⟨by omega,by omega⟩,by omega⟩,by omega⟩
        simp only [t1]
        simp only [Bool.false_eq_true,if_false,Sem.run_bind,run_askRoom,Result.andThen_ok]
        by_cases h0:m.toNat*s=0
        ·simp [h0,newRow,row,za,run_sizeT hs]
        ·simp [h0,rz,newRow,row,za,run_sizeT hs]
       ·refine ⟨⟨w.heap.size,0,m.toNat*s⟩,row,e,(0,0),Pls.up_same _ _ _,by show (w.heap.push _)[w.heap.size]?=_;simp,by simp [row],by simp,fun i hi=>?_,fun _ i _ hh=>by simp at hh,markOk_one (fun v hv=>by have:=c6;rw [allOne_eq,List.all_eq_true] at this;exact this v hv)⟩
        have hpos:0<s:=by
         rcases Nat.eq_zero_or_pos s with h | h
         ·rw [h] at hi;simp at hi
         ·exact h
        have hm:=Nat.mod_lt i hpos
        have hne:¬m.toNat*s=0:=by omega
        have hlt:i%s<z.cells.length:=by rw [c5];exact hm
        obtain ⟨cv,g1,g2⟩:=vz.cells.get (i%s) z.cells[i%s] (List.getElem?_eq_getElem hlt)
        refine ⟨z.cells[i%s],cv,?_,?_,?_,g2.mono (Pls.le_up hid)⟩
        ·show (nth z.cells (Nat.mod i (len' z.cells)))=_
         rw [nth_eq,len'_eq,c5];exact List.getElem?_eq_getElem hlt
        ·rw [allOne_eq,List.all_eq_true] at c6;exact c6 _ (List.getElem_mem _)
        ·simp only [row,za,if_neg hne,Nat.zero_add]
         rw [Array.getElem?_map,Array.getElem?_range,if_pos hi]
         rw [Array.getElem?_toList] at g1
         simp only [Option.map_some,hzl]
         rw [getElem!_pos _ _ (by omega)]
         rw [Array.getElem?_eq_getElem (by omega)] at g1
         exact g1
       ·exact ⟨_,_,_,Pls.up_same _ _ _,rfl,by omega,Nat.le_refl _,fun _=>rfl,(fun es e=>by cases e),fun _=>by simp⟩
      ·cases g2
  | _=>simp only [hu] at hr;cases hr
theorem bytesV_eq (l:List Nat):bytesV l=l.map byteV:=by
 induction l with
 | nil=>rfl
 | cons c l ih=>show byteV c::bytesV l=_;rw [ih];rfl
theorem bytesV_VRs (s:ByteArray):VRs ρ (bytesV (s.data.toList.map (·.toNat))) (s.data.map fun b=>Value.int .u8 b.toNat).toList:=by
 rw [bytesV_eq]
 refine VRs.of_get (by simp) fun i x hx=>?_
 simp only [List.map_map,List.getElem?_map,Option.map_eq_some_iff] at hx
 obtain ⟨u,hu,rfl⟩:=hx
 refine ⟨.int .u8 u.toNat,?_,rfl⟩
 rw [Array.getElem?_toList] at hu
 rw [Array.getElem?_toList,Array.getElem?_map,hu];rfl
theorem toBytes1_sound {e:TypeId} {x:AV} {a:Value} {r:Blk×(Nat->AV)} {s d:TypeId} (hs:P.underlying s=some .string) (hd:P.underlying d=some (.slice e)) (hr:toBytes1 P e x=some r) (hx:VR ρ x a) :
  Makes P keep w ρ (convert s d a) r:=by
 unfold toBytes1 at hr
 cases hu:P.underlying e with
 | none=>rw [hu] at hr;cases hr
 | some de =>
  rw [hu] at hr
  have hk:de=.int .u8:=by
   cases de with
   | int k=>cases k <;> first | rfl | (exfalso;cases hr)
   | _=>exfalso;cases hr
  subst hk
  ·cases x with
   | str l =>
    cases hr
    obtain ⟨sb,rfl,rfl⟩:=hx
    let cap:=(Question.appendCap sb.size 0 e).cut (w.tape w.drawn (.appendCap sb.size 0 e))
    let row:Array Value:=(sb.data.map fun b=>Value.int .u8 b.toNat)++Array.replicate (cap - sb.size) (.int .u8 0)
    have hcap:sb.size<=cap:=by simp only [cap,Question.cut];omega
    have hrow:row.size=cap:=by simp only [row,Array.size_append,Array.size_map,Array.size_replicate];have:sb.data.size=sb.size:=rfl;omega
    refine ⟨.cells row e (cap,cap+1),cap,.slice (some ⟨w.heap.size,0,none⟩) sb.size cap,{ w with heap:=w.heap.push (.cells row e (cap,cap+1)),drawn:=w.drawn+1 },?_,rfl,rfl,rfl,fun id hid=>⟨?_,?_⟩⟩
    ·have hf:(Question.appendCap sb.size 0 e).forced=false:=rfl
     simp only [convert,Sem.run_bind,run_underlying hs,run_underlying hd,run_underlying hu,Result.andThen_ok]
     simp only [Conv.stringToBytes,Sem.run_bind,run_choose,hf,Bool.false_eq_true,if_false,Result.andThen_ok]
     simp only [newRow,Sem.run_bind,run_newObj,Result.andThen_ok,Sem.run_pure,markStringish,run_shape]
     have hsh:World.shape? { w with heap:=w.heap.push (.cells row e),drawn:=w.drawn+1 } w.heap.size=some (e,cap):=by
      simp [World.shape?,hrow]
     simp only [row,cap] at hsh ⊢
     rw [hsh]
     simp only [run_freeze,Result.andThen_ok]
     congr 1
     simp only [World.freeze]
     rw [if_neg (by simp)]
     congr 1
     apply Array.ext_getElem?
     intro i
     rw [Array.getElem?_modify]
     by_cases hi:w.heap.size=i
     ·subst hi;simp
     ·rw [if_neg hi,Array.getElem?_push,Array.getElem?_push,if_neg (fun h=>hi h.symm),if_neg (fun h=>hi h.symm)]
    ·have hb:=bytesV_VRs (ρ:=ρ.up id ⟨w.heap.size,0,cap⟩) sb
     have hlen:sb.data.size=sb.size:=rfl
     refine ⟨⟨w.heap.size,0,cap⟩,row,e,(cap,cap+1),Pls.up_same _ _ _,by show (w.heap.push _)[w.heap.size]?=_;simp,hrow,?_,fun i hi=>?_,fun _ i hi hh=>by simp only at hi hh;omega,markOk_nil⟩
     ·simp only [len'_eq,List.length_map,Array.length_toList];omega
     ·simp only [len'_eq,List.length_map,Array.length_toList] at hi
      have hi':i<(bytesV (sb.data.toList.map (·.toNat))).length:=by rw [bytesV_eq];simpa using hi
      obtain ⟨cv,g1,g2⟩:=hb.get i _ (List.getElem?_eq_getElem hi')
      refine ⟨_,cv,?_,?_,?_,g2⟩
      ·unfold cellAt
       rw [gt_fillC,if_pos (by omega),Nat.sub_zero,List.getElem?_eq_getElem hi']
      ·simp only [bytesV_eq,List.getElem_map];rfl
      ·rw [Array.getElem?_toList] at g1
       simp only [row,Nat.zero_add]
       rw [Array.getElem?_append_left (by simpa using hi)];exact g1
    ·have hlen:(sb.data.toList.map (·.toNat)).length=sb.size:=(size_bytes sb).symm
     rw [len'_eq,hlen]
     exact ⟨_,_,_,Pls.up_same _ _ _,rfl,hcap,hcap,(fun e=>by cases e),(fun es e=>by cases e;simp),fun _=>by simp⟩
   | _=>cases hr
theorem ofBytes1_sound {e:TypeId} {x r:AV} {a:Value} {s d:TypeId} (hr0:HR P keep ρ h w) (hs:P.underlying s=some (.slice e)) (hd:P.underlying d=some .string) (hr:ofBytes1 P e x h=some r) (hx:VR ρ x a) :
  Gives P w ρ (convert s d a) r:=by
 unfold ofBytes1 at hr
 cases hu:P.underlying e with
 | none=>rw [hu] at hr;cases hr
 | some de =>
  rw [hu] at hr
  split at hr
  ·rename_i hk
   cases hk
   split at hr
   ·cases hr
    obtain ⟨_,_,_,rfl⟩:=hx
    refine ⟨.string .empty,?_,_,rfl,rfl⟩
    simp [convert,run_underlying hs,run_underlying hd,run_underlying hu,Conv.bytesToString]
   ·rename_i b off n _ _
    split at hr
    ·rename_i vs hl
     cases hb:bytesOf vs with
     | none=>rw [hb] at hr;cases hr
     | some l =>
      rw [hb] at hr;cases hr
      obtain ⟨p,cs,hp,hvs,hn,_,hc⟩:=hr0.ld hl
      obtain ⟨p',a',c',hp',rfl,hle,_,_,_,ha⟩:=hx
      rw [hp] at hp';cases hp'
      obtain ⟨hcs,hlt⟩:=bytesOf_sound hb hvs
      have hrun:(loadCells a' n).run P w=.ok cs.toArray w:=by
       by_cases hc0:c'=0
       ·obtain rfl:n=0:=by omega
        have:cs=[]:=List.length_eq_zero_iff.1 hn
        subst this;rfl
       ·rw [ha hc0];exact run_loadRun hn (fun j u hj=>by rw [add_addr];exact hc j u hj)
      have key:∀ (f:Value->ByteArray->Sem (ForInStep ByteArray)),(∀ (n:Nat) s,f (.int .u8 n) s=pure (ForInStep.yield (s.push (UInt8.ofNat n)))) ->
        ∀ (l:List Nat) (s0:ByteArray),(forIn (l.map fun (n:Nat)=>Value.int .u8 n) s0 f).run P w=.ok ⟨s0.data++(l.map UInt8.ofNat).toArray⟩ w:=by
       intro f hf l
       induction l with
       | nil=>intro s0;simp
       | cons c l ih =>
        intro s0
        rw [List.map_cons,List.forIn_cons,hf]
        simp only [Sem.run_bind,Sem.run_pure,Result.andThen_ok]
        rw [ih]
        congr 2
        show s0.data.push _++_=_
        simp
      refine ⟨.string ⟨(l.map UInt8.ofNat).toArray⟩,?_,_,rfl,?_⟩
      ·simp only [convert,Sem.run_bind,run_underlying hs,run_underlying hd,run_underlying hu,Result.andThen_ok,Conv.bytesToString,hrun]
       rw [← Array.forIn_toList]
       simp only [hcs]
       rw [key _ (fun n s=>rfl) l .empty]
       simp only [Result.andThen_ok,Sem.run_pure]
       congr 2
       show (⟨#[]++_⟩:ByteArray)=_
       simp
      ·simp only [List.map_map]
       conv=>rhs;rw [← List.map_id l]
       apply List.map_congr_left
       intro c hc
       have:=hlt c hc
       simp only [Function.comp,id,UInt8.toNat_ofNat']
       omega
    ·cases hr
   ·cases hr
  ·cases hr
end
end Go.Am
namespace Go.Am
section
variable {P:Program} {keep:Keeps} {w:World} {ρ : Pls} {h:Heap}
def Does (P:Program) (keep:Keeps) (w:World) (ρ : Pls) (h:Heap) (s:Sem Value) (r:AV) (h':Heap):Prop :=
 ∃ ρ' v w',s.run P w=.ok v w'/\VR ρ' r v/\Post P keep ρ h w ρ' h' w'
def DoesU (P:Program) (keep:Keeps) (w:World) (ρ : Pls) (h:Heap) (s:Sem Unit) (h':Heap):Prop :=
 ∃ ρ' w',s.run P w=.ok () w'/\Post P keep ρ h w ρ' h' w'
theorem stAs_some {v:AV} {r:Option Heap} {q:AV×Heap} (hq:stoAs v r=some q):∃ h',r=some h'/\q=(v,h'):=by
 unfold stoAs at hq
 cases r with
 | none=>cases hq
 | some h'=>cases hq;exact ⟨h',rfl,rfl⟩
theorem storeN_sound {t:TypeId} {s:Nat} (hs:tSize P t=some s) (hr:HR P keep ρ h w) {x v:AV} {q:AV×Heap} (hq:storeN s h x v=some q) {a b:Value} (hx:VR ρ x a) (hv:VR ρ v b) :
  q.1=undefA/\DoesU P keep w ρ h (Instr.storeAt t a b) q.2:=by
 obtain ⟨bk,off,rfl,g1⟩:=ePtr_some hq
 obtain ⟨g2,g3⟩:=boolRec_some.1 g1
 cases hst:h.sto bk off v.cells with
 | none=>rw [hst] at g3;cases g3
 | some h' =>
  rw [hst] at g3;cases g3
  obtain ⟨p,w',hp,hrun,hpost⟩:=hr.sto hst hv.cells
  obtain ⟨p',hp',rfl⟩:=hx
  rw [hp] at hp';cases hp'
  refine ⟨rfl,ρ,w',?_,hpost⟩
  have hlen:=hv.cells.length
  have:b.cells.size=s:=by have:=Nat.eq_of_beq_eq_true g2;rw [len'_eq] at this;simp at hlen;omega
  simp only [Instr.storeAt,Instr.sureAddr,Sem.run_bind,Sem.run_pure,Result.andThen_ok,storeVar,run_sizeT hs]
  rw [if_neg (by rw [this];simp)]
  simpa using hrun
theorem cells_one {v:AV} (h:v.one=true):v.cells=[v]:=by cases v <;> first | rfl | cases h
theorem store1_sound {t:TypeId} (hs:tSize P t=some 1) (hr:HR P keep ρ h w) {x v:AV} {q:AV×Heap} (hq:store1 h x v=some q) {a b:Value} (hx:VR ρ x a) (hv:VR ρ v b) :
  q.1=undefA/\DoesU P keep w ρ h (Instr.storeAt t a b) q.2:=by
 obtain ⟨bk,off,rfl,g1⟩:=ePtr_some hq
 cases hst:h.st1 bk off v with
 | none=>rw [hst] at g1;cases g1
 | some h' =>
  rw [hst] at g1;cases g1
  have hone:v.one=true:=by
   obtain ⟨t,z,m,ro,hb,hf⟩:=cells_some hst
   cases ro with
   | true=>cases hf
   | false=>obtain ⟨_,hf⟩:=boolRec_some.1 hf;exact (boolRec_some.1 hf).1
  refine storeN_sound (s:=1) (v:=v) (q:=(undefA,h')) hs hr ?_ hx hv
  show (Bool.rec (motive:=fun _=>Option (AV×Heap)) none (Option.rec (motive:=fun _=>Option (AV×Heap)) none (fun h=>some (undefA,h)) (h.sto bk off v.cells)) (Nat.beq (len' v.cells) 1):Option (AV×Heap))=_
  rw [cells_one hone,st1_sto hst];rfl
theorem plainTy_some {t:TypeId} (h:plainTy P t=true):(∃ k,P.underlying t=some (.int k))∨P.underlying t=some .string∨P.underlying t=some .bool:=by
 unfold plainTy at h
 split at h
 ·exact .inl ⟨_,by assumption⟩
 ·exact .inr (.inl (by assumption))
 ·exact .inr (.inr (by assumption))
 ·cases h
theorem checkKey_plain {t:TypeId} (h:plainTy P t=true) (e:Bool) (n:Nat) (v:Value):(Instr.checkKey e (n+1) t v).run P w=.ok () w:=by
 rcases plainTy_some h with ⟨k,hu⟩ | hu | hu <;> (simp only [Instr.checkKey,Sem.run_bind,run_underlying hu,Result.andThen_ok];rfl)
theorem checkKey_sound {t:TypeId} {k:AV} {kv:Value} (h:keyOk P t k=true) (hk:VR ρ k kv) (e:Bool):(Instr.checkKey e 10000 t kv).run P w=.ok () w:=by
 unfold keyOk at h
 cases hu:P.underlying t with
 | none=>rw [hu] at h;cases h
 | some d =>
  rw [hu] at h
  cases d with
  | int kk=>exact checkKey_plain (by unfold plainTy;rw [hu]) e 9999 kv
  | string=>exact checkKey_plain (by unfold plainTy;rw [hu]) e 9999 kv
  | bool=>exact checkKey_plain (by unfold plainTy;rw [hu]) e 9999 kv
  | struct fs =>
   simp only at h
   split at h
   ·rename_i hfs
    cases k with
    | agg cs =>
     simp only [Bool.and_eq_true] at h
     obtain ⟨hoff,_⟩:=h
     obtain ⟨cs',rfl,hcs⟩:=hk
     have hlen:=hcs.length
     have key:∀ (g:Field->PUnit->Sem (ForInStep PUnit)),(∀ f s,g f s=if f.name ≠ "_" then (do let x ← part f.type cs' f.offset;Instr.checkKey e 9999 f.type x;pure (ForInStep.yield PUnit.unit)) else pure (ForInStep.yield PUnit.unit)) ->
       ∀ (l:List Field),(∀ f∈l,plainTy P f.type=true/\tSize P f.type=some 1/\f.offset<cs.length)->(forIn l PUnit.unit g).run P w=.ok PUnit.unit w:=by
      intro g hg0 l
      induction l with
      | nil=>intro _;simp
      | cons f l ih =>
       intro hl
       obtain ⟨h1,h2,h3⟩:=hl f (by simp)
       have hg:tAgg P f.type=some false:=by
        unfold tAgg
        rcases plainTy_some h1 with ⟨k,hu⟩ | hu | hu <;> rw [hu]
       have hget:cs'[f.offset]?=some (cs'[f.offset]'(by simp at hlen;omega)):=Array.getElem?_eq_getElem _
       have hpart:(part f.type cs' f.offset).run P w=.ok (cs'[f.offset]'(by simp at hlen;omega)) w:=by simp [part,run_aggT hg,hget]
       have ih:=ih fun g hg=>hl g (by simp [hg])
       rw [List.forIn_cons,hg0]
       by_cases hn:f.name ≠ "_"
       ·simp only [Sem.run_bind,if_pos hn,hpart,Result.andThen_ok,checkKey_plain h1 e 9998,Sem.run_pure]
        exact ih
       ·simp only [Sem.run_bind,if_neg hn,Sem.run_pure,Result.andThen_ok]
        exact ih
     have hall:∀ f∈fs.toList,plainTy P f.type=true/\tSize P f.type=some 1/\f.offset<cs.length:=by
      intro f hf
      rw [Array.all_eq_true'] at hfs hoff
      have h1:=hfs f (Array.mem_toList_iff.1 hf)
      have h2:=hoff f (Array.mem_toList_iff.1 hf)
      simp only [Bool.and_eq_true,beq_iff_eq,decide_eq_true_eq] at h1 h2
      exact ⟨h1.1,h1.2,h2⟩
     have e0:Instr.checkKey e 10000 t (.agg cs')=Instr.checkKey e (9999+1) t (.agg cs'):=rfl
     rw [e0,Instr.checkKey,Sem.run_bind,run_underlying hu]
     simp only [Result.andThen_ok]
     rw [← Array.forIn_toList,Sem.run_bind,key _ (fun _ _=>rfl) fs.toList hall]
     rfl
    | _=>cases h
   ·cases h
  | _=>cases h
theorem keyEq_equal {t:TypeId} {x y:AV} {a b:Value} {r:Bool} (h:keyEq P t x y=some r) (hx:VR ρ x a) (hy:VR ρ y b):(Op.equal t a b).run P w=.ok r w:=by
 unfold keyEq at h
 cases hu:P.underlying t with
 | none=>rw [hu] at h;exact run_eqPlain 50 t x y a b r 10000 h hx hy (by decide)
 | some d =>
  rw [hu] at h
  cases d with
  | int kk =>
   obtain ⟨l,n,rfl,g1⟩:=eInt_some h
   obtain ⟨m,n',rfl,g2⟩:=eInt_some g1
   obtain ⟨e3,g3⟩:=kEq_some g2
   subst e3
   cases g3;cases hx;cases hy
   rw [eqI_eq]
   exact run_equalIn_int w 9999 t l kk n n' hu
  | string =>
   obtain ⟨s,rfl,g1⟩:=eStr_some h
   obtain ⟨u,rfl,g2⟩:=eStr_some g1
   cases g2
   obtain ⟨s',rfl,rfl⟩:=hx
   obtain ⟨u',rfl,rfl⟩:=hy
   rw [strEq_bytes,← ByteArray.toList_eq,← ByteArray.toList_eq]
   exact run_equalIn_string w 9999 t s' u' hu
  | _=>exact run_eqPlain 50 t x y a b r 10000 h hx hy (by decide)
theorem keyEq_now {t:TypeId} {d:TypeDesc} (hu:P.underlying t=some d) {x y:AV} {a b:Value} {r:Bool} (h:keyEq P t x y=some r) (hx:VR ρ x a) (hy:VR ρ y b) (hd:plainTy P t=true):Instr.sameNow d a b=some r:=by
 have heq:(Op.equal t a b).run P default=.ok r default:=keyEq_equal h hx hy
 unfold keyEq at h
 rw [hu] at h
 rcases plainTy_some hd with ⟨k,hu'⟩ | hu' | hu' <;> (rw [hu] at hu';cases hu')
 ·obtain ⟨l,n,rfl,g1⟩:=eInt_some h
  obtain ⟨m,n',rfl,g2⟩:=eInt_some g1
  obtain ⟨e3,g3⟩:=kEq_some g2
  subst e3
  cases g3;cases hx;cases hy
  simp [Instr.sameNow,eqI_eq]
 ·obtain ⟨s,rfl,g1⟩:=eStr_some h
  obtain ⟨u,rfl,g2⟩:=eStr_some g1
  cases g2
  obtain ⟨s',rfl,rfl⟩:=hx
  obtain ⟨u',rfl,rfl⟩:=hy
  simp [Instr.sameNow,strEq_bytes,beq_toListBytes,ByteArray.toList_eq]
 ·have h:eqPlain P 50 t x y=some r:=h
  simp only [eqPlain,hu] at h
  split at h
  ·cases h;cases hx;cases hy;simp [Instr.sameNow]
  ·cases h
theorem struct_not_now {fs:Array Field} (a b:Value):Instr.sameNow (.struct fs) a b=none:=by cases a <;> cases b <;> rfl
theorem findKey_sound {t:TypeId} {k:AV} {kv:Value} (hok:keyOk P t k=true) (hk:VR ρ k kv):∀ {es:List MEnt} {l:List MapEntry} {r:Option AV},findE (keyEq P t) k es=some r->ERs ρ es l ->
  ∃ o,(Instr.findKey t kv l).run P w=.ok o w/\(match r with
   | none=>o=none/\∀ e∈es,keyEq P t k e.key=some false
   | some v=>∃ i e e',o=some (i,e'.val)/\es[i]?=some e/\l[i]?=some e'/\e.val=v/\ER ρ e e'/\keyEq P t k e.key=some true/\∀ j,j<i->∀ e,es[j]?=some e->keyEq P t k e.key=some false):=by
 intro es l r h hl
 
 have found:∀ (es:List MEnt) (l:List MapEntry) (r:Option AV) (n:Nat),findE (keyEq P t) k es=some r->ERs ρ es l ->
   ∃ o,(Instr.findAsking t kv l n).run P w=.ok o w/\(∀ d,P.underlying t=some d->plainTy P t=true->Instr.findNow d kv l n=some o)/\(match r with
    | none=>o=none/\∀ e∈es,keyEq P t k e.key=some false
    | some v=>∃ i e e',o=some (n+i,e'.val)/\es[i]?=some e/\l[i]?=some e'/\e.val=v/\ER ρ e e'/\keyEq P t k e.key=some true/\∀ j,j<i->∀ e,es[j]?=some e->keyEq P t k e.key=some false):=by
  intro es
  induction es with
  | nil =>
   intro l r n h hl
   cases hl;cases h
   exact ⟨none,rfl,fun _ _ _=>rfl,rfl,by simp⟩
  | cons e es ih =>
   intro l r n h hl
   obtain ⟨e',l',rfl,he,hl'⟩:=hl
   have h:(Option.rec (motive:=fun _=>Option (Option AV)) none (fun b=>Bool.rec (motive:=fun _=>Option (Option AV)) (findE (keyEq P t) k es) (some (some e.val)) b) (keyEq P t k e.key):Option (Option AV))=some r:=h
   cases hq:keyEq P t k e.key with
   | none=>rw [hq] at h;cases h
   | some q =>
    rw [hq] at h
    have heq:=keyEq_equal (w:=w) hq hk he.1
    cases q with
    | true =>
     cases h
     refine ⟨some (n,e'.val),by simp [Instr.findAsking,heq],fun d hd hp=>?_,0,e,e',by simp,rfl,rfl,rfl,he,hq,fun j hj=>absurd hj (Nat.not_lt_zero _)⟩
     simp [Instr.findNow,keyEq_now hd hq hk he.1 hp]
    | false =>
     obtain ⟨o,g1,g2,g3⟩:=ih l' r (n+1) h hl'
     refine ⟨o,by simp [Instr.findAsking,heq,g1],fun d hd hp=>?_,?_⟩
     ·simp [Instr.findNow,keyEq_now hd hq hk he.1 hp,g2 d hd hp]
     ·cases r with
      | none=>exact ⟨g3.1,fun e0 h0=>by rcases List.mem_cons.1 h0 with rfl | h0;exact hq;exact g3.2 e0 h0⟩
      | some v =>
       obtain ⟨i,e1,e1',q1,q2,q3,q4,q5,q6,q7⟩:=g3
       refine ⟨i+1,e1,e1',by rw [q1,Nat.add_assoc,Nat.add_comm 1 i],by simpa using q2,by simpa using q3,q4,q5,q6,fun j hj e0 h0=>?_⟩
       cases j with
       | zero=>simp at h0;subst h0;exact hq
       | succ j=>exact q7 j (by omega) e0 (by simpa using h0)
 obtain ⟨o,g1,g2,g3⟩:=found es l r 0 h hl
 refine ⟨o,?_,?_⟩
 ·unfold keyOk at hok
  cases hu:P.underlying t with
  | none=>rw [hu] at hok;cases hok
  | some d =>
   have plain:plainTy P t=true->(Instr.findKey t kv l).run P w=.ok o w:=fun hp=>by
    simp [Instr.findKey,run_underlying hu,g2 d hu hp]
   rw [hu] at hok
   cases d with
   | int kk=>exact plain (by unfold plainTy;rw [hu])
   | string=>exact plain (by unfold plainTy;rw [hu])
   | bool=>exact plain (by unfold plainTy;rw [hu])
   | struct fs =>
    simp only [Instr.findKey,Sem.run_bind,run_underlying hu,Result.andThen_ok]
    cases l with
    | nil=>simp [Instr.findNow];simpa [Instr.findAsking] using g1
    | cons e' l'=>simp [Instr.findNow,struct_not_now];exact g1
   | _=>cases hok
 ·cases r with
  | none=>exact g3
  | some v=>obtain ⟨i,e,e',q1,q⟩:=g3;exact ⟨i,e,e',by simpa using q1,q⟩
theorem run_getMap {b:Nat} {es:Array MapEntry} {c:Nat} (hh:w.heap[b]?=some (.map es c)):(getObj b).run P w=.ok (.map es c) w:=by simp [getObj,Sem.run,hh]
theorem run_setMap {b:Nat} {es:Array MapEntry} {c:Nat} (hh:w.heap[b]?=some (.map es c)) (o:Obj):(setObj b o).run P w=.ok () { w with heap:=w.heap.setIfInBounds b o }:=by simp [setObj,Sem.run,hh]
theorem lookup2_sound {t:TypeId} {ok:Bool} {m k r:AV} {a b:Value} (hr:HR P keep ρ h w) (hl:lookup2 P t ok m k h=some r) (hm:VR ρ m a) (hk:VR ρ k b):Gives P w ρ (Instr.lookup t a b ok) r:=by
 unfold lookup2 at hl
 cases hu:P.underlying t with
 | none=>rw [hu] at hl;cases hl
 | some d =>
  rw [hu] at hl
  cases d with
  | map kt e =>
   simp only at hl
   cases hz:tZero P e with
   | none=>rw [hz] at hl;cases hl
   | some z =>
    rw [hz] at hl
    obtain ⟨hok,hl⟩:=iff'_some.1 hl
    obtain ⟨zv,rz,vz⟩:=run_zeroT (w:=w) (ρ:=ρ) hz
    have pair:∀ {x:AV} {v:Value} (q:Bool),VR ρ x v->VR ρ (okPair ok x q) (if ok then .tuple #[v,.bool q] else v):=by
     intro x v q hv
     cases ok with
     | false=>exact hv
     | true=>exact ⟨_,rfl,v,_,rfl,hv,.bool q,[],rfl,rfl,rfl⟩
    cases m with
    | map o =>
     cases o with
     | none =>
      cases hl;cases hm
      have hf:(Instr.findKey kt b []).run P w=.ok none w:=by
       obtain ⟨o,g1,g2,_⟩:=findKey_sound (w:=w) hok hk (es:=[]) (l:=[]) (r:=none) rfl rfl
       rw [g1,g2]
      refine ⟨_,?_,pair false vz⟩
      simp only [Instr.lookup,Sem.run_bind,run_underlying hu,Result.andThen_ok,Sem.run_pure,checkKey_sound hok hk,hf,rz]
     | some bk =>
      obtain ⟨es,c,hb,hl⟩:=theMap_some hl
      obtain ⟨p,es',hp,h0,hh,he⟩:=hr.blk _ _ hb
      obtain ⟨p',hp',_,rfl⟩:=hm
      rw [hp] at hp';cases hp'
      cases hf:findE (keyEq P kt) k es with
      | none=>rw [hf] at hl;cases hl
      | some q =>
       rw [hf] at hl
       obtain ⟨o,g1,g2⟩:=findKey_sound (w:=w) hok hk hf he
       cases q with
       | none =>
        cases hl
        obtain ⟨rfl,_⟩:=g2
        refine ⟨_,?_,pair false vz⟩
        simp only [Instr.lookup,Sem.run_bind,run_underlying hu,Result.andThen_ok,run_getMap hh,Sem.run_pure,checkKey_sound hok hk,g1,rz]
       | some v =>
        cases hl
        obtain ⟨i,e1,e1',rfl,_,_,rfl,her,_⟩:=g2
        refine ⟨_,?_,pair true her.2.1⟩
        simp only [Instr.lookup,Sem.run_bind,run_underlying hu,Result.andThen_ok,run_getMap hh,Sem.run_pure,checkKey_sound hok hk,g1]
    | _=>cases hl
  | _=>cases hl
end
end Go.Am
namespace Go.Am
section
variable {P:Program} {keep:Keeps} {w:World} {ρ : Pls} {h:Heap}
mutual
theorem same_eq:∀ (a b:AV),AV.same a b=true->a=b:=by
 intro a b h
 match a,b with
 | .bool a,.bool b=>simp [AV.same] at h;rw [h]
 | .int k a,.int l b=>simp [AV.same] at h;rw [h.1,h.2]
 | .str a,.str b=>simp [AV.same] at h;rw [h]
 | .ptr a,.ptr b=>simp [AV.same] at h;rw [h]
 | .slice a n c x,.slice b m d y=>simp [AV.same] at h;obtain ⟨⟨⟨h1,h2⟩,h3⟩,h4⟩:=h;rw [h1,h2,h3,h4]
 | .map a,.map b=>simp [AV.same] at h;rw [h]
 | .func f a b,.func g c d=>simp [AV.same] at h;obtain ⟨⟨h1,h2⟩,h3⟩:=h;rw [h1,sames_eq _ _ h2,sames_eq _ _ h3]
 | .nilFunc,.nilFunc=>rfl
 | .iface t v,.iface u w=>simp [AV.same] at h;rw [h.1,same_eq _ _ h.2]
 | .nilIface,.nilIface=>rfl
 | .agg a,.agg b=>simp [AV.same] at h;rw [sames_eq _ _ h]
 | .tuple a,.tuple b=>simp [AV.same] at h;rw [sames_eq _ _ h]
 | .bool _,.int .. | .bool _,.str _ | .bool _,.ptr _ | .bool _,.slice .. | .bool _,.map _ | .bool _,.func .. | .bool _,.nilFunc | .bool _,.iface .. | .bool _,.nilIface | .bool _,.agg _ | .bool _,.tuple _
 | .int ..,.bool _ | .int ..,.str _ | .int ..,.ptr _ | .int ..,.slice .. | .int ..,.map _ | .int ..,.func .. | .int ..,.nilFunc | .int ..,.iface .. | .int ..,.nilIface | .int ..,.agg _ | .int ..,.tuple _
 | .str _,.bool _ | .str _,.int .. | .str _,.ptr _ | .str _,.slice .. | .str _,.map _ | .str _,.func .. | .str _,.nilFunc | .str _,.iface .. | .str _,.nilIface | .str _,.agg _ | .str _,.tuple _
 | .ptr _,.bool _ | .ptr _,.int .. | .ptr _,.str _ | .ptr _,.slice .. | .ptr _,.map _ | .ptr _,.func .. | .ptr _,.nilFunc | .ptr _,.iface .. | .ptr _,.nilIface | .ptr _,.agg _ | .ptr _,.tuple _
 | .slice ..,.bool _ | .slice ..,.int .. | .slice ..,.str _ | .slice ..,.ptr _ | .slice ..,.map _ | .slice ..,.func .. | .slice ..,.nilFunc | .slice ..,.iface .. | .slice ..,.nilIface | .slice ..,.agg _ | .slice ..,.tuple _
 | .map _,.bool _ | .map _,.int .. | .map _,.str _ | .map _,.ptr _ | .map _,.slice .. | .map _,.func .. | .map _,.nilFunc | .map _,.iface .. | .map _,.nilIface | .map _,.agg _ | .map _,.tuple _
 | .func ..,.bool _ | .func ..,.int .. | .func ..,.str _ | .func ..,.ptr _ | .func ..,.slice .. | .func ..,.map _ | .func ..,.nilFunc | .func ..,.iface .. | .func ..,.nilIface | .func ..,.agg _ | .func ..,.tuple _
 | .nilFunc,.bool _ | .nilFunc,.int .. | .nilFunc,.str _ | .nilFunc,.ptr _ | .nilFunc,.slice .. | .nilFunc,.map _ | .nilFunc,.func .. | .nilFunc,.iface .. | .nilFunc,.nilIface | .nilFunc,.agg _ | .nilFunc,.tuple _
 | .iface ..,.bool _ | .iface ..,.int .. | .iface ..,.str _ | .iface ..,.ptr _ | .iface ..,.slice .. | .iface ..,.map _ | .iface ..,.func .. | .iface ..,.nilFunc | .iface ..,.nilIface | .iface ..,.agg _ | .iface ..,.tuple _
 | .nilIface,.bool _ | .nilIface,.int .. | .nilIface,.str _ | .nilIface,.ptr _ | .nilIface,.slice .. | .nilIface,.map _ | .nilIface,.func .. | .nilIface,.nilFunc | .nilIface,.iface .. | .nilIface,.agg _ | .nilIface,.tuple _
 | .agg _,.bool _ | .agg _,.int .. | .agg _,.str _ | .agg _,.ptr _ | .agg _,.slice .. | .agg _,.map _ | .agg _,.func .. | .agg _,.nilFunc | .agg _,.iface .. | .agg _,.nilIface | .agg _,.tuple _
 | .tuple _,.bool _ | .tuple _,.int .. | .tuple _,.str _ | .tuple _,.ptr _ | .tuple _,.slice .. | .tuple _,.map _ | .tuple _,.func .. | .tuple _,.nilFunc | .tuple _,.iface .. | .tuple _,.nilIface | .tuple _,.agg _=>simp [AV.same] at h
theorem sames_eq:∀ (a b:List AV),AV.sames a b=true->a=b:=by
 intro a b h
 match a,b with
 | [],[]=>rfl
 | a::x,b::y=>simp [AV.sames] at h;rw [same_eq _ _ h.1,sames_eq _ _ h.2]
 | [],_::_=>simp [AV.sames] at h
 | _::_,[]=>simp [AV.sames] at h
end
theorem str_inj {a b:ByteArray} (h:a.data.toList.map (·.toNat)=b.data.toList.map (·.toNat)):a=b:=by
 have h1:a.data.toList=b.data.toList:=by
  have:=congrArg (List.map UInt8.ofNat) h
  simpa [Function.comp_def] using this
 cases a;cases b
 simp only at h1
 congr 1
 exact Array.toList_inj.1 h1
theorem plain_inj {c:AV} {u v:Value} (hc:plainCell c=true) (hu:VR ρ c u) (hv:VR ρ c v):u=v:=by
 cases c with
 | bool b=>cases hu;cases hv;rfl
 | int k n=>cases hu;cases hv;rfl
 | str s =>
  obtain ⟨a,rfl,ha⟩:=hu
  obtain ⟨b,rfl,hb⟩:=hv
  rw [str_inj (ha.trans hb.symm)]
 | _=>cases hc
theorem plains_inj:∀ {cs:List AV} {us vs:List Value},cs.all plainCell=true->VRs ρ cs us->VRs ρ cs vs->us=vs
 | [],us,vs,_,hu,hv=>by cases hu;cases hv;rfl
 | c::cs,us,vs,hc,hu,hv=>by
  obtain ⟨u,us,rfl,hu1,hu2⟩:=hu
  obtain ⟨v,vs,rfl,hv1,hv2⟩:=hv
  simp only [List.all_cons,Bool.and_eq_true] at hc
  rw [plain_inj hc.1 hu1 hv1,plains_inj hc.2 hu2 hv2]
theorem bytes_beq' (s:ByteArray):(s==s)=true:=by
 rw [beq_toListBytes];simp
theorem plain_same {c:AV} {u:Value} (hc:plainCell c=true) (hu:VR ρ c u) (n:Nat):Instr.sameBits n u u=true:=by
 cases c with
 | bool b=>cases hu;cases n <;> simp [Instr.sameBits]
 | int k n=>cases hu;cases n <;> simp [Instr.sameBits]
 | str s=>obtain ⟨a,rfl,ha⟩:=hu;cases n <;> simp [Instr.sameBits,bytes_beq']
 | _=>cases hc
theorem plains_same:∀ {cs:List AV} {us:List Value},cs.all plainCell=true->VRs ρ cs us->∀ n,(us.zip us).all (fun (x,y)=>Instr.sameBits n x y)=true
 | [],us,_,hu,n=>by cases hu;rfl
 | c::cs,us,hc,hu,n=>by
  obtain ⟨u,us,rfl,hu1,hu2⟩:=hu
  simp only [List.all_cons,Bool.and_eq_true] at hc
  simp only [List.zip_cons_cons,List.all_cons,plain_same hc.1 hu1,Bool.true_and]
  exact plains_same hc.2 hu2 n
theorem key_shape {t:TypeId} {k:AV} (h:keyOk P t k=true):plainCell k=true∨∃ cs,k=.agg cs/\cs.all plainCell=true:=by
 unfold keyOk at h
 cases hu:P.underlying t with
 | none=>rw [hu] at h;cases h
 | some d =>
  rw [hu] at h
  cases d with
  | int _=>exact .inl h
  | string=>exact .inl h
  | bool=>exact .inl h
  | struct fs =>
   simp only at h
   split at h
   ·cases k with
    | agg cs=>simp only [Bool.and_eq_true] at h;exact .inr ⟨cs,rfl,h.2⟩
    | _=>cases h
   ·cases h
  | _=>cases h
theorem key_stays {t:TypeId} {k:AV} {a b:Value} (h:keyOk P t k=true) (ha:VR ρ k a) (hb:VR ρ k b):(Instr.keyThatStays a b).run P w=.ok b w:=by
 rcases key_shape h with hp|⟨cs,rfl,hp⟩
 ·rw [plain_inj hp ha hb]
  simp [Instr.keyThatStays,plain_same hp hb]
 ·obtain ⟨cs',rfl,h1⟩:=ha
  obtain ⟨ds',rfl,h2⟩:=hb
  have:cs'=ds':=Array.toList_inj.1 (plains_inj hp h1 h2)
  subst this
  have hs:Instr.sameBits (9999+1) (.agg cs') (.agg cs')=true:=by
   simp only [Instr.sameBits,beq_self_eq_true,Bool.true_and]
   exact plains_same hp h1 9999
  unfold Instr.keyThatStays
  rw [show (10000:Nat)=9999+1 from rfl,hs]
  rfl
theorem ERs.get {es:List MEnt} {l:List MapEntry}:ERs ρ es l->∀ {i:Nat} {e:MEnt},es[i]?=some e->∃ e',l[i]?=some e'/\ER ρ e e':=by
 induction es generalizing l with
 | nil=>intro _ i e h;simp at h
 | cons x es ih =>
  intro hl i e h
  obtain ⟨x',l',rfl,h1,h2⟩:=hl
  cases i with
  | zero=>simp at h;subst h;exact ⟨x',rfl,h1⟩
  | succ i=>simpa using ih h2 (by simpa using h)
theorem ERs.set {es:List MEnt} {l:List MapEntry}:ERs ρ es l->∀ (i:Nat) {e:MEnt} {e':MapEntry},ER ρ e e'->ERs ρ (es.set i e) (l.set i e'):=by
 induction es generalizing l with
 | nil=>intro hl i e e' _;cases hl;rfl
 | cons x es ih =>
  intro hl i e e' he
  obtain ⟨x',l',rfl,h1,h2⟩:=hl
  cases i with
  | zero=>exact ⟨e',l',rfl,he,h2⟩
  | succ i=>exact ⟨x',l'.set i e',rfl,h1,ih h2 i he⟩
theorem ERs.eraseIdx {es:List MEnt} {l:List MapEntry}:ERs ρ es l->∀ (i:Nat),ERs ρ (es.eraseIdx i) (l.eraseIdx i):=by
 induction es generalizing l with
 | nil=>intro hl i;cases hl;rfl
 | cons x es ih =>
  intro hl i
  obtain ⟨x',l',rfl,h1,h2⟩:=hl
  cases i with
  | zero=>exact h2
  | succ i=>exact ⟨x',l'.eraseIdx i,rfl,h1,ih h2 i⟩
theorem ERs.snoc {es:List MEnt} {l:List MapEntry}:ERs ρ es l->∀ {e:MEnt} {e':MapEntry},ER ρ e e'->ERs ρ (es++[e]) (l++[e']):=by
 induction es generalizing l with
 | nil=>intro hl e e' he;cases hl;exact ⟨e',[],rfl,he,rfl⟩
 | cons x es ih =>
  intro hl e e' he
  obtain ⟨x',l',rfl,h1,h2⟩:=hl
  exact ⟨x',l'++[e'],rfl,h1,ih h2 he⟩
theorem updE_spec {eq:AV->AV->Option Bool} {k v:AV}:∀ {es:List MEnt} {r:Option (List MEnt)},updE eq k v es=some r ->
  match r with
  | none=>findE eq k es=some none
  | some l=>∃ i e,es[i]?=some e/\k=e.key/\findE eq k es=some (some e.val)/\eq k e.key=some true/\(∀ j,j<i->∀ e,es[j]?=some e->eq k e.key=some false)/\l=es.set i ⟨k,v,e.born⟩:=by
 intro es
 induction es with
 | nil=>intro r hr;cases hr;rfl
 | cons e es ih =>
  intro r hr
  have hr:(Option.rec (motive:=fun _=>Option (Option (List MEnt))) none (fun b=>Bool.rec (motive:=fun _=>Option (Option (List MEnt)))
   (Option.rec (motive:=fun _=>Option (Option (List MEnt))) none (fun o=>Option.rec (motive:=fun _=>Option (Option (List MEnt))) (some none) (fun l=>some (some (e::l))) o) (updE eq k v es))
   (iff' (AV.same k e.key) (some (some (MEnt.mk k v e.born::es)))) b) (eq k e.key):Option (Option (List MEnt)))=some r:=hr
  have hf:findE eq k (e::es)=(Option.rec (motive:=fun _=>Option (Option AV)) none (fun b=>Bool.rec (motive:=fun _=>Option (Option AV)) (findE eq k es) (some (some e.val)) b) (eq k e.key):Option (Option AV)):=rfl
  cases hq:eq k e.key with
  | none=>rw [hq] at hr;cases hr
  | some q =>
   rw [hq] at hr hf
   cases q with
   | true =>
    obtain ⟨h1,h2⟩:=iff'_some.1 hr
    cases h2
    exact ⟨0,e,rfl,same_eq _ _ h1,hf,hq,fun j hj=>absurd hj (Nat.not_lt_zero _),rfl⟩
   | false =>
    cases hu:updE eq k v es with
    | none=>rw [hu] at hr;cases hr
    | some o =>
     rw [hu] at hr
     have:=ih hu
     cases o with
     | none=>cases hr;exact hf.trans this
     | some l =>
      cases hr
      obtain ⟨i,e1,h1,h2,h3,h4,h5,rfl⟩:=this
      refine ⟨i+1,e1,by simpa using h1,h2,hf.trans h3,h4,fun j hj e0 h0=>?_,rfl⟩
      cases j with
      | zero=>simp at h0;subst h0;exact hq
      | succ j=>exact h5 j (by omega) e0 (by simpa using h0)
theorem delE_spec {eq:AV->AV->Option Bool} {k:AV}:∀ {es l:List MEnt},delE eq k es=some l ->
  (findE eq k es=some none/\l=es)∨∃ i e,es[i]?=some e/\findE eq k es=some (some e.val)/\eq k e.key=some true/\(∀ j,j<i->∀ e,es[j]?=some e->eq k e.key=some false)/\l=es.eraseIdx i:=by
 intro es
 induction es with
 | nil=>intro l hl;cases hl;exact .inl ⟨rfl,rfl⟩
 | cons e es ih =>
  intro l hl
  have hl:(Option.rec (motive:=fun _=>Option (List MEnt)) none (fun b=>Bool.rec (motive:=fun _=>Option (List MEnt)) (Option.rec (motive:=fun _=>Option (List MEnt)) none (fun l=>some (e::l)) (delE eq k es)) (some es) b) (eq k e.key):Option (List MEnt))=some l:=hl
  have hf:findE eq k (e::es)=(Option.rec (motive:=fun _=>Option (Option AV)) none (fun b=>Bool.rec (motive:=fun _=>Option (Option AV)) (findE eq k es) (some (some e.val)) b) (eq k e.key):Option (Option AV)):=rfl
  cases hq:eq k e.key with
  | none=>rw [hq] at hl;cases hl
  | some q =>
   rw [hq] at hl hf
   cases q with
   | true=>cases hl;exact .inr ⟨0,e,rfl,hf,hq,fun j hj=>absurd hj (Nat.not_lt_zero _),rfl⟩
   | false =>
    cases hd:delE eq k es with
    | none=>rw [hd] at hl;cases hl
    | some l' =>
     rw [hd] at hl;cases hl
     rcases ih hd with ⟨h1,rfl⟩|⟨i,e1,h1,h3,h4,h5,rfl⟩
     ·exact .inl ⟨hf.trans h1,rfl⟩
     ·refine .inr ⟨i+1,e1,by simpa using h1,hf.trans h3,h4,fun j hj e0 h0=>?_,rfl⟩
      cases j with
      | zero=>simp at h0;subst h0;exact hq
      | succ j=>exact h5 j (by omega) e0 (by simpa using h0)
theorem first_eq {q:MEnt->Option Bool} {es:List MEnt} {i j:Nat} {e f:MEnt} (hi:es[i]?=some e) (hj:es[j]?=some f) (he:q e=some true) (hf:q f=some true)
  (bi:∀ k,k<i->∀ e,es[k]?=some e->q e=some false) (bj:∀ k,k<j->∀ e,es[k]?=some e->q e=some false):i=j:=by
 rcases Nat.lt_trichotomy i j with hlt | heq | hlt
 ·have:=bj i hlt e hi;rw [he] at this;cases this
 ·exact heq
 ·have:=bi j hlt f hj;rw [hf] at this;cases this
theorem HR.setMap (hr:HR P keep ρ h w) {bk:Nat} {es es':List MEnt} {c c':Nat} {l l':Array MapEntry} (hb:h.bs.gt bk=some (.map es c)) {p:Pl} (hp:ρ bk=some p) (h0:p.off=0) (hh:w.heap[p.blk]?=some (.map l c))
  (he:ERs ρ es' l'.toList):Post P keep ρ h w ρ (h.put bk (.map es' c')) { w with heap:=w.heap.setIfInBounds p.blk (.map l' c') }:=by
 have hlt:=(Array.getElem?_eq_some_iff.1 hh).1
 refine hr.write hb rfl rfl hp rfl rfl (by simp) (fun k hk=>?_) ⟨p,l',hp,h0,?_,he⟩
 ·show (w.heap.setIfInBounds p.blk _)[k]?=_
  rw [Array.getElem?_setIfInBounds,if_neg (fun e=>hk e.symm)]
 ·show (w.heap.setIfInBounds p.blk _)[p.blk]?=_
  rw [Array.getElem?_setIfInBounds,if_pos rfl,if_pos hlt]
theorem modify_toList {α : Type} (a:Array α) (i:Nat) (f:α->α) {x:α} (h:a[i]?=some x):(a.modify i f).toList=a.toList.set i (f x):=by
 apply List.ext_getElem?
 intro j
 rw [Array.getElem?_toList,Array.getElem?_modify,List.getElem?_set]
 by_cases e:i=j
 ·subst e
  have hlt:i<a.toList.length:=by simpa using (Array.getElem?_eq_some_iff.1 h).1
  rw [if_pos rfl,if_pos rfl,if_pos hlt,h];rfl
 ·rw [if_neg e,if_neg e,Array.getElem?_toList]
theorem erase_toList {α : Type} (a:Array α) (i:Nat):(a.eraseIdxIfInBounds i).toList=a.toList.eraseIdx i:=by
 unfold Array.eraseIdxIfInBounds
 split
 ·simp
 ·rename_i hn
  rw [List.eraseIdx_of_length_le (by simpa using hn)]
theorem mapUpd_sound {t:TypeId} {m k v:AV} {q:AV×Heap} (hr:HR P keep ρ h w) (hq:mapUpd P t m k v h=some q) {a b c:Value} (hm:VR ρ m a) (hk:VR ρ k b) (hv:VR ρ v c) :
  q.1=undefA/\DoesU P keep w ρ h (Instr.mapUpdate t a b c) q.2:=by
 unfold mapUpd at hq
 cases hu:P.underlying t with
 | none=>rw [hu] at hq;cases hq
 | some d =>
  rw [hu] at hq
  cases d with
  | map kt e =>
   obtain ⟨hok,hq⟩:=iff'_some.1 hq
   cases m with
   | map o =>
    cases o with
    | none=>cases hq
    | some bk =>
     obtain ⟨es,cl,hb,hq⟩:=theMap_some hq
     obtain ⟨p,es',hp,h0,hh,he⟩:=hr.blk _ _ hb
     obtain ⟨p',hp',_,rfl⟩:=hm
     rw [hp] at hp';cases hp'
     cases hup:updE (keyEq P kt) k v es with
     | none=>rw [hup] at hq;cases hq
     | some o =>
      rw [hup] at hq
      have hs:=updE_spec hup
      cases o with
      | none =>
       cases hq
       obtain ⟨o,g1,g2,_⟩:=findKey_sound (w:=w) hok hk hs he
       subst g2
       refine ⟨rfl,ρ,_,?_,hr.setMap (l':=es'.push ⟨b,c,cl⟩) (c':=cl+1) hb hp h0 hh ?_⟩
       ·simp only [Instr.mapUpdate,Sem.run_bind,run_underlying hu,Result.andThen_ok,run_getMap hh,checkKey_sound hok hk,g1,run_setMap hh]
       ·rw [app'_eq,Array.toList_push]
        exact he.snoc ⟨hk,hv,rfl⟩
      | some l =>
       cases hq
       obtain ⟨i,e1,h1,hke,h3,h4,h5,rfl⟩:=hs
       obtain ⟨o,g1,i',e2,e2',rfl,g3,g4,g5,g6,g7,g8⟩:=findKey_sound (w:=w) hok hk h3 he
       obtain rfl:i'=i:=first_eq (q:=fun e=>keyEq P kt k e.key) g3 h1 g7 h4 g8 h5
       rw [h1] at g3;cases g3
       have hget:es'[i']?=some e2':=by rw [← Array.getElem?_toList];exact g4
       have hkey:(Instr.keyThatStays e2'.key b).run P w=.ok b w:=key_stays hok (by rw [hke];exact g6.1) hk
       refine ⟨rfl,ρ,_,?_,hr.setMap (l':=es'.modify i' fun e=>{ e with key:=b,val:=c }) (c':=cl) hb hp h0 hh ?_⟩
       ·simp only [Instr.mapUpdate,Sem.run_bind,run_underlying hu,Result.andThen_ok,run_getMap hh,checkKey_sound hok hk,g1,hget,Option.map_some,Option.getD_some,hkey,run_setMap hh]
       ·rw [modify_toList _ _ _ hget]
        exact he.set i' ⟨hk,hv,g6.2.2⟩
   | _=>cases hq
  | _=>cases hq
theorem mapDel_sound {t ty:TypeId} {ts:Array TypeId} {m k:AV} {q:AV×Heap} (ht:ts[0]?=some t) (hr:HR P keep ρ h w) (hq:mapDel P t m k h=some q) {a b:Value} (hm:VR ρ m a) (hk:VR ρ k b) :
  Does P keep w ρ h (Builtin.delete_ ts ty #[a,b]) q.1 q.2:=by
 unfold mapDel at hq
 cases hu:P.underlying t with
 | none=>rw [hu] at hq;cases hq
 | some d =>
  rw [hu] at hq
  cases d with
  | map kt e =>
   obtain ⟨hok,hq⟩:=iff'_some.1 hq
   cases m with
   | map o =>
    cases o with
    | none =>
     cases hq;cases hm
     refine ⟨ρ,_,w,?_,VR.undef ρ,Post.refl hr⟩
     simp only [Builtin.delete_,ht,List.getElem?_toArray,List.getElem?_cons_zero,List.getElem?_cons_succ,Sem.run_bind,run_underlying hu,Result.andThen_ok,checkKey_sound hok hk,Sem.run_pure]
     rfl
    | some bk =>
     obtain ⟨es,cl,hb,hq⟩:=theMap_some hq
     obtain ⟨p,es',hp,h0,hh,he⟩:=hr.blk _ _ hb
     obtain ⟨p',hp',_,rfl⟩:=hm
     rw [hp] at hp';cases hp'
     cases hd:delE (keyEq P kt) k es with
     | none=>rw [hd] at hq;cases hq
     | some l =>
      rw [hd] at hq;cases hq
      rcases delE_spec hd with ⟨hs,rfl⟩|⟨i,e1,h1,h3,h4,h5,rfl⟩
      ·obtain ⟨o,g1,g2,_⟩:=findKey_sound (w:=w) hok hk hs he
       subst g2
       refine ⟨ρ,_,_,?_,VR.undef ρ,hr.setMap (l':=es') (c':=cl) hb hp h0 hh he⟩
       simp only [Builtin.delete_,ht,List.getElem?_toArray,List.getElem?_cons_zero,List.getElem?_cons_succ,Sem.run_bind,run_underlying hu,Result.andThen_ok,run_getMap hh,checkKey_sound hok hk,g1,run_setMap hh,Sem.run_pure]
       rfl
      ·obtain ⟨o,g1,i',e2,e2',rfl,g3,g4,g5,g6,g7,g8⟩:=findKey_sound (w:=w) hok hk h3 he
       obtain rfl:i'=i:=first_eq (q:=fun e=>keyEq P kt k e.key) g3 h1 g7 h4 g8 h5
       refine ⟨ρ,_,_,?_,VR.undef ρ,hr.setMap (l':=es'.eraseIdxIfInBounds i') (c':=cl) hb hp h0 hh ?_⟩
       ·simp only [Builtin.delete_,ht,List.getElem?_toArray,List.getElem?_cons_zero,List.getElem?_cons_succ,Sem.run_bind,run_underlying hu,Result.andThen_ok,run_getMap hh,checkKey_sound hok hk,g1,run_setMap hh,Sem.run_pure]
        rfl
       ·rw [erase_toList];exact he.eraseIdx i'
   | _=>cases hq
  | _=>cases hq
theorem new_eq {id:Nat} (hid:h.next<=id) (x:Blk):h.new id x=⟨h.bs.up (some x) id,id+1⟩:=by
 unfold Heap.new
 rw [Nat.ble_eq_true_of_le hid]
theorem rangeS_sound {t:TypeId} {x:AV} {id:Nat} {q:AV×Heap} (hid:h.next<=id) (hr:HR P keep ρ h w) (hq:rangeS P t x id h=some q) {a:Value} (hx:VR ρ x a):Does P keep w ρ h (Instr.range t a) q.1 q.2:=by
 unfold rangeS at hq
 split at hq
 ·rename_i _ s hu
  cases hq
  obtain ⟨sb,rfl,hs⟩:=hx
  refine ⟨ρ.up id ⟨w.heap.size,0,0⟩,_,_,run_range_string w t sb hu,⟨_,Pls.up_same _ _ _,rfl⟩,?_⟩
  rw [new_eq hid]
  refine hr.push (o:=.stringIter sb 0) hid (by omega) rfl rfl rfl ⟨_,sb,Pls.up_same _ _ _,rfl,?_,hs⟩
  show (w.heap.push _)[w.heap.size]?=_
  simp
 ·cases hq
theorem nextS_sound {ty:TypeId} {it:AV} {q:AV×Heap} (hr:HR P keep ρ h w) (hq:nextS it h=some q) {a:Value} (hx:VR ρ it a):Does P keep w ρ h (Instr.next a true ty) q.1 q.2:=by
 unfold nextS at hq
 split at hq
 ·rename_i b
  obtain ⟨s,pos,hb,hq⟩:=theIter_some hq
  obtain ⟨p,sb,hp,h0,hh,hs⟩:=hr.blk _ _ hb
  obtain ⟨p',hp',rfl⟩:=hx
  rw [hp] at hp';cases hp'
  rw [h0]
  have hlen:sb.size=s.length:=by rw [size_bytes,hs]
  have hlt:=(Array.getElem?_eq_some_iff.1 hh).1
  cases hc:s[pos]? with
  | none =>
   rw [hc] at hq;cases hq
   have hge:s.length<=pos:=List.getElem?_eq_none_iff.1 hc
   exact ⟨ρ,_,w,Lib.run_next_end_at w p.blk sb pos ty hh (by omega),⟨_,rfl,.bool false,[],rfl,rfl,rfl⟩,Post.refl hr⟩
  | some c =>
   rw [hc] at hq
   simp only at hq
   by_cases h128:c<128
   ·rw [if_pos h128] at hq
    cases hq
    have hpos:pos<sb.size:=by rw [hlen];exact (List.getElem?_eq_some_iff.1 hc).1
    have hcv:(sb[pos]'hpos).toNat=c:=by
     rw [← hs] at hc
     simp only [List.getElem?_map,Option.map_eq_some_iff] at hc
     obtain ⟨u,h1,h2⟩:=hc
     rw [Array.getElem?_toList] at h1
     have h3:sb.data[pos]?=some (sb[pos]'hpos):=Array.getElem?_eq_getElem hpos
     rw [h1] at h3;cases h3;exact h2
    refine ⟨ρ,_,_,Lib.run_next_ascii_at w p.blk sb pos ty hh hpos (by omega),?_,?_⟩
    ·exact ⟨_,rfl,_,_,rfl,rfl,_,_,rfl,rfl,_,_,rfl,by rw [hcv];rfl,rfl⟩
    ·refine hr.write hb rfl rfl hp rfl rfl ?_ (fun k hk=>?_) ⟨p,sb,hp,h0,Lib.iterAt_heap w _ sb pos _ hh,hs⟩
     ·simp [World.iterAt]
     ·simp only [World.iterAt]
      rw [Array.getElem?_setIfInBounds,if_neg (fun e=>hk e.symm)]
   ·rw [if_neg h128] at hq;cases hq
 ·cases hq
end
end Go.Am
namespace Go.Am
section
variable {P:Program} {keep:Keeps} {w:World} {ρ : Pls} {h:Heap}
theorem cell_same {w w2:World} (hw:w2.heap=w.heap) (a:Addr):w2.cell? a=w.cell? a:=by simp only [World.cell?,hw]
theorem srcOf_sound {size:Nat} {cut:Nat->Nat} {x:AV} {r:List AV×Nat} (hr:HR P keep ρ h w) (hq:srcOf size cut x h=some r) {a:Value} (hx:VR ρ x a) (hcut:∀ n,cut n<=n) :
  ∃ n cs,(Builtin.lenOf a).run P w=.ok n w/\r.2=cut n/\(∀ w2:World,w2.heap=w.heap->(Builtin.firstCells size (cut n) a).run P w2=.ok cs w2)/\VRs ρ r.1 cs.toList:=by
 cases x with
 | str l =>
  cases hq
  obtain ⟨sb,rfl,hs⟩:=hx
  have hlen:len' l=sb.size:=by rw [len'_eq,size_bytes,hs]
  refine ⟨sb.size,_,rfl,by rw [hlen],fun _ _=>rfl,?_⟩
  have:=bytesV_VRs (ρ:=ρ) (sb.extract 0 (cut sb.size))
  rw [take_drop_bytes,hs] at this
  rw [take'_eq,hlen]
  simpa using this
 | slice o n c g =>
  cases o with
  | none =>
   cases hq
   obtain ⟨rfl,_,_,rfl⟩:=hx
   refine ⟨0,#[],rfl,?_,fun _ _=>rfl,rfl⟩
   have:=hcut 0
   show 0=cut 0
   omega
  | some p0 =>
   obtain ⟨bk,off⟩:=p0
   have hq:(Bool.rec (motive:=fun _=>Option (List AV×Nat)) (Option.rec (motive:=fun _=>Option (List AV×Nat)) none (fun vs=>some (vs,cut n)) (h.ld bk off (cut n*size))) (some ([],0)) (Nat.beq n 0):Option (List AV×Nat))=some r:=hq
   by_cases n0:n=0
   ·subst n0
    cases hq
    obtain ⟨p',a',c',hp',rfl,_⟩:=hx
    have h0:cut 0=0:=by have:=hcut 0;omega
    refine ⟨0,#[],rfl,h0.symm,fun _ _=>?_,rfl⟩
    simp only [Builtin.firstCells,h0,Nat.zero_mul];rfl
   rw [show Nat.beq n 0=false from by cases n with | zero=>exact absurd rfl n0 | succ n=>rfl] at hq
   have hq:(Option.rec (motive:=fun _=>Option (List AV×Nat)) none (fun vs=>some (vs,cut n)) (h.ld bk off (cut n*size)):Option (List AV×Nat))=some r:=hq
   cases hl:h.ld bk off (cut n*size) with
   | none=>rw [hl] at hq;cases hq
   | some vs =>
    rw [hl] at hq;cases hq
    obtain ⟨p,cs,hp,hvs,hn,_,hc⟩:=hr.ld hl
    obtain ⟨p',a',c',hp',rfl,hle,_,_,_,ha⟩:=hx
    rw [hp] at hp';cases hp'
    refine ⟨n,cs.toArray,rfl,rfl,fun w2 hw=>?_,by simpa using hvs⟩
    by_cases hc0:c'=0
    ·obtain rfl:n=0:=by omega
     have h0:cut 0=0:=by have:=hcut 0;omega
     rw [h0,Nat.zero_mul] at hn
     have:cs=[]:=List.length_eq_zero_iff.1 hn
     subst this
     simp only [Builtin.firstCells,h0,Nat.zero_mul];rfl
    ·rw [ha hc0]
     exact run_loadRun hn (fun j u hj=>by rw [add_addr,cell_same hw];exact hc j u hj)
 | _=>cases hq
theorem minN_eq (a b:Nat):minN a b=Nat.min a b:=by
 unfold minN
 by_cases h:a<=b
 ·rw [Nat.ble_eq_true_of_le h];exact (Nat.min_eq_left h).symm
 ·have:Nat.ble a b=false:=by cases hb:Nat.ble a b with
   | false=>rfl
   | true=>exact absurd (Nat.le_of_ble_eq_true hb) h
  rw [this];show b=Nat.min a b;exact (Nat.min_eq_right (by omega)).symm
theorem copyS_sound {t ty:TypeId} {ts:Array TypeId} {d x:AV} {q:AV×Heap} (ht:ts[0]?=some t) (hr:HR P keep ρ h w) (hq:copyS P t d x h=some q) {a b:Value} (hd:VR ρ d a) (hx:VR ρ x b) :
  Does P keep w ρ h (Builtin.copy_ ts ty #[a,b]) q.1 q.2:=by
 unfold copyS at hq
 cases hu:P.underlying t with
 | none=>rw [hu] at hq;cases hq
 | some de =>
  rw [hu] at hq
  cases de with
  | slice e =>
   cases hs:tSize P e with
   | none=>simp only [hs] at hq;cases hq
   | some size =>
    simp only [hs] at hq
    obtain ⟨o,len,c,g,e0,hq0⟩:=eSlice_some hq
    subst e0
    replace hq:=hq0
    cases hsrc:srcOf size (fun n=>minN n len) x h with
    | none=>rw [hsrc] at hq;cases hq
    | some src =>
     rw [hsrc] at hq
     obtain ⟨n,cs,g1,g2,g3,g4⟩:=srcOf_sound hr hsrc hx (fun n=>by rw [minN_eq];exact Nat.min_le_left _ _)
     replace g3:=g3 w rfl
     simp only [minN_eq] at g2 g3
     cases o with
     | none =>
      cases hq
      obtain ⟨rfl,_,_,rfl⟩:=hd
      refine ⟨ρ,_,w,?_,by rw [g2];exact rfl,Post.refl hr⟩
      simp only [Builtin.copy_,ht,List.getElem?_toArray,List.getElem?_cons_zero,List.getElem?_cons_succ,Sem.run_bind,run_underlying hu,Result.andThen_ok,g1,run_sizeT hs,g3,Sem.run_pure]
      rfl
     | some p0 =>
      obtain ⟨bk,off⟩:=p0
      obtain ⟨h',hst,rfl⟩:=stAs_some hq
      obtain ⟨p,w',hp,hrun,hpost⟩:=hr.sto hst g4
      obtain ⟨p',a',c',hp',rfl,hle,_,_,_,ha⟩:=hd
      rw [hp] at hp';cases hp'
      have hlen:=g4.length
      by_cases hc0:c'=0
      ·obtain rfl:len=0:=by omega
       have hn0:Nat.min n 0=0:=Nat.min_eq_right (Nat.zero_le _)
       
       have hcs:cs.toList=[]:=by
        rw [hn0] at g3
        have hsz:src.1=[]:=by
         cases x with
         | str l =>
          cases hsrc
          show bytesV (take' (minN (len' l) 0) l)=[]
          rw [minN_eq,show Nat.min (len' l) 0=0 from Nat.min_eq_right (Nat.zero_le _)];rfl
         | slice o n c g =>
          cases o with
          | none=>cases hsrc;rfl
          | some p1 =>
           have hsrc:(Bool.rec (motive:=fun _=>Option (List AV×Nat)) (Option.rec (motive:=fun _=>Option (List AV×Nat)) none (fun vs=>some (vs,minN n 0)) (h.ld p1.1 p1.2 (minN n 0*size))) (some ([],0)) (Nat.beq n 0):Option (List AV×Nat))=some src:=hsrc
           by_cases n0:n=0
           ·subst n0;cases hsrc;rfl
           rw [show Nat.beq n 0=false from by cases n with | zero=>exact absurd rfl n0 | succ n=>rfl] at hsrc
           have hsrc:(Option.rec (motive:=fun _=>Option (List AV×Nat)) none (fun vs=>some (vs,minN n 0)) (h.ld p1.1 p1.2 (minN n 0*size)):Option (List AV×Nat))=some src:=hsrc
           cases hl:h.ld p1.1 p1.2 (minN n 0*size) with
           | none=>rw [hl] at hsrc;cases hsrc
           | some vs =>
            rw [hl] at hsrc;cases hsrc
            obtain ⟨_,_,_,_,_,_,hv,_⟩:=ld_some hl
            rw [minN_eq,show Nat.min n 0=0 from Nat.min_eq_right (Nat.zero_le _),Nat.zero_mul] at hv
            exact List.length_eq_zero_iff.1 hv
         | _=>cases hsrc
        rw [hsz] at hlen
        exact List.length_eq_zero_iff.1 hlen.symm
       rw [hcs] at hrun
       cases hrun
       refine ⟨ρ,_,w,?_,by rw [g2];exact rfl,hpost⟩
       simp only [Builtin.copy_,ht,List.getElem?_toArray,List.getElem?_cons_zero,List.getElem?_cons_succ,Sem.run_bind,run_underlying hu,Result.andThen_ok,g1,run_sizeT hs,g3,hcs,Sem.run_pure]
       rfl
      ·rw [ha hc0]
       refine ⟨ρ,_,w',?_,by rw [g2];exact rfl,hpost⟩
       simp only [Builtin.copy_,ht,List.getElem?_toArray,List.getElem?_cons_zero,List.getElem?_cons_succ,Sem.run_bind,run_underlying hu,Result.andThen_ok,g1,run_sizeT hs,g3,hrun,Sem.run_pure]
       rfl
  | _=>cases hq
theorem zeroCells_VRs {zs:List AV} {za:Array Value} (hz:VRs ρ zs za.toList) (len:Nat):VRs ρ (List.replicate len zs).flatten (Builtin.zeroCells za len).toList:=by
 have hl:za.size=zs.length:=by have:=hz.length;simpa using this.symm
 have:=zeros_get hz len
 unfold Builtin.zeroCells
 rw [hl]
 rw [hl] at this
 simpa using this
theorem clearS_sound {t ty:TypeId} {ts:Array TypeId} {d:AV} {q:AV×Heap} (ht:ts[0]?=some t) (hr:HR P keep ρ h w) (hq:clearS P t d h=some q) {a:Value} (hd:VR ρ d a) :
  Does P keep w ρ h (Builtin.clear_ ts ty #[a]) q.1 q.2:=by
 unfold clearS at hq
 cases hu:P.underlying t with
 | none=>rw [hu] at hq;cases hq
 | some de =>
  rw [hu] at hq
  cases de with
  | slice e =>
   cases hz:tZero P e with
   | none=>simp only [hz] at hq;cases hq
   | some z =>
    simp only [hz] at hq
    obtain ⟨o,len,c,g,e0,hq0⟩:=eSlice_some hq
    subst e0
    replace hq:=hq0
    obtain ⟨zv,rz,vz⟩:=run_zeroT (w:=w) (ρ:=ρ) hz
    cases o with
    | none =>
     cases hq
     obtain ⟨rfl,_,_,rfl⟩:=hd
     refine ⟨ρ,_,w,?_,VR.undef ρ,Post.refl hr⟩
     simp only [Builtin.clear_,ht,List.getElem?_toArray,List.getElem?_cons_zero,Sem.run_bind,run_underlying hu,Result.andThen_ok,Sem.run_pure]
     rfl
    | some p0 =>
     obtain ⟨bk,off⟩:=p0
     obtain ⟨h',hst,rfl⟩:=stAs_some hq
     rw [rep'_eq] at hst
     obtain ⟨p,w',hp,hrun,hpost⟩:=hr.sto hst (zeroCells_VRs vz.cells len)
     obtain ⟨p',a',c',hp',rfl,hle,_,_,_,ha⟩:=hd
     rw [hp] at hp';cases hp'
     cases len with
     | zero =>
      have h0:(Builtin.zeroCells zv.cells 0).toList=[]:=by simp [Builtin.zeroCells]
      rw [h0] at hrun;cases hrun
      refine ⟨ρ,_,w,?_,VR.undef ρ,hpost⟩
      simp only [Builtin.clear_,ht,List.getElem?_toArray,List.getElem?_cons_zero,Sem.run_bind,run_underlying hu,Result.andThen_ok,Sem.run_pure]
      rfl
     | succ n =>
      have hc0:c'≠0:=by omega
      rw [ha hc0]
      refine ⟨ρ,_,w',?_,VR.undef ρ,hpost⟩
      simp only [Builtin.clear_,ht,List.getElem?_toArray,List.getElem?_cons_zero,Sem.run_bind,run_underlying hu,Result.andThen_ok,rz,hrun,Sem.run_pure]
      rfl
  | map kt e =>
   cases d with
   | map o =>
    cases o with
    | none =>
     cases hq;cases hd
     refine ⟨ρ,_,w,?_,VR.undef ρ,Post.refl hr⟩
     simp only [Builtin.clear_,ht,List.getElem?_toArray,List.getElem?_cons_zero,Sem.run_bind,run_underlying hu,Result.andThen_ok,Sem.run_pure]
     rfl
    | some bk =>
     obtain ⟨es,cl,hb,hq⟩:=theMap_some hq
     cases hq
     obtain ⟨p,es',hp,h0,hh,he⟩:=hr.blk _ _ hb
     obtain ⟨p',hp',_,rfl⟩:=hd
     rw [hp] at hp';cases hp'
     refine ⟨ρ,_,_,?_,VR.undef ρ,hr.setMap (l':=#[]) (c':=cl) hb hp h0 hh rfl⟩
     simp only [Builtin.clear_,ht,List.getElem?_toArray,List.getElem?_cons_zero,Sem.run_bind,run_underlying hu,Result.andThen_ok,run_getMap hh,run_setMap hh,Sem.run_pure]
     rfl
   | _=>cases hq
  | _=>cases hq
end
end Go.Am
namespace Go.Am
section
variable {P:Program} {keep:Keeps} {w:World} {ρ : Pls} {h:Heap}
theorem HR.kill (hr:HR P keep ρ h w) {b:Nat} {x:Blk} (hb:h.bs.gt b=some x):Post P keep ρ h w ρ (h.put b .dead) w:=by
 refine ⟨Pls.le_refl _,⟨hr.dom,fun c z hz=>?_,fun c z hz=>?_,fun c c' z z' q q' hz hz' hd hd' hrw hq hq' hne=>?_⟩,⟨rfl,rfl,Nat.le_refl _,fun _ _ _=>rfl⟩,fun k _ ho=>?_,Nat.le_refl _,fun _ _ h _=>h,fun k _ ho=>?_⟩
 ·rw [put_get] at hz
  by_cases e:c=b
  ·subst e;exact hr.has _ _ hb
  ·rw [if_neg e] at hz;exact hr.has _ _ hz
 ·rw [put_get] at hz
  by_cases e:c=b
  ·rw [if_pos e] at hz;cases hz;trivial
  ·rw [if_neg e] at hz;exact hr.blk _ _ hz
 ·rw [put_get] at hz hz'
  by_cases e:c=b
  ·rw [if_pos e] at hz;cases hz;cases hd
  ·by_cases e':c'=b
   ·rw [if_pos e'] at hz';cases hz';cases hd'
   ·rw [if_neg e] at hz;rw [if_neg e'] at hz'
    exact hr.inj c c' z z' q q' hz hz' hd hd' hrw hq hq' hne
 ·obtain ⟨c,z,q,hz,hzr,hq,rfl⟩:=ho
  rw [put_get] at hz
  by_cases e:c=b
  ·rw [if_pos e] at hz;cases hz;cases hzr
  ·rw [if_neg e] at hz;exact ⟨c,z,q,hz,hzr,hq,rfl⟩
 ·obtain ⟨c,z,q,hz,hzr,hq,rfl⟩:=ho
  rw [put_get] at hz
  by_cases e:c=b
  ·rw [if_pos e] at hz;cases hz;cases hzr
  ·rw [if_neg e] at hz;exact ⟨c,z,q,hz,hzr,hq,rfl⟩
def Row (ρ : Pls) (y:Blk) (N:Nat) (row:Array Value) (o:Nat):Prop :=
 ∃ t z,y=.cells t z N false/\∀ i,i<N->∃ v cv,cellAt t z i=some v/\v.one=true/\row[o+i]?=some cv/\VR ρ v cv
def BMark (y:Blk) (e:TypeId):Prop:=∀ t z n ro,y=.cells t z n ro->∀ k x,z=tyMark k x->e=k/\x=false
theorem BMark.ok {t:Tr AV} {z:List AV} {n:Nat} {ro:Bool} {e:TypeId} {p:Pl} (h:BMark (.cells t z n ro) e):MarkOk z n p e:=fun k x hz=>by
 obtain ⟨a,b⟩:=h _ _ _ _ rfl k x hz
 exact ⟨a,fun hx=>by rw [b] at hx;cases hx⟩
theorem tyMark_inj {k k':Nat} {x x':Bool} (h:tyMark k x=tyMark k' x'):k=k'/\x=x':=by
 simp only [tyMark,List.cons.injEq,AV.tuple.injEq,AV.int.injEq,AV.bool.injEq,and_true,true_and] at h
 exact ⟨Int.ofNat_inj.1 h.1,h.2⟩
theorem bmark_new {t:Tr AV} {n:Nat} {ro:Bool} {e:TypeId}:BMark (.cells t (tyMark e false) n ro) e:=fun t' z n' ro' h k x hz=>by
 cases h
 obtain ⟨a,b⟩:=tyMark_inj hz
 exact ⟨a,b.symm⟩
theorem fitsZ_mark {e k:Nat} {x:Bool} (h:fitsZ e (tyMark k x)=true):e=k/\x=false:=by
 have h:(Bool.rec (motive:=fun _=>Bool) (Nat.beq k e) false x:Bool)=true:=h
 cases x with
 | true=>cases h
 | false=>exact ⟨(Nat.eq_of_beq_eq_true h).symm,rfl⟩
theorem zKeep_mark {z:List AV} {k:Nat} {x:Bool} (h:zKeep z=tyMark k x):z=tyMark k x:=by
 unfold zKeep at h
 cases hm:markOf z with
 | none=>rw [hm] at h;cases h
 | some p=>rw [hm] at h;exact h
theorem Row.of {cs z:List AV} {cvs:List Value} {row:Array Value} {o:Nat} (hv:VRs ρ cs cvs) (hone:allOne cs=true) (hrow:∀ i,i<cs.length->row[o+i]?=cvs[i]?):Row ρ (.cells (fillC cs .leaf 0) z (len' cs) false) cs.length row o:=by
 rw [len'_eq]
 rw [allOne_eq,List.all_eq_true] at hone
 refine ⟨_,_,rfl,fun i hi=>?_⟩
 obtain ⟨u,h1,h2⟩:=hv.get i cs[i] (List.getElem?_eq_getElem hi)
 refine ⟨cs[i],u,?_,hone _ (List.getElem_mem hi),by rw [hrow i hi,h1],h2⟩
 unfold cellAt
 rw [gt_fillC,if_pos (by omega),Nat.sub_zero,List.getElem?_eq_getElem hi]
theorem app_row (hr:HR P keep ρ h w) {id:Nat} (hid:h.next<=id) {y:Blk} {N:Nat} {row:Array Value} {e:TypeId} (hy:Row ρ y N row 0) (hmk:BMark y e) {need cap size:Nat} (hneed:need<=cap) (hN:N<=row.size) (hsz:row.size=cap*size) :
  Post P keep ρ h w (ρ.up id ⟨w.heap.size,0,cap*size⟩) (h.new id y) (w.drew.alloc (.cells row e)) /\
   VR (ρ.up id ⟨w.heap.size,0,cap*size⟩) (.slice (some (id,0)) need need (some size)) (.slice (some ⟨w.heap.size,0,none⟩) need cap):=by
 have f1:=(hr.fresh hid).1
 refine ⟨?_,⟨_,_,_,Pls.up_same _ _ _,rfl,hneed,hneed,(fun e=>by cases e),(fun es e=>by cases e;simp),fun _=>by simp⟩⟩
 rw [new_eq hid]
 obtain ⟨t,z,rfl,hv⟩:=hy
 refine hr.push (w':=w.drew.alloc (.cells row e)) (o:=.cells row e) hid (by omega) rfl rfl rfl ?_
 refine ⟨_,row,e,(0,0),Pls.up_same _ _ _,?_,hsz,by simp only [Nat.zero_add];omega,fun i hi=>?_,fun _ i _ hh=>by simp at hh,hmk.ok⟩
 ·show (w.heap.push _)[w.heap.size]?=_
  simp
 ·obtain ⟨v,cv,h1,h2,h3,h4⟩:=hv i hi
  exact ⟨v,cv,h1,h2,h3,h4.mono (Pls.le_up f1)⟩
theorem run_append_in {t u e ty:TypeId} {ts:Array TypeId} {d:TypeDesc} {size:Nat} (ht:ts[0]?=some t) (hu:P.underlying t=some (.slice e)) (hs:tSize P e=some size) (ht1:ts[1]?=some u) (hu1:P.underlying u=some d) (hint:∀ k,d≠.int k)
  {base:Option Addr} {sLen sCap n:Nat} {x:Value} {cs:Array Value} (hx:(Builtin.lenOf x).run P w=.ok n w) (hc:(Builtin.firstCells size n x).run P w=.ok cs w) (hle:sLen+n<=sCap)
  {w':World} (hst:match base with | some a=>(storeCells (a.add (sLen*size)) cs.toList).run P w=.ok () w' | none=>w'=w) :
  (Builtin.append_ ts ty #[.slice base sLen sCap,x]).run P w=.ok (.slice base (sLen+n) sCap) w':=by
 simp only [Builtin.append_,ht,ht1,List.getElem?_toArray,List.getElem?_cons_zero,List.getElem?_cons_succ,Sem.run_bind,run_underlying hu,run_underlying hu1,Result.andThen_ok,run_sizeT hs,Sem.run_pure]
 simp only [Bool.false_eq_true,if_false,Bool.not_false,if_true,hx,Result.andThen_ok,if_pos hle,Sem.run_bind,hc]
 cases base with
 | none=>simp only at hst;subst hst;rfl
 | some a=>simp only [Sem.run_bind,hst,Result.andThen_ok,Sem.run_pure]
theorem run_append_out {t u e ty:TypeId} {ts:Array TypeId} {d:TypeDesc} {i:TypeInfo} {z:Value} (ht:ts[0]?=some t) (hu:P.underlying t=some (.slice e)) (hi:P.info? e=some i) (hz0:i.zero=some z) (ht1:ts[1]?=some u) (hu1:P.underlying u=some d) (hint:∀ k,d≠.int k)
  {base:Option Addr} {sLen sCap n:Nat} {x:Value} {co cs:Array Value} (hx:(Builtin.lenOf x).run P w=.ok n w) (hc:(Builtin.firstCells i.size n x).run P w.drew=.ok cs w.drew) (ho:(Builtin.firstCells i.size sLen (.slice base sLen sCap)).run P w.drew=.ok co w.drew)
  (hle:¬sLen+n<=sCap) (h63:((sLen+n:Nat):Int)<=9223372036854775807) (hfit:Builtin.nextslicecap (sLen+n) sCap*i.bytes<=281474976710656) :
  (Builtin.append_ ts ty #[.slice base sLen sCap,x]).run P w =
   .ok (.slice (some ⟨w.heap.size,0,none⟩) (sLen+n) (grownCap w (sLen+n) sCap e)) (w.drew.alloc (.cells (co++cs++Builtin.zeroCells z.cells (grownCap w (sLen+n) sCap e - (sLen+n))) e)):=by
 have h63':¬(9223372036854775807<((sLen:Int)+(n:Int))):=by omega
 have h48':¬(281474976710656<Builtin.nextslicecap (sLen+n) sCap*i.bytes):=by omega
 simp [Builtin.append_,ht,ht1,run_underlying hu,run_underlying hu1,sizeOf,typeInfo,zeroValue,hi,hz0,hx,hle,h63',h48',Question.forced,ho,hc,newRow,grownCap]
theorem le_grownCap {need old:Nat} {e:TypeId} (h:old<need):need<=grownCap w need old e:=by
 unfold grownCap
 simp only [Question.cut]
 have:=le_nextslicecap h
 omega
theorem appNew_some {size need id:Nat} {cs z:List AV} {q:AV×Heap} (hq:appNew size need z id h cs=some q):allOne cs=true/\q=(.slice (some (id,0)) need need (some size),h.new id (.cells (fillC cs .leaf 0) z (len' cs) false)):=by
 obtain ⟨h1,h2⟩:=iff'_some.1 hq
 cases h2;exact ⟨h1,rfl⟩
def Onto (y:Blk) (tr:Tr AV) (z:List AV) (off L:Nat) (vs:List AV):Prop :=
 ∃ t' z',y=.cells t' z' (L+vs.length) false/\(∀ i,i<L->cellAt t' z' i=cellAt tr z (off+i))/\∀ i,i<vs.length->cellAt t' z' (L+i)=vs[i]?
theorem Onto.row {tr:Tr AV} {z:List AV} {off L m:Nat} {vs old z0:List AV} {ro:Bool} {bk:Nat} (hl:h.ld bk off L=some old) (hb:h.bs.gt bk=some (.cells tr z m ro)):off+L<=m/\old.length=L/\Onto (.cells (fillC (old++vs) .leaf 0) z0 (len' (old++vs)) false) tr z off L vs:=by
 obtain ⟨tr',z',m',ro',hb',hle,hlen,hv⟩:=ld_some hl
 rw [hb] at hb';cases hb'
 refine ⟨hle,hlen,?_⟩
 rw [len'_eq]
 refine ⟨fillC (old++vs) .leaf 0,z0,by rw [List.length_append,hlen],fun i hi=>?_,fun i hi=>?_⟩
 ·rw [hv i hi]
  have hget:(old++vs)[i]?=some old[i]:=by rw [List.getElem?_append_left (by omega)];exact List.getElem?_eq_getElem (by omega)
  unfold cellAt
  rw [gt_fillC,if_pos (by simp only [List.length_append];omega),Nat.sub_zero,hget,List.getElem?_eq_getElem (show i<old.length by omega)]
 ·have hget:(old++vs)[L+i]?=some vs[i]:=by rw [List.getElem?_append_right (by omega),hlen,Nat.add_sub_cancel_left];exact List.getElem?_eq_getElem hi
  unfold cellAt
  rw [gt_fillC,if_pos (by simp only [List.length_append];omega),Nat.sub_zero,hget,List.getElem?_eq_getElem hi]
theorem appDead_some {size need e off len n bk id:Nat} {vs:List AV} {q:AV×Heap} (hq:appDead size need e off len n vs bk id h=some q) (hn:vs.length=n*size) :
  ∃ tr z m y,h.bs.gt bk=some (.cells tr z m false)/\allOne vs=true/\off+len*size<=m/\Onto y tr z off (len*size) vs/\BMark y e/\(∀ e0,(∀ k x,z=tyMark k x->e0=k)->BMark y e0)/\q=(.slice (some (id,0)) need need (some size),(h.put bk .dead).new id y):=by
 obtain ⟨tr,z,m,ro,hb,hq1⟩:=cells_some hq
 obtain ⟨h1,hq2⟩:=iff'_some.1 hq1
 clear hq hq1
 simp only [and'_eq,notB_eq,Bool.and_eq_true,Bool.not_eq_true'] at h1
 obtain ⟨⟨rfl,hone⟩,hfit⟩:=h1
 have hfz:∀ k x,z=tyMark k x->e=k/\x=false:=fun k x hz=>by subst hz;exact fitsZ_mark hfit
 refine ⟨tr,z,m,?_⟩
 cases hc:and' (Nat.beq off 0) (Nat.beq (len*size) m) with
 | true =>
  have hq:(Bool.rec (motive:=fun _=>Option (AV×Heap)) _ (some (.slice (some (id,0)) need need (some size),(h.put bk .dead).new id (.cells (fillC vs tr m) z (m+n*size) false))) (and' (Nat.beq off 0) (Nat.beq (len*size) m)):Option (AV×Heap))=some q:=hq2
  rw [hc] at hq
  simp only [and'_eq,Bool.and_eq_true] at hc
  obtain ⟨h0,hm⟩:=hc
  obtain rfl:=Nat.eq_of_beq_eq_true h0
  have hm:=Nat.eq_of_beq_eq_true hm
  cases hq
  refine ⟨_,hb,hone,by omega,⟨_,_,by rw [hm,hn],fun i hi=>?_,fun i hi=>?_⟩,fun t z' n' ro' hy k x hz=>?_,fun e0 h0 t z' n' ro' hy k x hz=>?_,rfl⟩
  ·unfold cellAt
   rw [gt_fillC,if_neg (by omega),Nat.zero_add]
  ·unfold cellAt
   rw [gt_fillC,if_pos (by omega),show len*size+i - m=i by omega,List.getElem?_eq_getElem hi]
  ·cases hy;exact hfz k x hz
  ·cases hy;exact ⟨h0 k x hz,(hfz k x hz).2⟩
 | false =>
  have hq:(Bool.rec (motive:=fun _=>Option (AV×Heap)) (Option.rec (motive:=fun _=>Option (AV×Heap)) none (fun old=>appNew size need (zKeep z) id (h.put bk .dead) (app' old vs)) (h.ld bk off (len*size))) _ (and' (Nat.beq off 0) (Nat.beq (len*size) m)):Option (AV×Heap))=some q:=hq2
  rw [hc] at hq
  cases hl:h.ld bk off (len*size) with
  | none=>rw [hl] at hq;cases hq
  | some old =>
   rw [hl] at hq
   obtain ⟨_,rfl⟩:=appNew_some hq
   obtain ⟨h2,h3,h4⟩:=Onto.row (vs:=vs) (z0:=zKeep z) hl hb
   refine ⟨_,hb,hone,h2,h4,fun t z' n' ro' hy k x hz=>?_,fun e0 h0 t z' n' ro' hy k x hz=>?_,by rw [app'_eq]⟩
   ·cases hy;exact hfz k x (zKeep_mark hz)
   ·cases hy;exact ⟨h0 k x (zKeep_mark hz),(hfz k x (zKeep_mark hz)).2⟩
theorem Onto.lies (hr:HR P keep ρ h w) {y:Blk} {tr:Tr AV} {z:List AV} {off L m bk:Nat} {vs:List AV} {cvs:List Value} {ro:Bool} (hy:Onto y tr z off L vs) (hb:h.bs.gt bk=some (.cells tr z m ro)) (hle:off+L<=m)
  (hv:VRs ρ vs cvs) (hone:allOne vs=true) {p:Pl} (hp:ρ bk=some p) {row:Array Value} {o:Nat} (hold:∀ i u,i<L->w.cell? ⟨p.blk,p.off+off+i,none⟩=some u->row[o+i]?=some u) (hnew:∀ i,i<vs.length->row[o+L+i]?=cvs[i]?) :
  Row ρ y (L+vs.length) row o:=by
 obtain ⟨t',z',rfl,h1,h2⟩:=hy
 rw [allOne_eq,List.all_eq_true] at hone
 refine ⟨t',z',rfl,fun i hi=>?_⟩
 by_cases hlt:i<L
 ·obtain ⟨p',v,cv,hp',g1,g2,g3,g4⟩:=hr.cell hb (i:=off+i) (by omega)
  rw [hp] at hp';cases hp'
  refine ⟨v,cv,by rw [h1 i hlt];exact g1,g2,hold i cv hlt (by rw [← g3];congr 2;omega),g4⟩
 ·obtain ⟨j,rfl⟩:∃ j,i=L+j:=⟨i - L,by omega⟩
  have hj:j<vs.length:=by omega
  obtain ⟨u,g1,g2⟩:=hv.get j vs[j] (List.getElem?_eq_getElem hj)
  refine ⟨vs[j],u,by rw [h2 j hj];exact List.getElem?_eq_getElem hj,hone _ (List.getElem_mem hj),by rw [← Nat.add_assoc,hnew j hj,g1],g2⟩
theorem run_oldCells (hr:HR P keep ρ h w) {tr:Tr AV} {z:List AV} {off L m bk:Nat} {ro:Bool} (hb:h.bs.gt bk=some (.cells tr z m ro)) (hle:off+L<=m) {p:Pl} (hp:ρ bk=some p) :
  ∃ cs:List Value,cs.length=L/\(loadCells ⟨p.blk,p.off+off,none⟩ L).run P w=.ok cs.toArray w/\∀ i u,i<L->w.cell? ⟨p.blk,p.off+off+i,none⟩=some u->cs[i]?=some u:=by
 obtain ⟨p',c,e,fz,hp',hh,hs,hpm,hv,_⟩:=hr.blk _ _ hb
 rw [hp] at hp';cases hp'
 have hget:∀ i,i<L->(c.extract (p.off+off) (p.off+off+L)).toList[i]?=c[p.off+off+i]?:=fun i hi=>by
  rw [Array.getElem?_toList,Array.getElem?_extract,if_pos (by omega)]
 have hlen:(c.extract (p.off+off) (p.off+off+L)).toList.length=L:=by simp;omega
 refine ⟨(c.extract (p.off+off) (p.off+off+L)).toList,hlen,run_loadRun hlen (fun j u hj=>?_),fun i u hi hu=>?_⟩
 ·have hjl:j<L:=by rw [← hlen];exact (List.getElem?_eq_some_iff.1 hj).1
  rw [add_addr,cell_of_heap hh,← hget j hjl];exact hj
 ·rw [hget i hi,← cell_of_heap hh];exact hu
theorem app_over (hr:HR P keep ρ h w) {bk id m:Nat} {tr:Tr AV} {z:List AV} (hb:h.bs.gt bk=some (.cells tr z m false)) {p:Pl} (hp:ρ bk=some p) (hid:h.next<=id) {w':World} {off:Nat} {y:Blk} {N:Nat}
  {row c:Array Value} {e:TypeId} {fz:Nat×Nat} (hh:w.heap[p.blk]?=some (.cells c e fz)) (hfz:∀ i,i<p.size->¬(fz.1<=i/\i<fz.2)) (hos:w'.os=w.os) (hout:w'.output=w.output) (hheap:w'.heap=w.heap.setIfInBounds p.blk (.cells row e fz))
  (hsz:row.size=p.size) (hN:p.off+off+N<=p.size) (hy:Row ρ y N row (p.off+off)) (hmk:BMark y e) :
  Post P keep ρ h w (ρ.up id ⟨p.blk,p.off+off,p.size⟩) ((h.put bk .dead).new id y) w':=by
 have hk:=hr.kill hb
 have hlt:p.blk<w.heap.size:=(Array.getElem?_eq_some_iff.1 hh).1
 have hold:∀ k,k≠p.blk->w'.heap[k]?=w.heap[k]?:=fun k hne=>by rw [hheap,Array.getElem?_setIfInBounds,if_neg (fun e=>hne e.symm)]
 have hid':(h.put bk .dead).next<=id:=hid
 obtain ⟨f1,f2⟩:=hk.hr.fresh hid'
 have hother:∀ c z q,(h.put bk .dead).bs.gt c=some z->z.dead?=false->ρ c=some q->q.blk≠p.blk:=fun c z q hz hd hq=>by
  rw [put_get] at hz
  by_cases e:c=bk
  ·rw [if_pos e] at hz;cases hz;cases hd
  ·rw [if_neg e] at hz
   exact hr.inj c bk z _ q p hz hb hd rfl (.inr rfl) hq hp e
 have hown:Own ρ h p.blk:=⟨bk,_,p,hb,rfl,hp,rfl⟩
 have hownW:OwnW ρ h p.blk:=⟨bk,_,p,hb,rfl,hp,rfl⟩
 rw [new_eq hid']
 obtain ⟨t',z',rfl,hv⟩:=hy
 refine ⟨Pls.le_up f1,hk.hr.add f1 f2 (by omega) (by omega) hother (fun c z q hz hd hq=>hold _ (hother c z q hz hd hq)) ?_,⟨hos,hout,by rw [hheap];simp,fun k _ ho=>hold k fun e=>ho (e▸hownW)⟩,fun k _ ho=>?_,by show h.next<=id+1;omega,fun c q hc hlt=>by unfold Pls.up at hc;rwa [if_neg (by omega)] at hc,fun k _ ho=>?_⟩
 ·refine ⟨_,row,e,fz,Pls.up_same _ _ _,by rw [hheap,Array.getElem?_setIfInBounds,if_pos rfl,if_pos hlt],hsz,hN,fun i hi=>?_,fun _=>hfz,hmk.ok⟩
  obtain ⟨v,cv,h1,h2,h3,h4⟩:=hv i hi
  exact ⟨v,cv,h1,h2,h3,h4.mono (Pls.le_up f1)⟩
 ·obtain ⟨c,z,q,hz,hzr,hq,rfl⟩:=ho
  simp only [Tr.gt_up] at hz
  by_cases e:c=id
  ·subst e;rw [Pls.up_same] at hq;cases hq;exact hown
  ·rw [if_neg e] at hz
   unfold Pls.up at hq;rw [if_neg e] at hq
   exact hk.own _ ‹_› ⟨c,z,q,hz,hzr,hq,rfl⟩
 ·obtain ⟨c,z,q,hz,hzr,hq,rfl⟩:=ho
  simp only [Tr.gt_up] at hz
  by_cases e:c=id
  ·subst e;rw [Pls.up_same] at hq;cases hq;exact hownW
  ·rw [if_neg e] at hz
   unfold Pls.up at hq;rw [if_neg e] at hq
   exact hk.ownW _ ‹_› ⟨c,z,q,hz,hzr,hq,rfl⟩
theorem tSize_info {e:TypeId} {s:Nat} (hs:tSize P e=some s):∃ i,P.info? e=some i/\i.size=s:=by
 unfold tSize at hs
 cases hi:P.info? e with
 | none=>rw [hi] at hs;cases hs
 | some i=>rw [hi] at hs;cases hs;exact ⟨i,rfl,rfl⟩
theorem room_fits {bs need c':Nat} (hr:room bs need=true) (hc:c'<need):((need:Nat):Int)<=9223372036854775807/\Builtin.nextslicecap need c'*bs<=281474976710656:=by
 unfold room at hr
 simp only [and'_eq,Bool.and_eq_true] at hr
 have h1:=Nat.le_of_ble_eq_true hr.1
 have h2:=Nat.le_of_ble_eq_true hr.2
 have h1:need*bs<=68719476736:=h1
 have h2:need<=68719476736:=h2
 exact ⟨by omega,growslice_fits hc (by omega)⟩
theorem appendS_sound {t u ty:TypeId} {ts:Array TypeId} {du:TypeDesc} {id:Nat} {s x:AV} {q:AV×Heap} (ht:ts[0]?=some t) (ht1:ts[1]?=some u) (hu1:P.underlying u=some du) (hint:∀ k,du≠.int k) (hid:h.next<=id)
  (hr:HR P keep ρ h w) (hq:appendS P t s x id h=some q) {a b:Value} (hs:VR ρ s a) (hx:VR ρ x b):Does P keep w ρ h (Builtin.append_ ts ty #[a,b]) q.1 q.2:=by
 unfold appendS at hq
 cases hu:P.underlying t with
 | none=>rw [hu] at hq;cases hq
 | some d =>
  rw [hu] at hq
  cases d with
  | slice e =>
   cases hsz:tSize P e with
   | none=>simp only [hsz] at hq;cases hq
   | some size =>
    cases size with
    | zero=>simp only [hsz] at hq;cases hq
    | succ k =>
     cases hbt:tBytes P e with
     | none=>simp only [hsz,hbt] at hq;cases hq
     | some bs =>
      cases hz:tZero P e with
      | none=>simp only [hsz,hbt,hz,Option.map_none] at hq;cases hq
      | some z =>
       simp only [hsz,hbt,hz,Option.map_some,Option.getD_some] at hq
       cases hzl:Nat.beq (len' z.cells) (k+1) with
       | false=>rw [hzl] at hq;cases hq
       | true =>
        rw [hzl] at hq
        obtain ⟨o,len,c,g,e0,hq0⟩:=eSlice_some hq
        subst e0
        clear hq
        cases hsrc:srcOf (k+1) (fun n=>n) x h with
        | none=>rw [hsrc] at hq0;cases hq0
        | some src =>
         rw [hsrc] at hq0
         obtain ⟨hc,hq1⟩:=iff'_some.1 hq0
         clear hq0
         simp only [and'_eq,Bool.and_eq_true] at hc
         obtain ⟨hroom,hlen⟩:=hc
         have hlen:src.1.length=src.2*(k+1):=by have:=Nat.eq_of_beq_eq_true hlen;rw [len'_eq] at this;exact this
         have hzl:z.cells.length=k+1:=by have:=Nat.eq_of_beq_eq_true hzl;rwa [len'_eq] at this
         obtain ⟨n,cs,g1,g2,g3,g4⟩:=srcOf_sound hr hsrc hx (fun n=>Nat.le_refl _)
         have g3':=g3 w.drew rfl
         replace g3:=g3 w rfl
         rw [g2] at hlen hroom hq1
         have hcl:=g4.length
         obtain ⟨inf,hi,his⟩:=tSize_info hsz
         have hzv:∃ zv,inf.zero=some zv/\VR ρ z zv:=by
          unfold tZero at hz
          rw [hi] at hz
          simp only [Option.bind_some] at hz
          cases hiz:inf.zero with
          | none=>rw [hiz] at hz;cases hz
          | some zv=>rw [hiz] at hz;exact ⟨zv,rfl,VR.const ρ _ _ hz⟩
         obtain ⟨zv,hiz,vz⟩:=hzv
         have hib:inf.bytes=bs:=by unfold tBytes at hbt;rw [hi] at hbt;simpa using hbt
         have hzc:zv.cells.size=k+1:=by have:=vz.cells.length;rw [hzl] at this;simpa using this.symm
         have hout:∀ {base:Option Addr} {c':Nat} {co:Array Value},(Builtin.firstCells (k+1) len (.slice base len c')).run P w.drew=.ok co w.drew->c'<len+n ->
           (Builtin.append_ ts ty #[.slice base len c',b]).run P w =
            .ok (.slice (some ⟨w.heap.size,0,none⟩) (len+n) (grownCap w (len+n) c' e)) (w.drew.alloc (.cells (co++cs++Builtin.zeroCells zv.cells (grownCap w (len+n) c' e - (len+n))) e)):=by
          intro base c' co ho hlt
          obtain ⟨r1,r2⟩:=room_fits hroom hlt
          exact run_append_out ht hu hi hiz ht1 hu1 hint g1 (by rw [his];exact g3') (by rw [his];exact ho) (by omega) r1 (by rw [hib];exact r2)
         have hcs:cs.size=n*(k+1):=by rw [← hlen];simpa using hcl.symm
         have hrowsz:∀ {co:Array Value} {c':Nat},co.size=len*(k+1)->c'<len+n->(co++cs++Builtin.zeroCells zv.cells (grownCap w (len+n) c' e - (len+n))).size=grownCap w (len+n) c' e*(k+1):=by
          intro co c' hco hlt
          have:=le_grownCap (w:=w) (e:=e) hlt
          simp only [Array.size_append,hco,hcs,Builtin.zeroCells,Array.size_map,Array.size_range,hzc]
          rw [← Nat.add_mul,← Nat.add_mul]
          congr 1;omega
         cases n with
         | zero =>
          cases hq1
          rw [Nat.zero_mul] at hcs
          have hnil:cs.toList=[]:=by simpa using hcs
          have hin:∀ {base:Option Addr} {c':Nat},len<=c'->(Builtin.append_ ts ty #[.slice base len c',b]).run P w=.ok (.slice base len c') w:=by
           intro base c' hle
           refine run_append_in ht hu hsz ht1 hu1 hint g1 g3 (by omega) ?_
           cases base with
           | none=>rfl
           | some a=>rw [hnil];rfl
          refine ⟨ρ,a,w,?_,hs,Post.refl hr⟩
          cases o with
          | none=>obtain ⟨rfl,rfl,_,rfl⟩:=hs;exact hin (Nat.le_refl _)
          | some p0=>obtain ⟨p,a',c',_,rfl,h1,_⟩:=hs;exact hin h1
         | succ n =>
          have hq2:appAt (k+1) e o len c g id h src.1 (n+1)=some q:=hq1
          clear hq1
          cases o with
          | none =>
           obtain ⟨rfl,rfl,_,rfl⟩:=hs
           obtain ⟨_,hq3⟩:=iff'_some.1 (show iff' (Nat.beq 0 0) (appNew (k+1) (n+1) (tyMark e false) id h src.1)=some q from hq2)
           obtain ⟨hone,rfl⟩:=appNew_some hq3
           have hgc:=le_grownCap (w:=w) (e:=e) (show 0<0+(n+1) by omega)
           obtain ⟨hpost,hval⟩:=app_row (e:=e) hr hid (y:=.cells (fillC src.1 .leaf 0) (tyMark e false) (len' src.1) false) (N:=src.1.length) (row:=#[]++cs++Builtin.zeroCells zv.cells (grownCap w (0+(n+1)) 0 e - (0+(n+1)))) (need:=0+(n+1)) (cap:=grownCap w (0+(n+1)) 0 e) (size:=k+1)
            (Row.of g4 hone fun i hi=>by
             have:i<cs.size:=by have:=hcl;simp at this;omega
             simp only [Array.empty_append,Nat.zero_add,Array.getElem?_append_left this,Array.getElem?_toList]) bmark_new hgc (by simp only [Array.size_append,hcs,hlen];simp) (hrowsz (by simp) (by omega))
           refine ⟨_,_,_,hout rfl (by omega),?_,hpost⟩
           simpa using hval
          | some p0 =>
           obtain ⟨bk,off⟩:=p0
           obtain ⟨p,a',c',hp,rfl,hle,hcle,hg,hes,ha⟩:=hs
           have hold:∀ {tr:Tr AV} {zz:List AV} {m:Nat} {ro:Bool},h.bs.gt bk=some (.cells tr zz m ro)->off+len*(k+1)<=m ->
             ∃ co:Array Value,(Builtin.firstCells (k+1) len (.slice (some a') len c')).run P w.drew=.ok co w.drew/\co.size=len*(k+1)/\∀ i u,i<len*(k+1)->w.cell? ⟨p.blk,p.off+off+i,none⟩=some u->co[i]?=some u:=by
            intro tr zz m ro hb hm
            obtain ⟨co,o1,o2,o3⟩:=run_oldCells (w:=w.drew) hr.drew hb hm hp
            refine ⟨co.toArray,?_,by simpa using o1,fun i u hi hu=>by simpa using o3 i u hi hu⟩
            by_cases hc0:c'=0
            ·obtain rfl:len=0:=by omega
             rw [Nat.zero_mul] at o1
             obtain rfl:co=[]:=List.length_eq_zero_iff.1 o1
             simp only [Builtin.firstCells,Nat.zero_mul];rfl
            ·rw [ha hc0];exact o2
           have hnewrow:∀ (co rest:Array Value) (i:Nat),co.size=len*(k+1)->i<src.1.length->(co++cs++rest)[0+len*(k+1)+i]?=cs.toList[i]?:=by
            intro co rest i hco hi
            have:i<cs.size:=by omega
            rw [Array.getElem?_append_left (by simp only [Array.size_append];omega),Array.getElem?_append_right (by omega),Array.getElem?_toList]
            congr 1;omega
           have holdrow:∀ (co rest:Array Value) (i:Nat) (u:Value),co.size=len*(k+1)->i<len*(k+1)->co[i]?=some u->(co++cs++rest)[0+i]?=some u:=by
            intro co rest i u hco hi hu
            rw [Array.getElem?_append_left (by simp only [Array.size_append];omega),Array.getElem?_append_left (by omega),Nat.zero_add]
            exact hu
           have hmul:(len+(n+1))*(k+1)=len*(k+1)+(n+1)*(k+1):=Nat.add_mul _ _ _
           have hq2:(Bool.rec (motive:=fun _=>Option (AV×Heap))
             (Option.rec (motive:=fun _=>Option (AV×Heap))
              (Option.rec (motive:=fun _=>Option (AV×Heap)) none (fun old=>appNew (k+1) (len+(n+1)) (tyMark e false) id h (app' old src.1)) (h.ld bk off (len*(k+1))))
              (fun es=>iff' (Nat.beq es (k+1)) (appDead (k+1) (len+(n+1)) e off len (n+1) src.1 bk id h)) g)
             (stoAs (.slice (some (bk,off)) (len+(n+1)) c g) (h.sto bk (off+len*(k+1)) src.1)) (Nat.ble (len+(n+1)) c):Option (AV×Heap))=some q:=hq2
           cases hbl:Nat.ble (len+(n+1)) c with
           | true =>
            rw [hbl] at hq2
            obtain ⟨h',hst,rfl⟩:=stAs_some hq2
            have hle2:=Nat.le_of_ble_eq_true hbl
            obtain ⟨p',w',hp',hrun,hpost⟩:=hr.sto hst g4
            rw [hp] at hp';cases hp'
            have ha':=ha (by omega)
            subst ha'
            refine ⟨ρ,_,w',run_append_in ht hu hsz ht1 hu1 hint g1 g3 (by omega) (w':=w') ?_,⟨p,_,c',hp,rfl,by omega,hcle,hg,hes,ha⟩,hpost⟩
            simp only [add_addr]
            rw [Nat.add_assoc];exact hrun
           | false =>
            rw [hbl] at hq2
            cases g with
            | none =>
             have hcc:=hg rfl
             have hlt:c'<len+(n+1):=by
              rcases Nat.lt_or_ge c' (len+(n+1)) with h1 | h1
              ·exact h1
              ·rw [hcc] at h1;rw [Nat.ble_eq_true_of_le h1] at hbl;cases hbl
             cases hl:h.ld bk off (len*(k+1)) with
             | none=>rw [hl] at hq2;cases hq2
             | some old =>
              rw [hl] at hq2
              obtain ⟨hone2,rfl⟩:=appNew_some hq2
              obtain ⟨tr,zz,m,ro,hb,_⟩:=ld_some hl
              obtain ⟨hm,hol,honto⟩:=Onto.row (vs:=src.1) (z0:=tyMark e false) hl hb
              obtain ⟨co,o1,o2,o3⟩:=hold hb hm
              have hone:allOne src.1=true:=by
               rw [allOne_eq,app'_eq,List.all_append,Bool.and_eq_true] at hone2
               rw [allOne_eq];exact hone2.2
              have hrow:Row ρ (.cells (fillC (old++src.1) .leaf 0) (tyMark e false) (len' (old++src.1)) false) (len*(k+1)+src.1.length) (co++cs++Builtin.zeroCells zv.cells (grownCap w (len+(n+1)) c' e - (len+(n+1)))) 0 :=
               honto.lies hr hb hm g4 hone hp (fun i u hi hu=>holdrow co _ i u o2 hi (o3 i u hi hu)) (fun i hi=>hnewrow co _ i o2 hi)
              obtain ⟨hpost,hval⟩:=app_row (e:=e) hr hid hrow bmark_new (need:=len+(n+1)) (cap:=grownCap w (len+(n+1)) c' e) (size:=k+1) (le_grownCap hlt)
               (by simp only [Array.size_append,o2,hcs,hlen];omega) (hrowsz o2 hlt)
              refine ⟨_,_,_,hout o1 hlt,hval,?_⟩
              rw [app'_eq];exact hpost
            | some es =>
             obtain ⟨he,hq3⟩:=iff'_some.1 (show iff' (Nat.beq es (k+1)) (appDead (k+1) (len+(n+1)) e off len (n+1) src.1 bk id h)=some q from hq2)
             obtain rfl:=Nat.eq_of_beq_eq_true he
             obtain ⟨tr,zz,m,y,hb,hone,hm,honto,hbm,hbm0,rfl⟩:=appDead_some hq3 hlen
             have hcap:=hes _ rfl
             by_cases hin:len+(n+1)<=c'
             ·obtain ⟨p',ca,ce,fz,hp',hh,hsz',hpm,hval,hfz⟩:=hr.blk _ _ hb
              rw [hp] at hp';cases hp'
              have ha':=ha (by omega)
              subst ha'
              have hmul2:(len+(n+1))*(k+1)<=c'*(k+1):=Nat.mul_le_mul_right _ hin
              have hone':∀ u∈cs.toList,u.oneCell'=true:=fun u hu=>by
               obtain ⟨i,hi⟩:=List.getElem?_of_mem hu
               have hlt:i<src.1.length:=by rw [hcl];exact (List.getElem?_eq_some_iff.1 hi).1
               obtain ⟨u',h1,h2⟩:=g4.get i src.1[i] (List.getElem?_eq_getElem hlt)
               rw [hi] at h1;cases h1
               rw [allOne_eq,List.all_eq_true] at hone
               exact h2.one (hone _ (List.getElem_mem hlt))
              obtain ⟨w',hrun,hos,hou,hheap⟩:=run_storeRun P (k:=p.blk) (base:=p.off+off+len*(k+1)) cs.toList 0 w ca hh (by rw [← hcl,hlen,hsz'];omega) hone' (by rw [hsz'];exact hfz.1 rfl)
              rw [Nat.add_zero] at hheap
              have hsum:p.off+off+len*(k+1)+cs.toList.length<=ca.size:=by rw [← hcl,hlen,hsz'];omega
              have hrow:Row ρ y (len*(k+1)+src.1.length) (putRun ca (p.off+off+len*(k+1)) cs.toList) (p.off+off):=by
               refine honto.lies hr hb hm g4 hone hp (fun i u hi hu=>?_) (fun i hi=>?_)
               ·rw [putRun_get _ _ _ _ hsum,if_neg (by omega),← cell_of_heap hh];exact hu
               ·rw [putRun_get _ _ _ _ hsum,if_pos (by omega)]
                congr 1;omega
              refine ⟨_,_,w',run_append_in ht hu hsz ht1 hu1 hint g1 g3 hin (w':=w') ?_,?_,app_over hr hb hp hid hh (hfz.1 rfl) hos hou hheap (by rw [putRun_size,hsz']) (by rw [hlen];omega) hrow (hbm0 _ fun k x hz=>(hfz.2 k x hz).1)⟩
              ·simp only [add_addr];exact hrun
              ·exact ⟨_,_,c',Pls.up_same _ _ _,rfl,hin,hin,(fun e=>by cases e),(fun es e=>by cases e;exact hcap),fun _=>rfl⟩
             ·have hlt:c'<len+(n+1):=by omega
              obtain ⟨co,o1,o2,o3⟩:=hold hb hm
              have hk:=hr.kill hb
              have hrow:Row ρ y (len*(k+1)+src.1.length) (co++cs++Builtin.zeroCells zv.cells (grownCap w (len+(n+1)) c' e - (len+(n+1)))) 0 :=
               honto.lies hr hb hm g4 hone hp (fun i u hi hu=>holdrow co _ i u o2 hi (o3 i u hi hu)) (fun i hi=>hnewrow co _ i o2 hi)
              obtain ⟨hpost,hval⟩:=app_row (e:=e) hk.hr (id:=id) hid hrow hbm (need:=len+(n+1)) (cap:=grownCap w (len+(n+1)) c' e) (size:=k+1) (le_grownCap hlt)
               (by simp only [Array.size_append,o2,hcs,hlen];omega) (hrowsz o2 hlt)
              exact ⟨_,_,_,hout o1 hlt,hval,hk.trans hpost⟩
  | _=>cases hq
end
end Go.Am
