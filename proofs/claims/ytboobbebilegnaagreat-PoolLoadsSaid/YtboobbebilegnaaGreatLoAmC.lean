/- A part of the proof of the law PoolLoads. -/
import Derived.Test.YtboobbebilegnaaGreatLoAmB
import Derived.Lib.UnsafeStr
import Derived.Lib.Builder
import Derived.Lib.Bytealg
import Derived.KernelRfl
import Derived.Orders
import Derived.OrdersIn
set_option linter.unusedVariables false
set_option linter.unusedSimpArgs false
set_option linter.constructorNameAsVariable false
set_option linter.defProp false
set_option maxRecDepth 20000

namespace Go.Am
section
variable {P:Program} {keep:Keeps} {w:World} {ρ : Pls} {h:Heap}
theorem markOf_some {z:List AV} {t:Nat} {x:Bool} (hz:markOf z=some (t,x)):z=tyMark t x:=by
 unfold markOf at hz
 split at hz
 ·cases hz;rfl
 ·cases hz
theorem sliceData_sound {v r:AV} {a:Value} {ts:Array TypeId} {ty:TypeId} (hr:sliceData v=some r) (hv:VR ρ v a):Gives P w ρ (Builtin.unsafeSliceData_ ts ty #[a]) r:=by
 cases v with
 | slice o n c g =>
  cases o with
  | none =>
   cases hr
   obtain ⟨rfl,rfl,_,rfl⟩:=hv
   exact ⟨_,rfl,rfl⟩
  | some p0 =>
   obtain ⟨b,o⟩:=p0
   simp only [sliceData] at hr
   split at hr
   ·cases hr
   ·rename_i hne
    cases hr
    obtain ⟨p,a',c',hp,rfl,h1,h2,_,_,h5⟩:=hv
    have hc:c'≠0:=by omega
    refine ⟨_,Lib.run_unsafeSliceData_row w ts ty a' n c' hc,p,hp,?_⟩
    rw [h5 hc]
 | _=>cases hr
theorem HR.freeze (hr:HR P keep ρ h w) {b:Nat} {t:Tr AV} {z:List AV} {m:Nat} {ro:Bool} (hb:h.bs.gt b=some (.cells t z m ro)) (hmk:(markOf z).isNone=false) {p:Pl} (hp:ρ b=some p) (o n:Nat) :
  Post P keep ρ h w ρ (h.put b (.cells t z m true)) (w.freeze ⟨p.blk,o,none⟩ n):=by
 have hos:(w.freeze ⟨p.blk,o,none⟩ n).os=w.os:=by unfold World.freeze;split <;> rfl
 have hout:(w.freeze ⟨p.blk,o,none⟩ n).output=w.output:=by unfold World.freeze;split <;> rfl
 have hsz:(w.freeze ⟨p.blk,o,none⟩ n).heap.size=w.heap.size:=by unfold World.freeze;split <;> simp
 have hsame:∀ k,k≠p.blk->(w.freeze ⟨p.blk,o,none⟩ n).heap[k]?=w.heap[k]?:=fun k hk=>by
  unfold World.freeze
  split
  ·rfl
  ·simp only [Array.getElem?_modify]
   rw [if_neg (fun e=>hk e.symm)]
 have hcells:∀ c e fz,w.heap[p.blk]?=some (.cells c e fz)->∃ fz',(w.freeze ⟨p.blk,o,none⟩ n).heap[p.blk]?=some (.cells c e fz'):=fun c e fz hc=>by
  unfold World.freeze
  split
  ·exact ⟨fz,hc⟩
  ·refine ⟨if fz.1==fz.2 then (o,o+n) else (min fz.1 o,max fz.2 (o+n)),?_⟩
   simp only [Array.getElem?_modify,if_pos,hc,Option.map_some]
 have hget:∀ c,(h.put b (.cells t z m true)).bs.gt c=if c=b then some (.cells t z m true) else h.bs.gt c:=fun c=>Tr.gt_up _ _ _ _
 have hbr:=hr.blk _ _ hb
 obtain ⟨p0,c,e,fz,hp0,hc,hcs,hn,hv,hf⟩:=hbr
 rw [hp] at hp0;cases hp0
 have hlt:p.blk<w.heap.size:=(Array.getElem?_eq_some_iff.1 hc).1
 have hown:Own ρ h p.blk:=⟨b,_,p,hb,rfl,hp,rfl⟩
 have hfx:∀ r,(Blk.cells t z m r).fixed=false:=fun r=>by show (r&&(markOf z).isNone)=false;rw [hmk,Bool.and_false]
 have hownW:OwnW ρ h p.blk:=⟨b,_,p,hb,hfx _,hp,rfl⟩
 refine ⟨Pls.le_refl _,⟨hr.dom,fun c' x hx=>?_,fun c' x hx=>?_,fun c1 c2 x1 x2 q1 q2 h1 h2 d1 d2 hro hq1 hq2 hne=>?_⟩,⟨hos,hout,by omega,fun k _ ho=>hsame k fun e=>ho (e▸hownW)⟩,fun k _ ho=>?_,Nat.le_refl _,fun _ _ h _=>h,fun k _ ho=>?_⟩
 ·rw [hget] at hx
  by_cases e:c'=b
  ·subst e;exact hr.has _ _ hb
  ·rw [if_neg e] at hx;exact hr.has _ _ hx
 ·rw [hget] at hx
  by_cases e1:c'=b
  ·subst e1
   rw [if_pos rfl] at hx;cases hx
   obtain ⟨fz',hfz'⟩:=hcells c e fz hc
   exact ⟨p,c,e,fz',hp,hfz',hcs,hn,hv,(fun e=>by cases e),hf.2⟩
  ·rw [if_neg e1] at hx
   by_cases hq:∃ q,ρ c'=some q/\q.blk=p.blk/\x.dead?=false
   ·obtain ⟨q,hq1,hq2,hq3⟩:=hq
    
    have hxro:x.ro=true:=by
     cases hx2:x.ro with
     | true=>rfl
     | false=>exact absurd hq2 (hr.inj c' b x _ q p hx hb hq3 rfl (.inl hx2) hq1 hp e1)
    have hbx:=hr.blk _ _ hx
    cases x with
    | cells t1 z1 m1 ro1 =>
     obtain ⟨p1,c1,e1',fz1,hp1,hc1,g1,g2,g3,g4⟩:=hbx
     rw [hq1] at hp1;cases hp1
     rw [hq2,hc] at hc1;cases hc1
     obtain ⟨fz',hfz'⟩:=hcells c e fz hc
     exact ⟨q,c,e,fz',hq1,by rw [hq2];exact hfz',g1,g2,g3,(fun e=>by cases (show ro1=true from hxro).symm.trans e),g4.2⟩
    | dead=>cases hq3
    | map _ _=>cases hxro
    | siter _ _=>cases hxro
    | loop _=>cases hxro
   ·exact (hr.blk _ _ hx).frame fun q hd hqq=>hsame _ fun e=>hq ⟨q,hqq,e,hd⟩
 ·have fix:∀ c0 x0,(h.put b (.cells t z m true)).bs.gt c0=some x0->x0.dead?=false->∃ x',h.bs.gt c0=some x'/\x'.dead?=false/\(x0.ro=false->x'.ro=false):=by
   intro c0 x0 hx0 hd0
   rw [hget] at hx0
   by_cases e:c0=b
   ·subst e;rw [if_pos rfl] at hx0;cases hx0;exact ⟨_,hb,rfl,fun e=>by cases e⟩
   ·rw [if_neg e] at hx0;exact ⟨x0,hx0,hd0,id⟩
  obtain ⟨y1,a1,a2,a3⟩:=fix _ _ h1 d1
  obtain ⟨y2,b1,b2,b3⟩:=fix _ _ h2 d2
  exact hr.inj c1 c2 y1 y2 q1 q2 a1 b1 a2 b2 (hro.imp a3 b3) hq1 hq2 hne
 ·obtain ⟨c0,x0,q,hx,hd,hq,rfl⟩:=ho
  rw [hget] at hx
  by_cases e:c0=b
  ·subst e;rw [hp] at hq;cases hq;exact hown
  ·rw [if_neg e] at hx;exact ⟨c0,x0,q,hx,hd,hq,rfl⟩
 ·obtain ⟨c0,x0,q,hx,hd,hq,rfl⟩:=ho
  rw [hget] at hx
  by_cases e:c0=b
  ·subst e;rw [hp] at hq;cases hq;exact hownW
  ·rw [if_neg e] at hx;exact ⟨c0,x0,q,hx,hd,hq,rfl⟩
theorem rowAt_off {fits:TypeId->Bool} {d e count off n:Nat} (hc:P.cellsOf e=1) (hf:fits e=true) (hn:off+n<=count):Go.rowAt P fits (d+1) e count off n=true:=by
 simp only [Go.rowAt,hc]
 simp [hf,Nat.mod_one,hn]
theorem liesAt_off {e count off n:Nat} (hc:P.cellsOf e=1) (hn:off+n<=count):liesAt P P.depth e count off e n=true:=by
 have hd:P.depth=(2*(P.types.size+Made.depth)+1)+1:=rfl
 rw [hd]
 simp only [liesAt,Bool.or_eq_true]
 left
 rw [hd]
 exact rowAt_off hc (by simp [sameLayout]) hn
theorem byteVal {v:AV} {c:Nat} (hv:theByte v=some c):v=.int .u8 (Int.ofNat c)/\c<=255:=by
 obtain ⟨k,n,rfl,h1⟩:=eInt_some hv
 obtain ⟨h2,h3⟩:=iff'_some.1 h1
 have hk:k=.u8:=by cases k <;> first | rfl | cases h2
 subst hk
 cases n with
 | ofNat m =>
  obtain ⟨h4,h5⟩:=iff'_some.1 (show iff' (Nat.ble m 255) (some m)=some c from h3)
  cases h5
  exact ⟨rfl,Nat.le_of_ble_eq_true h4⟩
 | negSucc m=>cases h3
theorem bytesOf_some:∀ {vs:List AV} {l:List Nat},bytesOf vs=some l->∃ bs:List UInt8,l=bs.map (·.toNat)/\vs=bs.map fun b=>.int .u8 (b.toNat:Int)
 | [],l,h=>by cases h;exact ⟨[],rfl,rfl⟩
 | v::vs,l,h=>by
  have h:ob (theByte v) (fun c=>ob (bytesOf vs) fun l=>some (c::l))=some l:=h
  obtain ⟨c,h1,h2⟩:=ob_some.1 h
  obtain ⟨l',h3,h4⟩:=ob_some.1 h2
  cases h4
  obtain ⟨rfl,hc⟩:=byteVal h1
  obtain ⟨bs,rfl,rfl⟩:=bytesOf_some h3
  refine ⟨UInt8.ofNat c::bs,?_,?_⟩
  ·simp only [List.map_cons,List.cons.injEq,and_true]
   rw [UInt8.toNat_ofNat'];omega
  ·simp only [List.map_cons,List.cons.injEq,and_true]
   rw [UInt8.toNat_ofNat',Nat.mod_eq_of_lt (by omega)];rfl
theorem strAt_sound {t e ty:TypeId} {ts:Array TypeId} (ht:ts[0]?=some t) (hu:P.underlying t=some (.pointer e)) (hs:tSize P e=some 1) (hr:HR P keep ρ h w) {x n:AV} {q:AV×Heap} (hq:strAt e h x n=some q) {a b:Value} (hx:VR ρ x a) (hn:VR ρ n b) :
  Does P keep w ρ h (Builtin.unsafeString_ ts ty #[a,b]) q.1 q.2:=by
 obtain ⟨k,n,rfl,h1⟩:=eInt_some hq
 cases hn
 have hmax:IntKind.i64.max=9223372036854775807:=rfl
 have hdef:∀ (p:Option Addr) (n:Int),(Builtin.unsafeString_ ts ty #[.pointer p,.int k n]) =
   (do
    let n ← asInt (.int k n)
    let some pt:=ts[0]? | stuck "unsafe.String: no argument types"
    if n<0 then runtimePanic (.error "unsafe.String: len out of range")
    if n > IntKind.i64.max then unsupported (.unsafePointer "String: a length above the largest int")
    match p with
    | none =>
     if n=0 then pure (.string .empty)
     else runtimePanic (.error "unsafe.String: ptr is nil and len is not zero")
    | some a =>
     if n=0 then pure (.string .empty)
     else if ← variablesAt a (← elemOf pt) n.toNat then do
      let s ← loadBytes a .empty n.toNat
      freeze a n.toNat
      pure (.string s)
     else unsupported (.unsafePointer "String: not so many bytes at ptr")):=fun p n=>rfl
 cases n with
 | negSucc n=>cases h1
 | ofNat n =>
  cases n with
  | zero =>
   cases x with
   | ptr p =>
    cases h1
    have:∃ p',a=.pointer p':=by
     cases p with
     | none=>cases hx;exact ⟨_,rfl⟩
     | some p=>obtain ⟨b0,o0⟩:=p;obtain ⟨p',_,rfl⟩:=hx;exact ⟨_,rfl⟩
    obtain ⟨p',rfl⟩:=this
    refine ⟨ρ,.string .empty,w,?_,⟨.empty,rfl,rfl⟩,Post.refl hr⟩
    rw [hdef]
    cases p' <;> simp [asInt,asIntOf,hmax,ht]
   | _=>cases h1
  | succ n =>
   obtain ⟨bk,o,rfl,h2⟩:=ePtr_some h1
   obtain ⟨h3,h4⟩:=iff'_some.1 h2
   have h3:n+1<=1099511627776:=Nat.le_of_ble_eq_true h3
   obtain ⟨tr,z,m,ro,hb,h5⟩:=cells_some h4
   cases hmk:markOf z with
   | none=>simp only [hmk] at h5;cases h5
   | some ex =>
    obtain ⟨e',x'⟩:=ex
    simp only [hmk] at h5
    split at h5
    ·rename_i he
     subst he
     obtain ⟨h6,h7⟩:=iff'_some.1 h5
     have h6:=Nat.le_of_ble_eq_true h6
     have h6:o+(n+1)<=m:=h6
     obtain ⟨vs,h8,h9⟩:=ob_some.1 h7
     obtain ⟨l,h10,h11⟩:=ob_some.1 h9
     cases h11
     obtain ⟨bs,rfl,rfl⟩:=bytesOf_some h10
     obtain ⟨hlen,hget⟩:=loadC_some h8
     rw [List.length_map] at hlen
     obtain ⟨p,hp,rfl⟩:=hx
     obtain ⟨p0,c,e0,fz,hp0,hc,hcs,hpm,hval,hf⟩:=hr.blk _ _ hb
     rw [hp] at hp0;cases hp0
     obtain ⟨rfl,_⟩:=hf.2 _ _ (markOf_some hmk)
     have hcell:∀ j (x:UInt8),bs[j]?=some x->w.cell? ((⟨p.blk,p.off+o,none⟩:Addr).add j)=some (.int .u8 x.toNat):=fun j x hj=>by
      have hjl:j<bs.length:=(List.getElem?_eq_some_iff.1 hj).1
      obtain ⟨v,cv,g1,g2,g3,g4⟩:=hval (o+j) (by omega)
      rw [hget j (by omega),List.getElem?_map,hj] at g1
      cases g1
      rw [add_addr,cell_of_heap hc,Nat.add_assoc,g3]
      exact congrArg some g4
     have hsh:w.shape? p.blk=some (e0,p.size):=by simp [World.shape?,hc,hcs]
     have hce:P.cellsOf e0=1:=by
      unfold tSize at hs
      simp only [Program.cellsOf]
      cases hi:P.info? e0 with
      | none=>rw [hi] at hs;cases hs
      | some i=>rw [hi] at hs;simpa using hs
     have hlies:=liesAt_off (P:=P) (e:=e0) (count:=p.size / P.cellsOf e0) (off:=p.off+o) (n:=n+1) hce (by rw [hce,Nat.div_one];omega)
     have hno:o+(n+1)<=p.size - p.off:=by omega
     have hlb:=Lib.run_loadBytes (P:=P) w bs ⟨p.blk,p.off+o,none⟩ .empty hcell
     rw [hlen] at hlb
     refine ⟨ρ,.string ⟨bs.toArray⟩,w.freeze ⟨p.blk,p.off+o,none⟩ (n+1),?_,⟨_,rfl,by simp⟩,hr.freeze hb (by rw [hmk];rfl) hp _ _⟩
     rw [hdef]
     have hneg:¬(Int.ofNat (n+1))<0:=by simp only [Int.ofNat_eq_natCast];omega
     have h63:¬(9223372036854775807:Int)<Int.ofNat (n+1):=by simp only [Int.ofNat_eq_natCast];omega
     have hne:¬(Int.ofNat (n+1))=0:=by simp only [Int.ofNat_eq_natCast];omega
     have ht':(Int.ofNat (n+1)).toNat=n+1:=rfl
     simp only [asInt,asIntOf,Sem.run_bind,Sem.run_pure,Result.andThen_ok,ht,hmax,hneg,h63,hne,if_false,ht',variablesAt,elemOf,run_underlying hu]
     simp [hsh,hlies,hlb]
    ·cases h5
theorem toUnsafe_sound {s d t:TypeId} (hsu:P.underlying s=some (.pointer t)) (hdu:P.underlying d=some .unsafePointer) (hr:HR P keep ρ h w) {v r:AV} (hf:toUnsafe P t h v=some r) {a:Value} (hv:VR ρ v a):Gives P w ρ (convert s d a) r:=by
 unfold toUnsafe at hf
 split at hf
 ·rename_i n b o hsz
  obtain ⟨tr,z,m,ro,hb,h1⟩:=cells_some hf
  obtain ⟨h2,h3⟩:=iff'_some.1 h1
  cases h3
  have h2:o<m:=Nat.le_of_ble_eq_true h2
  have hv':=hv
  obtain ⟨p,hp,rfl⟩:=hv
  obtain ⟨p0,c,e0,fz,hp0,hc,hcs,hpm,hval,hf⟩:=hr.blk _ _ hb
  rw [hp] at hp0;cases hp0
  obtain ⟨i,hi,his⟩:=tSize_info hsz
  exact ⟨_,Lib.run_to_unsafe w ⟨p.blk,p.off+o,none⟩ hsu hdu hi (by omega) (e:=e0) (cells:=p.size) (by simp [World.shape?,hc,hcs]) (by show p.off+o<p.size;omega),hv'⟩
 ·rename_i n hsz
  cases hf
  cases hv
  refine ⟨.pointer none,?_,rfl⟩
  simp [convert,run_underlying hsu,run_underlying hdu,Conv.unsafePointer]
 ·cases hf
theorem fromUnsafe_sound {s d u:TypeId} (hsu:P.underlying s=some .unsafePointer) (hdu:P.underlying d=some (.pointer u)) (hr:HR P keep ρ h w) {v r:AV} (hf:fromUnsafe P u h v=some r) {a:Value} (hv:VR ρ v a):Gives P w ρ (convert s d a) r:=by
 unfold fromUnsafe at hf
 split at hf
 ·cases hf
  cases hv
  refine ⟨.pointer none,?_,rfl⟩
  simp [convert,run_underlying hsu,run_underlying hdu,Conv.unsafePointer]
 ·rename_i b o
  obtain ⟨tr,z,m,ro,hb,h1⟩:=cells_some hf
  split at h1
  ·rename_i e hmk
   split at h1
   ·rename_i hl
    cases h1
    rw [Bool.and_eq_true] at hl
    have hv':=hv
    obtain ⟨p,hp,rfl⟩:=hv
    obtain ⟨p0,c,e0,fz,hp0,hc,hcs,hpm,hval,hf⟩:=hr.blk _ _ hb
    rw [hp] at hp0;cases hp0
    obtain ⟨rfl,hx⟩:=hf.2 _ _ (markOf_some hmk)
    obtain ⟨h0,hsz⟩:=hx rfl
    cases hi:P.info? u with
    | none=>rw [hi] at hl;cases hl.1
    | some i =>
     refine ⟨_,Lib.run_from_unsafe w ⟨p.blk,p.off+o,none⟩ hsu hdu hi (e:=e0) (cells:=p.size) (by simp [World.shape?,hc,hcs]) ?_,hv'⟩
     show liesAt P P.depth e0 (p.size / P.cellsOf e0) (p.off+o) u 1=true
     rw [h0,hsz,Nat.zero_add];exact hl.2
   ·cases h1
  ·cases h1
 ·cases hf
theorem find_noEscape (fn:Func) (h:fn.name = "internal/abi.NoEscape") (ho:fn.origin = ""):Extern.findNext fn=none/\Extern.find fn=some Extern.AbiNoEscape.same:=by
 cases fn
 simp only at h ho
 subst h ho
 exact ⟨by kernel_rfl,by kernel_rfl⟩
theorem find_indexByte (fn:Func) (h:fn.name = "internal/bytealg.IndexByteString") (ho:fn.origin = ""):Extern.findNext fn=none/\Extern.find fn=some Extern.BytealgIndexByte.indexByte:=by
 cases fn
 simp only at h ho
 subst h ho
 exact ⟨by kernel_rfl,by kernel_rfl⟩
end
end Go.Am
namespace Go.Am
def EnvOk (find:Nat->Option Opd) (loc:List AV) (vs tm:Tr AV) (ρ : Pls) (a:Act):Prop :=
 ∀ t x v,find t=some x->x.get loc vs tm=some v->VR ρ v (a.tmps.getD t undef)
section
variable {P:Program} {keep:Keeps} {w:World} {ρ : Pls} {h:Heap} {find:Nat->Option Opd} {loc:List AV} {vs tm:Tr AV} {a:Act}
theorem resolve_sound (he:EnvOk find loc vs tm ρ a) {x:Operand} {o:Opd} {v:AV} (hx:Am.resolve find x=some o) (hg:o.get loc vs tm=some v):VR ρ v (a.eval x):=by
 cases x with
 | tmp t=>exact he t o v hx hg
 | const c =>
  simp only [Am.resolve,Option.map_eq_some_iff] at hx
  obtain ⟨u,h1,rfl⟩:=hx
  cases hg
  exact VR.const ρ _ _ h1
 | global g=>cases hx
 | func f=>cases hx;cases hg;exact ⟨_,_,_,rfl,rfl,rfl,rfl⟩
theorem gets_cons (x:Opd) (xs:List Opd):gets (x::xs) loc vs tm=ob (x.get loc vs tm) fun v=>ob (gets xs loc vs tm) fun us=>some (v::us):=rfl
theorem resolves_sound (he:EnvOk find loc vs tm ρ a):∀ {xs:List Operand} {os:List Opd} {us:List AV},resolves find xs=some os->gets os loc vs tm=some us->VRs ρ us (xs.map a.eval)
 | [],os,us,hx,hg=>by cases hx;cases hg;rfl
 | x::xs,os,us,hx,hg=>by
  simp only [resolves] at hx
  split at hx
  ·rename_i o os' h1 h2
   cases hx
   rw [gets_cons] at hg
   obtain ⟨v,g1,g2⟩:=ob_some.1 hg
   obtain ⟨us',g3,g4⟩:=ob_some.1 g2
   cases g4
   exact ⟨_,_,rfl,resolve_sound he h1 g1,resolves_sound he h2 g3⟩
  ·cases hx
def GivesN (P:Program) (w:World) (ρ : Pls) (s:Sem Next) (r:AV):Prop:=∃ v,s.run P w=.ok (.value v) w/\VR ρ r v
def MakesN (P:Program) (keep:Keeps) (w:World) (ρ : Pls) (s:Sem Next) (r:Blk×(Nat->AV)):Prop :=
 ∃ o sz v w',s.run P w=.ok (.value v) w'/\w'.os=w.os/\w'.output=w.output/\w'.heap=w.heap.push o /\
  ∀ id,ρ id=none->BR P keep (ρ.up id ⟨w.heap.size,0,sz⟩) id r.1 w'/\VR (ρ.up id ⟨w.heap.size,0,sz⟩) (r.2 id) v
def DoesN (P:Program) (keep:Keeps) (w:World) (ρ : Pls) (h:Heap) (s:Sem Next) (r:AV) (h':Heap):Prop :=
 ∃ ρ' nx v w',s.run P w=.ok nx w'/\(nx=.value v∨nx=.skip/\v=undef)/\VR ρ' r v/\Post P keep ρ h w ρ' h' w'
theorem givesN {s:Sem Value} {r:AV} (hg:Gives P w ρ s r):GivesN P w ρ (do pure (.value (← s))) r:=by
 obtain ⟨v,h1,h2⟩:=hg
 exact ⟨v,by rw [andthen_ok h1];rfl,h2⟩
theorem makesN {s:Sem Value} {r:Blk×(Nat->AV)} (hg:Makes P keep w ρ s r):MakesN P keep w ρ (do pure (.value (← s))) r:=by
 obtain ⟨o,sz,v,w',h1,h2⟩:=hg
 exact ⟨o,sz,v,w',by rw [andthen_ok h1];rfl,h2⟩
theorem doesN {s:Sem Value} {r:AV} {h':Heap} (hg:Does P keep w ρ h s r h'):DoesN P keep w ρ h (do pure (.value (← s))) r h':=by
 obtain ⟨ρ',v,w',h1,h2⟩:=hg
 exact ⟨ρ',_,v,w',by rw [andthen_ok h1];rfl,.inl rfl,h2⟩
theorem doesU {s:Sem Unit} {h':Heap} (hg:DoesU P keep w ρ h s h'):DoesN P keep w ρ h (do s;pure .skip) undefA h':=by
 obtain ⟨ρ',w',h1,h2⟩:=hg
 exact ⟨ρ',_,undef,w',by rw [andthen_ok h1];rfl,.inr ⟨rfl,rfl⟩,VR.undef _,h2⟩
def Good (P:Program) (keep:Keeps) (find:Nat->Option Opd) (o:Oper) (i:Ins):Prop :=
 match i with
 | .cl g xs=>∃ g0 args ts,o.op=.call ⟨.value g0,args,ts⟩/\Am.resolve find g0=some g/\resolves find args.toList=some xs
 | .bad=>True
 | i=>∀ loc vs tm ρ h w a,HR P keep ρ h w->EnvOk find loc vs tm ρ a ->
  match i with
  | .mv x=>∀ v,x.get loc vs tm=some v->GivesN P w ρ (execOp a.eval o) v
  | .p1 f x=>∀ v r,x.get loc vs tm=some v->f v=some r->GivesN P w ρ (execOp a.eval o) r
  | .p2 f x y=>∀ v u r,x.get loc vs tm=some v->y.get loc vs tm=some u->f v u=some r->GivesN P w ρ (execOp a.eval o) r
  | .pick c x y=>∀ t r,c.get loc vs tm=some (.bool t)->(if t then x.get loc vs tm else y.get loc vs tm)=some r->GivesN P w ρ (execOp a.eval o) r
  | .pn f xs=>∀ us r,gets xs loc vs tm=some us->f us=some r->GivesN P w ρ (execOp a.eval o) r
  | .ld1 x=>∀ v r,x.get loc vs tm=some v->load1 h v=some r->GivesN P w ρ (execOp a.eval o) r
  | .ldn s x=>∀ v r,x.get loc vs tm=some v->loadN s h v=some r->GivesN P w ρ (execOp a.eval o) r
  | .rd f xs=>∀ us r,gets xs loc vs tm=some us->f us h=some r->GivesN P w ρ (execOp a.eval o) r
  | .al f xs=>∀ us r,gets xs loc vs tm=some us->f us=some r->MakesN P keep w ρ (execOp a.eval o) r
  | .st1 x y=>∀ p v q,x.get loc vs tm=some p->y.get loc vs tm=some v->store1 h p v=some q->DoesN P keep w ρ h (execOp a.eval o) q.1 q.2
  | .ef f xs=>∀ us id q,h.next<=id->gets xs loc vs tm=some us->f us id h=some q->DoesN P keep w ρ h (execOp a.eval o) q.1 q.2
  | _=>True
theorem l1_some {β : Type} {f:AV->Option β} {us:List AV} {r:β} (hl:l1 f us=some r):∃ u,us=[u]/\f u=some r:=by
 match us with
 | []=>cases hl
 | [u]=>exact ⟨u,rfl,hl⟩
 | u::v::t=>cases hl
theorem l2_some {β : Type} {f:AV->AV->Option β} {us:List AV} {r:β} (hl:l2 f us=some r):∃ u v,us=[u,v]/\f u v=some r:=by
 match us with
 | []=>cases hl
 | u::t=>obtain ⟨v,rfl,h⟩:=l1_some (show l1 (f u) t=some r from hl);exact ⟨u,v,rfl,h⟩
theorem l3_some {β : Type} {f:AV->AV->AV->Option β} {us:List AV} {r:β} (hl:l3 f us=some r):∃ u v x,us=[u,v,x]/\f u v x=some r:=by
 match us with
 | []=>cases hl
 | u::t=>obtain ⟨v,x,rfl,h⟩:=l2_some (show l2 (f u) t=some r from hl);exact ⟨u,v,x,rfl,h⟩
theorem l4_some {β : Type} {f:AV->AV->AV->AV->Option β} {us:List AV} {r:β} (hl:l4 f us=some r):∃ u v x y,us=[u,v,x,y]/\f u v x y=some r:=by
 match us with
 | []=>cases hl
 | u::t=>obtain ⟨v,x,y,rfl,h⟩:=l3_some (show l3 (f u) t=some r from hl);exact ⟨u,v,x,y,rfl,h⟩
theorem VRs.one {u:AV} {l:List Value} (hv:VRs ρ [u] l):∃ v,l=[v]/\VR ρ u v:=by obtain ⟨v,t,rfl,h1,rfl⟩:=hv;exact ⟨v,rfl,h1⟩
theorem VRs.two {u u':AV} {l:List Value} (hv:VRs ρ [u,u'] l):∃ v v',l=[v,v']/\VR ρ u v/\VR ρ u' v':=by
 obtain ⟨v,t,rfl,h1,h2⟩:=hv;obtain ⟨v',rfl,h3⟩:=VRs.one h2;exact ⟨v,v',rfl,h1,h3⟩
theorem good_on1 {o:Oper} {f:AV->Option AV} {x:Operand} (hs:∀ (w:World) (ρ : Pls) (a:Act) (v r:AV),VR ρ v (a.eval x)->f v=some r->GivesN P w ρ (execOp a.eval o) r):Good P keep find o (on1 f (Am.resolve find x)):=by
 cases hx:Am.resolve find x with
 | none=>trivial
 | some y=>intro loc vs tm ρ h w a hr he v r hv hf;exact hs w ρ a v r (resolve_sound he hx hv) hf
theorem good_on2 {o:Oper} {f:AV->AV->Option AV} {x y:Operand} (hs:∀ (w:World) (ρ : Pls) (a:Act) (v u r:AV),VR ρ v (a.eval x)->VR ρ u (a.eval y)->f v u=some r->GivesN P w ρ (execOp a.eval o) r):Good P keep find o (on2 f (Am.resolve find x) (Am.resolve find y)):=by
 cases hx:Am.resolve find x with
 | none=>trivial
 | some x' =>
  cases hy:Am.resolve find y with
  | none=>trivial
  | some y'=>intro loc vs tm ρ h w a hr he v u r hv hu hf;exact hs w ρ a v u r (resolve_sound he hx hv) (resolve_sound he hy hu) hf
theorem good_pn {o:Oper} {f:List AV->Option AV} {xs:List Operand} (hs:∀ (w:World) (ρ : Pls) (a:Act) (us:List AV) (r:AV),VRs ρ us (xs.map a.eval)->f us=some r->GivesN P w ρ (execOp a.eval o) r):Good P keep find o (onN (.pn f) (resolves find xs)):=by
 cases hx:resolves find xs with
 | none=>trivial
 | some y=>intro loc vs tm ρ h w a hr he us r hv hf;exact hs w ρ a us r (resolves_sound he hx hv) hf
theorem good_rd {o:Oper} {f:List AV->Heap->Option AV} {xs:List Operand} (hs:∀ (w:World) (ρ : Pls) (h:Heap) (a:Act) (us:List AV) (r:AV),HR P keep ρ h w->VRs ρ us (xs.map a.eval)->f us h=some r->GivesN P w ρ (execOp a.eval o) r):Good P keep find o (onN (.rd f) (resolves find xs)):=by
 cases hx:resolves find xs with
 | none=>trivial
 | some y=>intro loc vs tm ρ h w a hr he us r hv hf;exact hs w ρ h a us r hr (resolves_sound he hx hv) hf
theorem good_al {o:Oper} {f:List AV->Option (Blk×(Nat->AV))} {xs:List Operand} (hs:∀ (w:World) (ρ : Pls) (a:Act) (us:List AV) (r:Blk×(Nat->AV)),VRs ρ us (xs.map a.eval)->f us=some r->MakesN P keep w ρ (execOp a.eval o) r):Good P keep find o (onN (.al f) (resolves find xs)):=by
 cases hx:resolves find xs with
 | none=>trivial
 | some y=>intro loc vs tm ρ h w a hr he us r hv hf;exact hs w ρ a us r (resolves_sound he hx hv) hf
theorem good_ef {o:Oper} {f:List AV->Nat->Heap->Option (AV×Heap)} {xs:List Operand} (hs:∀ (w:World) (ρ : Pls) (h:Heap) (a:Act) (us:List AV) (id:Nat) (q:AV×Heap),HR P keep ρ h w->h.next<=id->VRs ρ us (xs.map a.eval)->f us id h=some q->DoesN P keep w ρ h (execOp a.eval o) q.1 q.2):Good P keep find o (onN (.ef f) (resolves find xs)):=by
 cases hx:resolves find xs with
 | none=>trivial
 | some y=>intro loc vs tm ρ h w a hr he us id q hid hv hf;exact hs w ρ h a us id q hr hid (resolves_sound he hx hv) hf
theorem notNil_sound {dst:Option Tmp} {ty:TypeId} {pos:String} {after:Array Edge} {guard:Option (Nat×Bool)} {x:Operand} {v r:AV} (hv:VR ρ v (a.eval x)) (hn:notNil v=some r):GivesN P w ρ (execOp a.eval ⟨dst,.nilCheck x,ty,pos,after,guard⟩) r:=by
 cases v with
 | ptr o =>
  cases o with
  | none=>cases hn
  | some p =>
   cases hn
   have hv':=hv
   obtain ⟨p',hp,e⟩:=hv
   exact ⟨a.eval x,by simp only [execOp,e,Sem.run_pure],hv'⟩
 | func f b c =>
  have hv':=hv
  obtain ⟨fn',a',b',e,hf,ha,hb⟩:=hv
  cases f with
  | func g=>cases hn;cases hf;exact ⟨a.eval x,by simp only [execOp,e,Sem.run_pure],hv'⟩
  | yield l=>cases hn;obtain ⟨p,_,_,rfl⟩:=hf;exact ⟨a.eval x,by simp only [execOp,e,Sem.run_pure],hv'⟩
  | _=>cases hn
 | slice o n c g =>
  cases hn
  have hv':=hv
  cases o with
  | none=>obtain ⟨_,_,_,e⟩:=hv;exact ⟨a.eval x,by simp only [execOp,e,Sem.run_pure],hv'⟩
  | some p=>obtain ⟨_,_,_,_,e,_⟩:=hv;exact ⟨a.eval x,by simp only [execOp,e,Sem.run_pure],hv'⟩
 | map o =>
  cases hn
  have hv':=hv
  cases o with
  | none=>exact ⟨a.eval x,by simp only [execOp,show a.eval x=_ from hv,Sem.run_pure],hv'⟩
  | some p=>obtain ⟨_,_,_,e⟩:=hv;exact ⟨a.eval x,by simp only [execOp,e,Sem.run_pure],hv'⟩
 | _=>cases hn
end
end Go.Am
namespace Go.Am
section
variable {P:Program} {keep:Keeps} {find:Nat->Option Opd}
theorem map_toList_pair (parts:Array (Nat×Operand)) (g:Operand->Value):((parts.map fun (i,x)=>(i,g x)).toList.map (·.1))=parts.toList.map (·.1)/\((parts.map fun (i,x)=>(i,g x)).toList.map (·.2))=(parts.toList.map (·.2)).map g:=by
 constructor <;> simp [Function.comp_def]
theorem args_one {args:Array Operand} {a:Act} {v:Value} (h:args.toList.map a.eval=[v]):args.map a.eval=#[v]:=by
 apply Array.toList_inj.1;simpa using h
theorem args_two {args:Array Operand} {a:Act} {v u:Value} (h:args.toList.map a.eval=[v,u]):args.map a.eval=#[v,u]:=by
 apply Array.toList_inj.1;simpa using h
theorem builtin_good {dst:Option Tmp} {ty:TypeId} {pos:String} {after:Array Edge} {guard:Option (Nat×Bool)} (b:Builtin) (args:Array Operand) (ts:Array TypeId) :
  Good P keep find ⟨dst,.call ⟨.builtin b,args,ts⟩,ty,pos,after,guard⟩ (compB P find b args ts):=by
 unfold compB
 simp only
 cases ht:ts[0]? with
 | none=>trivial
 | some t =>
  simp only
  have hex:∀ (a:Act),execOp a.eval ⟨dst,.call ⟨.builtin b,args,ts⟩,ty,pos,after,guard⟩=(do let d ← (pure { target:=.builtin b ts ty (args.map fun | .const _=>true | _=>false),args:=args.map a.eval }:Sem Deferred);invoke d.target d.args):=fun a=>rfl
  have run:∀ {w:World} {a:Act} {s:Sem Value},builtin b ts ty (args.map fun | .const _=>true | _=>false) (args.map a.eval)=(do pure (.value (← s)))->(execOp a.eval ⟨dst,.call ⟨.builtin b,args,ts⟩,ty,pos,after,guard⟩).run P w=(do pure (.value (← s)):Sem Next).run P w:=by
   intro w a s hs
   rw [hex,Sem.run_bind,Sem.run_pure,Result.andThen_ok]
   exact congrArg (fun s=>s.run P w) hs
  have gv:∀ {w:World} {ρ : Pls} {a:Act} {s:Sem Value} {r:AV},builtin b ts ty (args.map fun | .const _=>true | _=>false) (args.map a.eval)=(do pure (.value (← s)))->Gives P w ρ s r->GivesN P w ρ (execOp a.eval ⟨dst,.call ⟨.builtin b,args,ts⟩,ty,pos,after,guard⟩) r:=by
   intro w ρ a s r hs hg
   obtain ⟨v,h1,h2⟩:=givesN hg
   exact ⟨v,by rw [run hs];exact h1,h2⟩
  have dv:∀ {w:World} {ρ : Pls} {h:Heap} {a:Act} {s:Sem Value} {r:AV} {h':Heap},builtin b ts ty (args.map fun | .const _=>true | _=>false) (args.map a.eval)=(do pure (.value (← s)))->Does P keep w ρ h s r h'->DoesN P keep w ρ h (execOp a.eval ⟨dst,.call ⟨.builtin b,args,ts⟩,ty,pos,after,guard⟩) r h':=by
   intro w ρ h a s r h' hs hg
   obtain ⟨ρ',nx,v,w',h1,h2⟩:=doesN hg
   exact ⟨ρ',nx,v,w',by rw [run hs];exact h1,h2⟩
  cases b with
  | len =>
   simp only
   split
   ·rename_i k e hu
    exact good_rd fun w ρ h a us r hr hv hf=>by
     obtain ⟨u,rfl,h1⟩:=l1_some hf
     obtain ⟨v,e1,h2⟩:=hv.one
     exact gv (s:=Builtin.len_ ts ty #[v]) (by rw [args_one e1];rfl) (lenMap_sound hu ht hr h1 h2)
   ·exact good_pn fun w ρ a us r hv hf=>by
     obtain ⟨u,rfl,h1⟩:=l1_some hf
     obtain ⟨v,e1,h2⟩:=hv.one
     exact gv (s:=Builtin.len_ ts ty #[v]) (by rw [args_one e1];rfl) (len1_sound h1 h2 ht)
  | cap =>
   exact good_pn fun w ρ a us r hv hf=>by
    obtain ⟨u,rfl,h1⟩:=l1_some hf
    obtain ⟨v,e1,h2⟩:=hv.one
    exact gv (s:=Builtin.cap_ ts ty #[v]) (by rw [args_one e1];rfl) (cap1_sound h1 h2 ht)
  | max =>
   exact good_pn fun w ρ a us r hv hf=>by
    refine gv (s:=Builtin.max_ ts ty (args.map a.eval)) rfl ?_
    have:=max_sound (P:=P) (ts:=ts) (ty:=ty) (w:=w) hf hv
    rw [show (args.toList.map a.eval).toArray=args.map a.eval from by apply Array.toList_inj.1;simp] at this
    exact this
  | min =>
   exact good_pn fun w ρ a us r hv hf=>by
    refine gv (s:=Builtin.min_ ts ty (args.map a.eval)) rfl ?_
    have:=min_sound (P:=P) (ts:=ts) (ty:=ty) (w:=w) hf hv
    rw [show (args.toList.map a.eval).toArray=args.map a.eval from by apply Array.toList_inj.1;simp] at this
    exact this
  | append =>
   simp only
   split
   ·rename_i u hu1
    have key:∀ {d:TypeDesc},P.underlying u=some d->(∀ k,d≠.int k)->Good P keep find ⟨dst,.call ⟨.builtin .append,args,ts⟩,ty,pos,after,guard⟩ (onN (.ef fun vs id h=>l2 (fun s x=>appendS P t s x id h) vs) (resolves find args.toList)):=by
     intro d hud hint
     exact good_ef fun w ρ h a us id q hr hid hv hf=>by
      obtain ⟨s,x,rfl,h1⟩:=l2_some hf
      obtain ⟨v,v',e1,h2,h3⟩:=hv.two
      exact dv (s:=Builtin.append_ ts ty #[v,v']) (by rw [args_two e1];rfl) (appendS_sound ht hu1 hud hint hid hr h1 h2 h3)
    split
    ·rename_i hud;exact key hud (by intro k e;cases e)
    ·rename_i hud;exact key hud (by intro k e;cases e)
    ·trivial
   ·trivial
  | copy =>
   exact good_ef fun w ρ h a us id q hr hid hv hf=>by
    obtain ⟨s,x,rfl,h1⟩:=l2_some hf
    obtain ⟨v,v',e1,h2,h3⟩:=hv.two
    exact dv (s:=Builtin.copy_ ts ty #[v,v']) (by rw [args_two e1];rfl) (copyS_sound ht hr h1 h2 h3)
  | delete =>
   exact good_ef fun w ρ h a us id q hr hid hv hf=>by
    obtain ⟨s,x,rfl,h1⟩:=l2_some hf
    obtain ⟨v,v',e1,h2,h3⟩:=hv.two
    exact dv (s:=Builtin.delete_ ts ty #[v,v']) (by rw [args_two e1];rfl) (mapDel_sound ht hr h1 h2 h3)
  | unsafeSliceData =>
   exact good_pn fun w ρ a us r hv hf=>by
    obtain ⟨u,rfl,h1⟩:=l1_some hf
    obtain ⟨v,e1,h2⟩:=hv.one
    exact gv (s:=Builtin.unsafeSliceData_ ts ty #[v]) (by rw [args_one e1];rfl) (sliceData_sound h1 h2)
  | unsafeString =>
   simp only
   split
   ·rename_i e hu
    split
    ·rename_i hu8 hs1
     exact good_ef fun w ρ h a us id q hr hid hv hf=>by
      obtain ⟨s,x,rfl,h1⟩:=l2_some hf
      obtain ⟨v,v',e1,h2,h3⟩:=hv.two
      exact dv (s:=Builtin.unsafeString_ ts ty #[v,v']) (by rw [args_two e1];rfl) (strAt_sound ht hu hs1 hr h1 h2 h3)
    ·trivial
   ·trivial
  | clear =>
   exact good_ef fun w ρ h a us id q hr hid hv hf=>by
    obtain ⟨s,rfl,h1⟩:=l1_some hf
    obtain ⟨v,e1,h2⟩:=hv.one
    exact dv (s:=Builtin.clear_ ts ty #[v]) (by rw [args_one e1];rfl) (clearS_sound ht hr h1 h2)
  | _=>trivial
end
end Go.Am
namespace Go.Am
section
variable {P:Program} {keep:Keeps} {find:Nat->Option Opd}
theorem VRs.cons_inv {ρ : Pls} {u:AV} {us:List AV} {l:List Value} (hv:VRs ρ (u::us) l):∃ v t,l=v::t/\VR ρ u v/\VRs ρ us t:=hv
theorem run_ext {w:World} {k:FuncId} {fn:Func} {args:Array Value} {e:Array Value->Sem Value} (hf:P.funcs[k]?=some fn) (hb:fn.body=none) (hn:(fn.name == "runtime.NumGoroutine")=false) (h1:Extern.findNext fn=none) (h2:Extern.find fn=some e) {v:Value} (hr:(e args).run P w=.ok v w) :
  (callFunc k args).run P w=.ok (.value v) w:=by
 unfold callFunc
 simp only [program,Sem.run_bind]
 show ((match P.funcs[k]? with
  | none=>stuck "call: no such function"
  | some fn=>_:Sem Next)).run P w=_
 rw [hf]
 simp only [hn,hb,Option.isNone_none,Bool.false_eq_true,if_false,if_true,Sem.run_bind,h1,h2]
 show Result.andThen (Sem.run P (mark (Mark.extern k)) w) _=_
 simp [mark,Sem.run,hr]
theorem extOf_1 {k:FuncId} (h:extOf P k=1):∃ fn,P.funcs[k]?=some fn/\fn.body=none/\fn.name = "internal/abi.NoEscape" /\ fn.origin = "" := by
 unfold extOf at h
 split at h
 ·rename_i fn hf
  split at h
  ·rename_i hb
   rw [Bool.and_eq_true,Option.isNone_iff_eq_none,decide_eq_true_eq] at hb
   split at h
   ·exact ⟨fn,hf,hb.1,‹_›,hb.2⟩
   ·split at h <;> cases h
  ·cases h
 ·cases h
theorem extOf_2 {k:FuncId} (h:extOf P k=2):∃ fn,P.funcs[k]?=some fn/\fn.body=none/\fn.name = "internal/bytealg.IndexByteString" /\ fn.origin = "" := by
 unfold extOf at h
 split at h
 ·rename_i fn hf
  split at h
  ·rename_i hb
   rw [Bool.and_eq_true,Option.isNone_iff_eq_none,decide_eq_true_eq] at hb
   split at h
   ·cases h
   ·split at h
    ·exact ⟨fn,hf,hb.1,‹_›,hb.2⟩
    ·cases h
  ·cases h
 ·cases h
theorem indexByte_lo (c:UInt8):∀ (l:List UInt8),-1<=Lib.indexByte l c
 | []=>by simp [Lib.indexByte]
 | x::l=>by
  have:=indexByte_lo c l
  unfold Lib.indexByte
  split
  ·decide
  ·split
   ·decide
   ·omega
theorem findB_eq (c:UInt8):∀ (l:List UInt8) (i:Nat),findB c.toNat (l.map (·.toNat)) i=.int .i64 (if Lib.indexByte l c==-1 then -1 else (i:Int)+Lib.indexByte l c)
 | [],i=>rfl
 | x::l,i=>by
  have ih:=findB_eq c l (i+1)
  have hlo:=indexByte_lo c l
  show (Bool.rec (motive:=fun _=>AV) (findB c.toNat (l.map (·.toNat)) (i+1)) (.int .i64 (Int.ofNat i)) (Nat.beq x.toNat c.toNat):AV)=_
  rw [bool_rec_beq]
  unfold Lib.indexByte
  by_cases h:x.toNat=c.toNat
  ·have hx:x=c:=UInt8.toNat_inj.1 h
   subst hx
   simp
  ·rw [if_neg h,ih]
   have hx:¬x=c:=fun e=>h (by rw [e])
   have h0:(x==c)=false:=by simpa using hx
   simp only [h0,Bool.false_eq_true,if_false]
   by_cases h2:Lib.indexByte l c==-1
   ·simp [h2]
   ·have h2':¬Lib.indexByte l c=-1:=by simpa using h2
    have h3:¬(Lib.indexByte l c+1==-1)=true:=by simp;omega
    rw [if_neg h2,if_neg h2,if_neg h3]
    congr 1;push_cast;omega
theorem indexByte2_sound {w:World} {ρ : Pls} {s c r:AV} {a b:Value} (hf:indexByte2 s c=some r) (hs:VR ρ s a) (hc:VR ρ c b):∃ v,(Extern.BytealgIndexByte.indexByte #[a,b]).run P w=.ok v w/\VR ρ r v:=by
 obtain ⟨l,rfl,h1⟩:=eStr_some hf
 obtain ⟨k,h2,h3⟩:=ob_some.1 h1
 cases h3
 obtain ⟨rfl,hk⟩:=byteVal h2
 obtain ⟨sb,rfl,rfl⟩:=hs
 cases hc
 refine ⟨_,Lib.run_indexByteString sb _ w,?_⟩
 have hk':(UInt8.ofNat k).toNat=k:=by rw [UInt8.toNat_ofNat'];omega
 have:=findB_eq (UInt8.ofNat k) sb.data.toList 0
 rw [hk'] at this
 rw [this]
 have e:(Int.ofNat k).toNat.toUInt8=UInt8.ofNat k:=rfl
 rw [e]
 show Value.int .i64 _=Value.int .i64 _
 congr 1
 have hlo:=indexByte_lo (UInt8.ofNat k) sb.data.toList
 split
 ·rename_i h;simpa using h
 ·simp
theorem compOp_good (o:Oper):Good P keep find o (compOp P find o.op):=by
 obtain ⟨dst,op,ty,pos,after,guard⟩:=o
 cases op with
 | move x =>
  simp only [compOp]
  cases hx:Am.resolve find x with
  | none=>trivial
  | some y=>intro loc vs tm ρ h w a hr he v hv;exact ⟨a.eval x,rfl,resolve_sound he hx hv⟩
 | assign x =>
  simp only [compOp]
  cases hx:Am.resolve find x with
  | none=>trivial
  | some y=>intro loc vs tm ρ h w a hr he v hv;exact ⟨a.eval x,rfl,resolve_sound he hx hv⟩
 | pick c x y =>
  simp only [compOp]
  cases hc:Am.resolve find c with
  | none=>trivial
  | some c' =>
   cases hx:Am.resolve find x with
   | none=>trivial
   | some x' =>
    cases hy:Am.resolve find y with
    | none=>trivial
    | some y' =>
     intro loc vs tm ρ h w a hr he t r h1 h2
     have e1:=VR.bool (resolve_sound he hc h1)
     cases t with
     | true =>
      simp only [if_true] at h2
      refine ⟨a.eval x,?_,resolve_sound he hx h2⟩
      simp only [execOp,e1,asBool,Sem.run_bind,Sem.run_pure,Result.andThen_ok,if_true]
     | false =>
      simp only [Bool.false_eq_true,if_false] at h2
      refine ⟨a.eval y,?_,resolve_sound he hy h2⟩
      simp only [execOp,e1,asBool,Sem.run_bind,Sem.run_pure,Result.andThen_ok,Bool.false_eq_true,if_false]
 | alloc t =>
  intro loc vs tm ρ h w a hr he us r _ hf
  exact makesN (allocN_sound hf)
 | box t x =>
  exact good_al fun w ρ a us r hv hf=>by
   obtain ⟨u,rfl,h1⟩:=l1_some hf
   obtain ⟨v,e1,h2⟩:=hv.one
   simp only [List.map_cons,List.map_nil,List.cons.injEq,and_true] at e1
   subst e1
   exact makesN (box1_sound h1 h2)
 | build t ps =>
  exact good_pn fun w ρ a us r hv hf=>by
   have e:=map_toList_pair ps a.eval
   exact givesN (buildN_sound (ps:=ps.map fun (i,x)=>(i,a.eval x)) (by rw [e.1];exact hf) (by rw [e.2];exact hv))
 | buildSlice t n ps =>
  exact good_al fun w ρ a us r hv hf=>by
   have e:=map_toList_pair ps a.eval
   have hb:Makes P keep w ρ (Instr.buildSlice t n (ps.map fun (i,x)=>(i,a.eval x))) r:=by
    apply buildSliceN_sound
    ·rw [e.1];exact hf
    ·rw [e.2];exact hv
   have hm:=makesN hb
   exact hm
 | insert t m k x =>
  exact good_ef fun w ρ h a us id q hr hid hv hf=>by
   obtain ⟨u1,u2,u3,rfl,h1⟩:=l3_some hf
   obtain ⟨v1,t1,e1,h2,h3⟩:=hv.cons_inv
   obtain ⟨v2,t2,e2,h4,h5⟩:=h3.cons_inv
   obtain ⟨v3,e3,h6⟩:=h5.one
   subst e3 e2
   simp only [List.map_cons,List.map_nil,List.cons.injEq,and_true] at e1
   obtain ⟨rfl,rfl,rfl⟩:=e1
   obtain ⟨h7,h8⟩:=mapUpd_sound hr h1 h2 h4 h6
   rw [h7];exact doesU h8
 | load t x =>
  simp only [compOp]
  cases hx:Am.resolve find x with
  | none=>trivial
  | some y =>
   cases hs:tSize P t with
   | none=>trivial
   | some s =>
    cases hg:tAgg P t with
    | none=>trivial
    | some g =>
     cases g with
     | false=>intro loc vs tm ρ h w a hr he v r hv hf;exact givesN (load1_sound hg hr hf (resolve_sound he hx hv))
     | true=>intro loc vs tm ρ h w a hr he v r hv hf;exact givesN (loadN_sound hs hg hr hf (resolve_sound he hx hv))
 | store t x y =>
  simp only [compOp]
  cases hx:Am.resolve find x with
  | none=>trivial
  | some x' =>
   cases hy:Am.resolve find y with
   | none=>trivial
   | some y' =>
    cases hs:tSize P t with
    | none=>trivial
    | some s =>
     cases hg:tAgg P t with
     | none=>match s with | 0 | 1 | _+2=>trivial
     | some g =>
      have many:∀ loc vs tm ρ h w a,HR P keep ρ h w->EnvOk find loc vs tm ρ a->∀ us (id:Nat) q,h.next<=id->gets [x',y'] loc vs tm=some us->l2 (storeN s h) us=some q->DoesN P keep w ρ h (execOp a.eval ⟨dst,.store t x y,ty,pos,after,guard⟩) q.1 q.2:=by
       intro loc vs tm ρ h w a hr he us id q _ hg hf
       obtain ⟨u1,u2,rfl,h1⟩:=l2_some hf
       rw [gets_cons] at hg
       obtain ⟨v,g1,g2⟩:=ob_some.1 hg
       obtain ⟨us',g3,g4⟩:=ob_some.1 g2
       rw [gets_cons] at g3
       obtain ⟨v',g5,g6⟩:=ob_some.1 g3
       cases g6;cases g4
       obtain ⟨h7,h8⟩:=storeN_sound hs hr h1 (resolve_sound he hx g1) (resolve_sound he hy g5)
       rw [h7];exact doesU h8
      match s,g with
      | 1,false =>
       intro loc vs tm ρ h w a hr he p v q hp hv hf
       obtain ⟨h7,h8⟩:=store1_sound hs hr hf (resolve_sound he hx hp) (resolve_sound he hy hv)
       rw [h7];exact doesU h8
      | 0,false=>trivial
      | _+2,false=>trivial
      | 0,true=>exact many
      | 1,true=>exact many
      | _+2,true=>exact many
 | nilCheck x=>exact good_on1 fun w ρ a v r hv hf=>notNil_sound hv hf
 | binOp op t x y u =>
  exact good_on2 fun w ρ a v u r hv hu hf=>givesN (bin2_sound hf hv hu)
 | unOp op t x=>exact good_on1 fun w ρ a v r hv hf=>givesN (un1_sound hf hv)
 | convert s d x =>
  simp only [compOp]
  split
  ·rename_i e hs hd
   exact good_al fun w ρ a us r hv hf=>by
    obtain ⟨u,rfl,h1⟩:=l1_some hf
    obtain ⟨v,e1,h2⟩:=hv.one
    simp only [List.map_cons,List.map_nil,List.cons.injEq,and_true] at e1
    subst e1
    exact makesN (toBytes1_sound hs hd h1 h2)
  ·rename_i e hs hd
   exact good_rd fun w ρ h a us r hr hv hf=>by
    obtain ⟨u,rfl,h1⟩:=l1_some hf
    obtain ⟨v,e1,h2⟩:=hv.one
    simp only [List.map_cons,List.map_nil,List.cons.injEq,and_true] at e1
    subst e1
    exact givesN (ofBytes1_sound hr hs hd h1 h2)
  ·rename_i t hs hd
   exact good_rd fun w ρ h a us r hr hv hf=>by
    obtain ⟨u,rfl,h1⟩:=l1_some hf
    obtain ⟨v,e1,h2⟩:=hv.one
    simp only [List.map_cons,List.map_nil,List.cons.injEq,and_true] at e1
    subst e1
    exact givesN (toUnsafe_sound hs hd hr h1 h2)
  ·rename_i u hs hd
   exact good_rd fun w ρ h a us r hr hv hf=>by
    obtain ⟨u,rfl,h1⟩:=l1_some hf
    obtain ⟨v,e1,h2⟩:=hv.one
    simp only [List.map_cons,List.map_nil,List.cons.injEq,and_true] at e1
    subst e1
    exact givesN (fromUnsafe_sound hs hd hr h1 h2)
  ·exact good_on1 fun w ρ a v r hv hf=>givesN (conv1_sound hf hv)
 | makeInterface t x=>exact good_on1 fun w ρ a v r hv hf=>givesN (toIface_sound hf hv)
 | makeFunc fn first cap =>
  exact good_pn fun w ρ a us r hv hf=>givesN (mkFunc_sound (first:=first.map a.eval) (cap:=cap.map a.eval) hf (by simp) (by simpa using hv))
 | makeMap t r0 =>
  cases r0 with
  | none =>
   intro loc vs tm ρ h w a hr he us r _ hf
   exact makesN (makeMap0_sound hf)
  | some x =>
   exact good_al fun w ρ a us r hv hf=>by
    obtain ⟨u,rfl,h1⟩:=l1_some hf
    obtain ⟨v,e1,h2⟩:=hv.one
    simp only [List.map_cons,List.map_nil,List.cons.injEq,and_true] at e1
    subst e1
    exact makesN (makeMap1_sound h1 h2)
 | makeSlice t l c =>
  exact good_al fun w ρ a us r hv hf=>by
   obtain ⟨u,u',rfl,h1⟩:=l2_some hf
   obtain ⟨v,v',e1,h2,h3⟩:=hv.two
   simp only [List.map_cons,List.map_nil,List.cons.injEq,and_true] at e1
   obtain ⟨rfl,rfl⟩:=e1
   exact makesN (makeSlice2_sound h1 h2 h3)
 | slice t x lo hi mx =>
  exact good_pn fun w ρ a us r hv hf=>by
   obtain ⟨u,us',e0,hv1,hv2⟩:∃ u us',us=u::us'/\VR ρ u (a.eval x)/\VRs ρ us' ((lo.toList++(hi.toList++mx.toList)).map a.eval):=by
    cases us with
    | nil=>cases hv
    | cons u us' =>
     obtain ⟨v,t1,e1,h2,h3⟩:=hv.cons_inv
     simp only [List.map_cons,List.cons.injEq] at e1
     obtain ⟨rfl,rfl⟩:=e1
     exact ⟨u,us',rfl,h2,h3⟩
   subst e0
   refine givesN (?_:Gives P w ρ (Instr.sliceAt t (a.eval x) (lo.map a.eval) (hi.map a.eval) (mx.map a.eval)) r)
   have hnone:OR ρ none ((none:Option Operand).map a.eval):=rfl
   have hsome:∀ {u:AV} {y:Operand},VR ρ u (a.eval y)->OR ρ (some u) ((some y).map a.eval):=fun h=>⟨_,rfl,h⟩
   unfold sliceN at hf
   cases lo <;> cases hi <;> cases mx <;> simp only [Option.isSome_none,Option.isSome_some] at hf
   ·obtain ⟨_,e,h1⟩:=l1_some hf
    cases e
    exact sliceV_sound h1 hv1 hnone hnone hnone
   ·cases hf
   ·obtain ⟨_,b,e,h1⟩:=l2_some hf
    cases e
    obtain ⟨v,e1,h2⟩:=hv2.one
    simp at e1;subst e1
    exact sliceV_sound h1 hv1 hnone (hsome h2) hnone
   ·obtain ⟨_,b,c,e,h1⟩:=l3_some hf
    cases e
    obtain ⟨v,v',e1,h2,h3⟩:=hv2.two
    simp at e1;obtain ⟨rfl,rfl⟩:=e1
    exact sliceV_sound h1 hv1 hnone (hsome h2) (hsome h3)
   ·obtain ⟨_,b,e,h1⟩:=l2_some hf
    cases e
    obtain ⟨v,e1,h2⟩:=hv2.one
    simp at e1;subst e1
    exact sliceV_sound h1 hv1 (hsome h2) hnone hnone
   ·cases hf
   ·obtain ⟨_,b,c,e,h1⟩:=l3_some hf
    cases e
    obtain ⟨v,v',e1,h2,h3⟩:=hv2.two
    simp at e1;obtain ⟨rfl,rfl⟩:=e1
    exact sliceV_sound h1 hv1 (hsome h2) (hsome h3) hnone
   ·obtain ⟨_,b,c,d,e,h1⟩:=l4_some hf
    cases e
    obtain ⟨v,t1,e1,h2,h3⟩:=hv2.cons_inv
    obtain ⟨v',v'',e2,h4,h5⟩:=h3.two
    subst e2
    simp at e1;obtain ⟨rfl,rfl,rfl⟩:=e1
    exact sliceV_sound h1 hv1 (hsome h2) (hsome h4) (hsome h5)
 | fieldAddr t x f=>exact good_on1 fun w ρ a v r hv hf=>givesN (fieldAddr1_sound hf hv)
 | field t x f=>exact good_on1 fun w ρ a v r hv hf=>givesN (field1_sound hf hv)
 | indexAddr t x i=>exact good_on2 fun w ρ a v u r hv hu hf=>givesN (indexAddr2_sound hf hv hu)
 | index t x i=>exact good_on2 fun w ρ a v u r hv hu hf=>givesN (index2_sound hf hv hu)
 | lookup t m k ok =>
  exact good_rd fun w ρ h a us r hr hv hf=>by
   obtain ⟨u,u',rfl,h1⟩:=l2_some hf
   obtain ⟨v,v',e1,h2,h3⟩:=hv.two
   simp only [List.map_cons,List.map_nil,List.cons.injEq,and_true] at e1
   obtain ⟨rfl,rfl⟩:=e1
   exact givesN (lookup2_sound hr h1 h2 h3)
 | mapUpdate t m k x =>
  exact good_ef fun w ρ h a us id q hr hid hv hf=>by
   obtain ⟨u1,u2,u3,rfl,h1⟩:=l3_some hf
   obtain ⟨v1,t1,e1,h2,h3⟩:=hv.cons_inv
   obtain ⟨v2,t2,e2,h4,h5⟩:=h3.cons_inv
   obtain ⟨v3,e3,h6⟩:=h5.one
   subst e3 e2
   simp only [List.map_cons,List.map_nil,List.cons.injEq,and_true] at e1
   obtain ⟨rfl,rfl,rfl⟩:=e1
   obtain ⟨h7,h8⟩:=mapUpd_sound hr h1 h2 h4 h6
   rw [h7];exact doesU h8
 | range t x =>
  exact good_ef fun w ρ h a us id q hr hid hv hf=>by
   obtain ⟨u,rfl,h1⟩:=l1_some hf
   obtain ⟨v,e1,h2⟩:=hv.one
   simp only [List.map_cons,List.map_nil,List.cons.injEq,and_true] at e1
   subst e1
   exact doesN (rangeS_sound hid hr h1 h2)
 | next it isString =>
  cases isString with
  | false=>trivial
  | true =>
   exact good_ef fun w ρ h a us id q hr hid hv hf=>by
    obtain ⟨u,rfl,h1⟩:=l1_some hf
    obtain ⟨v,e1,h2⟩:=hv.one
    simp only [List.map_cons,List.map_nil,List.cons.injEq,and_true] at e1
    subst e1
    exact doesN (nextS_sound hr h1 h2)
 | extract t i=>exact good_on1 fun w ρ a v r hv hf=>givesN (nthTuple_sound hf hv)
 | call c =>
  obtain ⟨callee,args,ts⟩:=c
  cases callee with
  | builtin b=>exact builtin_good b args ts
  | invoke r m=>trivial
  | value f =>
   have generic:Good P keep find ⟨dst,.call ⟨.value f,args,ts⟩,ty,pos,after,guard⟩ (match Am.resolve find f,resolves find args.toList with | some g,some xs=>.cl g xs | _,_=>.bad):=by
    cases hf:Am.resolve find f with
    | none=>trivial
    | some g =>
     cases hx:resolves find args.toList with
     | none=>trivial
     | some xs=>exact ⟨f,args,ts,rfl,hf,hx⟩
   cases f with
   | func k =>
    simp only [compOp]
    split
    ·rename_i hk
     obtain ⟨fn,h1,h2,h3,h4⟩:=extOf_1 hk
     obtain ⟨h5,h6⟩:=find_noEscape fn h3 h4
     exact good_pn fun w ρ a us r hv hf=>by
      obtain ⟨u,rfl,h7⟩:=l1_some hf
      cases h7
      obtain ⟨v,e1,h8⟩:=hv.one
      refine ⟨v,?_,h8⟩
      have e2:=args_one e1
      simp only [execOp,Go.resolve,Act.eval,Deferred.ofValue,Sem.run_bind,Sem.run_pure,Result.andThen_ok,invoke]
      rw [e2]
      simp only [Array.append_empty,Array.empty_append]
      exact run_ext h1 h2 (by rw [h3];decide) h5 h6 rfl
    ·rename_i hk
     obtain ⟨fn,h1,h2,h3,h4⟩:=extOf_2 hk
     obtain ⟨h5,h6⟩:=find_indexByte fn h3 h4
     exact good_pn fun w ρ a us r hv hf=>by
      obtain ⟨u,u',rfl,h7⟩:=l2_some hf
      obtain ⟨v,v',e1,h8,h9⟩:=hv.two
      obtain ⟨x,h10,h11⟩:=indexByte2_sound (P:=P) (w:=w) h7 h8 h9
      refine ⟨x,?_,h11⟩
      have e2:=args_two e1
      simp only [execOp,Go.resolve,Act.eval,Deferred.ofValue,Sem.run_bind,Sem.run_pure,Result.andThen_ok,invoke]
      rw [e2]
      simp only [Array.append_empty,Array.empty_append]
      exact run_ext h1 h2 (by rw [h3];decide) h5 h6 h10
    ·cases hx:resolves find args.toList with
     | none=>trivial
     | some xs=>exact ⟨.func k,args,ts,rfl,rfl,hx⟩
   | tmp t =>
   simp only [compOp]
   exact generic
   | const t =>
   simp only [compOp]
   exact generic
   | global t =>
   simp only [compOp]
   exact generic
 | _=>trivial
end
end Go.Am
namespace Go.Am
def fen (ro:Option Nat):Fence:={ Fence.wide with round:=ro }
section
variable {P:Program} {keep:Keeps} {w:World} {ρ : Pls} {h:Heap}
def Ret (P:Program) (keep:Keeps) (ρ : Pls) (h:Heap) (w:World) (r:AV×Heap):Ending->World->Prop
 | .returned v,w'=>∃ ρ',VR ρ' r.1 v/\Post P keep ρ h w ρ' r.2 w'
 | _,_=>False
def CallOk (P:Program) (keep:Keeps) (call:CallFn):Prop:=∀ t args h r,call t args h=some r->∀ ρ w avs,HR P keep ρ h w->VRs ρ args avs ->
 match t with
 | .fn f=>(∃ fn c,P.funcs[f]?=some fn/\fn.body=some c)/\CallsIn (fen none) 0 P f avs.toArray w (Ret P keep ρ h w r)
 | .loop l=>∀ p,ρ l=some p->∃ f tmps assign body,(Instr.yield p.blk avs.toArray).run P w=.ok (.round p.blk f tmps assign body) w/\RoundIn (fen none) 0 P p.blk f tmps assign body w (Ret P keep ρ h w r)
def nameOk (fn:Func):Bool:=fn.body.isNone||!(fn.name == "runtime.NumGoroutine")
def NamesOk (P:Program):Prop:=P.funcs.all nameOk=true
theorem run_callFunc (hn:NamesOk P) {f:FuncId} {fn:Func} {c:Code} {args:Array Value} (hf:P.funcs[f]?=some fn) (hb:fn.body=some c):(callFunc f args).run P w=.ok (.enter f args) w:=by
 have h1:nameOk fn=true:=by
  unfold NamesOk at hn
  rw [Array.all_eq_true'] at hn
  exact hn fn (Array.mem_of_getElem? hf)
 simp only [nameOk,hb,Option.isNone_some,Bool.false_or,Bool.not_eq_true'] at h1
 have h2:fn.name ≠ "runtime.NumGoroutine" := by simpa using h1
 simp [callFunc,hf,h2,hb]
theorem step_sound {call:CallFn} {find:Nat->Option Opd} {loc:List AV} {vs tm:Tr AV} {a:Act} {o:Oper} {id:Nat} {r:AV×Heap} {ro:Option Nat} {next:Act->World->Prop} {Q:Exit->Act->World->Prop}
  (hn:NamesOk P) (hc:CallOk P keep call) (hr:HR P keep ρ h w) (he:EnvOk find loc vs tm ρ a) (hid:h.next<=id) (hi:(compOp P find o.op).ev loc vs tm call id h=some r)
  (hnext:∀ ρ' v w',VR ρ' r.1 v->Post P keep ρ h w ρ' r.2 w'->next (a.put o.dst v) w'):o.wpIn (fen ro) 0 P a w next Q:=by
 refine ⟨fun _ _=>trivial,?_⟩
 have hnd:∀ c,o.op≠.defer c:=by
  intro c e
  rw [e] at hi
  cases hi
 rw [Oper.semAt_eq _ _ _ hnd]
 have hg:=compOp_good (P:=P) (keep:=keep) (find:=find) o
 have give:∀ {v:AV},GivesN P w ρ (execOp a.eval o) v->some r=some (v,h)->o.uponIn (fen ro) 0 P a next Q ((execOp a.eval o).run P w):=by
  intro v hv e
  cases e
  obtain ⟨cv,h1,h2⟩:=hv
  rw [h1]
  exact hnext ρ cv w h2 (Post.refl hr)
 have does:DoesN P keep w ρ h (execOp a.eval o) r.1 r.2->o.uponIn (fen ro) 0 P a next Q ((execOp a.eval o).run P w):=by
  intro hd
  obtain ⟨ρ',nx,v,w',h1,h2,h3,h4⟩:=hd
  rw [h1]
  rcases h2 with rfl|⟨rfl,rfl⟩
  ·exact hnext ρ' v w' h3 h4
  ·exact hnext ρ' undef w' h3 h4
 cases hco:compOp P find o.op with
 | bad=>rw [hco] at hi;cases hi
 | mv x =>
  rw [hco] at hi hg
  obtain ⟨v,h1,h2⟩:=ob_some.1 (show ob (x.get loc vs tm) (fun v=>some (v,h))=some r from hi)
  exact give (hg loc vs tm ρ h w a hr he v h1) h2.symm
 | p1 f x =>
  rw [hco] at hi hg
  obtain ⟨v,h1,h2⟩:=ob_some.1 (show ob (x.get loc vs tm) (fun v=>ob (f v) fun r=>some (r,h))=some r from hi)
  obtain ⟨u,h3,h4⟩:=ob_some.1 h2
  exact give (hg loc vs tm ρ h w a hr he v u h1 h3) h4.symm
 | p2 f x y =>
  rw [hco] at hi hg
  obtain ⟨v,h1,h2⟩:=ob_some.1 (show ob (x.get loc vs tm) (fun v=>ob (y.get loc vs tm) fun u=>ob (f v u) fun r=>some (r,h))=some r from hi)
  obtain ⟨u,h3,h4⟩:=ob_some.1 h2
  obtain ⟨s,h5,h6⟩:=ob_some.1 h4
  exact give (hg loc vs tm ρ h w a hr he v u s h1 h3 h5) h6.symm
 | pick c x y =>
  rw [hco] at hi hg
  obtain ⟨v,h1,h2⟩:=ob_some.1 (show ob (c.get loc vs tm) (fun v=>eBool (fun t=>ob (Bool.rec (motive:=fun _=>Option AV) (y.get loc vs tm) (x.get loc vs tm) t) fun r=>some (r,h)) v)=some r from hi)
  obtain ⟨t,e,h3⟩:=eBool_some h2
  subst e
  obtain ⟨s,h5,h6⟩:=ob_some.1 h3
  refine give (hg loc vs tm ρ h w a hr he t s h1 ?_) h6.symm
  cases t <;> exact h5
 | pn f xs =>
  rw [hco] at hi hg
  obtain ⟨v,h1,h2⟩:=ob_some.1 (show ob (gets xs loc vs tm) (fun v=>ob (f v) fun r=>some (r,h))=some r from hi)
  obtain ⟨u,h3,h4⟩:=ob_some.1 h2
  exact give (hg loc vs tm ρ h w a hr he v u h1 h3) h4.symm
 | ld1 x =>
  rw [hco] at hi hg
  obtain ⟨v,h1,h2⟩:=ob_some.1 (show ob (x.get loc vs tm) (fun v=>ob (load1 h v) fun r=>some (r,h))=some r from hi)
  obtain ⟨u,h3,h4⟩:=ob_some.1 h2
  exact give (hg loc vs tm ρ h w a hr he v u h1 h3) h4.symm
 | ldn s x =>
  rw [hco] at hi hg
  obtain ⟨v,h1,h2⟩:=ob_some.1 (show ob (x.get loc vs tm) (fun v=>ob (loadN s h v) fun r=>some (r,h))=some r from hi)
  obtain ⟨u,h3,h4⟩:=ob_some.1 h2
  exact give (hg loc vs tm ρ h w a hr he v u h1 h3) h4.symm
 | rd f xs =>
  rw [hco] at hi hg
  obtain ⟨v,h1,h2⟩:=ob_some.1 (show ob (gets xs loc vs tm) (fun v=>ob (f v h) fun r=>some (r,h))=some r from hi)
  obtain ⟨u,h3,h4⟩:=ob_some.1 h2
  exact give (hg loc vs tm ρ h w a hr he v u h1 h3) h4.symm
 | al f xs =>
  rw [hco] at hi hg
  obtain ⟨v,h1,h2⟩:=ob_some.1 (show ob (gets xs loc vs tm) (fun v=>ob (f v) fun r=>some (r.2 id,h.new id r.1))=some r from hi)
  obtain ⟨u,h3,h4⟩:=ob_some.1 h2
  cases h4
  obtain ⟨ob',sz,cv,w',g1,g2,g3,g4,g5⟩:=hg loc vs tm ρ h w a hr he v u h1 h3
  have f1:=(hr.fresh hid).1
  obtain ⟨g6,g7⟩:=g5 id f1
  refine does ⟨_,_,cv,w',g1,.inl rfl,g7,?_⟩
  rw [new_eq hid]
  exact hr.push hid (by omega) g2 g3 g4 g6
 | st1 x y =>
  rw [hco] at hi hg
  obtain ⟨v,h1,h2⟩:=ob_some.1 (show ob (x.get loc vs tm) (fun p=>ob (y.get loc vs tm) fun v=>store1 h p v)=some r from hi)
  obtain ⟨u,h3,h4⟩:=ob_some.1 h2
  exact does (hg loc vs tm ρ h w a hr he v u r h1 h3 h4)
 | ef f xs =>
  rw [hco] at hi hg
  obtain ⟨v,h1,h2⟩:=ob_some.1 (show ob (gets xs loc vs tm) (fun v=>f v id h)=some r from hi)
  exact does (hg loc vs tm ρ h w a hr he v id r hid h1 h2)
 | cl g xs =>
  rw [hco] at hi hg
  obtain ⟨g0,args,ts,hop,hg0,hxs⟩:=hg
  obtain ⟨fv,h1,h2⟩:=ob_some.1 (show ob (g.get loc vs tm) (fun f=>ob (gets xs loc vs tm) fun us=>applyV call us h f)=some r from hi)
  obtain ⟨us,h3,h4⟩:=ob_some.1 h2
  have vf:=resolve_sound he hg0 h1
  have va:=resolves_sound he hxs h3
  obtain ⟨fn,first,cap,e,h5⟩:=eFunc_some (show eFunc _ fv=some r from h4)
  subst e
  obtain ⟨fn',a',b',e2,hf,ha,hb⟩:=vf
  have hex:execOp a.eval o=(do let d ← Deferred.ofValue (a.eval g0) (args.map a.eval);invoke d.target d.args):=by
   obtain ⟨dst,op,ty,pos,after,guard⟩:=o
   simp only at hop
   subst hop
   rfl
  have hargs:(args.toList.map a.eval)=(args.map a.eval).toList:=by simp
  rw [hargs] at va
  cases fn with
  | func f =>
   cases hf
   have h6:call (.fn f) (app' first (app' us cap)) h=some r:=h5
   obtain ⟨⟨fn,c,hfn,hbody⟩,hcall⟩:=hc _ _ _ _ h6 ρ w ((a'++args.map a.eval++b').toList) hr (by
    rw [app'_eq,app'_eq]
    simp only [Array.toList_append,List.append_assoc]
    exact ha.append (va.append hb))
   have hrun:(execOp a.eval o).run P w=.ok (.enter f (a'++args.map a.eval++b')) w:=by
    rw [hex,e2]
    simp only [Deferred.ofValue,Sem.run_bind,Sem.run_pure,Result.andThen_ok,invoke]
    exact run_callFunc hn hfn hbody
   rw [hrun,Oper.uponIn_enter]
   refine ⟨fun hd=>(by cases hd),?_⟩
   rw [Array.toArray_toList] at hcall
   refine CallsIn.mono (F:=fen none) hcall (fun e w' hR=>?_)
   cases e with
   | returned v=>obtain ⟨ρ',h7,h8⟩:=hR;exact hnext ρ' v w' h7 h8
   | panicked chain=>exact hR.elim
   | outgrown=>exact hR.elim
  | yield l =>
   obtain ⟨p,hp,h0,rfl⟩:=hf
   have h6:call (.loop l) (app' first us) h=some r:=h5
   obtain ⟨f,tmps,assign,body,hy,hcall⟩:=hc _ _ _ _ h6 ρ w ((a'++args.map a.eval).toList) hr (by
    rw [app'_eq]
    simp only [Array.toList_append]
    exact ha.append va) p hp
   have hrun:(execOp a.eval o).run P w=.ok (.round p.blk f tmps assign body) w:=by
    rw [hex,e2]
    simp only [Deferred.ofValue,Sem.run_bind,Sem.run_pure,Result.andThen_ok,invoke]
    rw [Array.toArray_toList] at hy
    exact hy
   rw [hrun,Oper.uponIn_round]
   refine ⟨fun hd=>(by cases hd),?_⟩
   refine RoundIn.mono (F:=fen none) hcall (fun e w' hR=>?_)
   cases e with
   | returned v=>obtain ⟨ρ',h7,h8⟩:=hR;exact hnext ρ' v w' h7 h8
   | panicked chain=>exact hR.elim
   | outgrown=>exact hR.elim
  | _=>cases hf
end
end Go.Am
namespace Go.Am
section
variable {P:Program} {keep:Keeps} {w:World} {ρ : Pls} {h:Heap}
theorem wanted_sound {find:Nat->Option Opd} {loc:List AV} {vs tm:Tr AV} {a:Act} (he:EnvOk find loc vs tm ρ a) {ops:Array Oper} {o:Oper} {j d:Nat} {want:Bool} {c:Opd} {v:AV}
  (hg:o.guard=some (j,want)) (hd:(ops[j]?).bind (·.dst)=some d) (hc:find d=some c) (hv:c.get loc vs tm=some v):Region.wanted o (yielded ops a.tmps)=wanted want v:=by
 have h1:=he d c v hc hv
 simp only [Region.wanted,hg]
 have key:∀ (x:Value),a.tmps.getD d undef=x->(∀ b,x≠.bool b)->yielded ops a.tmps j=none:=by
  intro x hx hne
  simp only [yielded,hd,Option.bind_some]
  cases hq:a.tmps[d]? with
  | none=>rfl
  | some y =>
   have:a.tmps.getD d undef=y:=by rw [Array.getD_eq_getD_getElem?,hq];rfl
   rw [this] at hx
   subst hx
   cases y with
   | bool b=>exact absurd rfl (hne b)
   | _=>rfl
 cases v with
 | bool b =>
  have h2:a.tmps.getD d undef=.bool b:=h1
  have h3:a.tmps[d]?=some (.bool b):=by
   rw [Array.getD_eq_getD_getElem?] at h2
   cases hq:a.tmps[d]? with
   | none=>rw [hq] at h2;cases h2
   | some x=>rw [hq] at h2;simp at h2;rw [h2]
  have h4:yielded ops a.tmps j=some b:=by simp only [yielded,hd,Option.bind_some,h3]
  rw [h4]
  show (some b==some want)=eqB b want
  rw [eqB_eq]
  cases b <;> cases want <;> rfl
 | int k n=>rw [key _ h1 (by intro b e;cases e)];rfl
 | str s=>obtain ⟨b,e,_⟩:=h1;rw [key _ e (by intro b e;cases e)];rfl
 | ptr o =>
  cases o with
  | none=>rw [key _ h1 (by intro b e;cases e)];rfl
  | some p=>obtain ⟨_,_,e⟩:=h1;rw [key _ e (by intro b e;cases e)];rfl
 | slice o n c g =>
  cases o with
  | none=>obtain ⟨_,_,_,e⟩:=h1;rw [key _ e (by intro b e;cases e)];rfl
  | some p=>obtain ⟨_,_,_,_,e,_⟩:=h1;rw [key _ e (by intro b e;cases e)];rfl
 | map o =>
  cases o with
  | none=>rw [key _ h1 (by intro b e;cases e)];rfl
  | some p=>obtain ⟨_,_,_,e⟩:=h1;rw [key _ e (by intro b e;cases e)];rfl
 | func f x y=>obtain ⟨_,_,_,e,_⟩:=h1;rw [key _ e (by intro b e;cases e)];rfl
 | nilFunc=>rw [key _ h1 (by intro b e;cases e)];rfl
 | iface t x=>obtain ⟨_,e,_⟩:=h1;rw [key _ e (by intro b e;cases e)];rfl
 | nilIface=>rw [key _ h1 (by intro b e;cases e)];rfl
 | agg cs=>obtain ⟨_,e,_⟩:=h1;rw [key _ e (by intro b e;cases e)];rfl
 | tuple cs=>obtain ⟨_,e,_⟩:=h1;rw [key _ e (by intro b e;cases e)];rfl
theorem compG_cases {find:Nat->Option Opd} {ops:Array Oper} {g:Option (Nat×Bool)} {i:Ins} {loc:List AV} {vs tm:Tr AV} {call:CallFn} {id:Nat} {r:AV×Heap} (he:(compG find ops g i).ev loc vs tm call id h=some r) :
  (g=none/\i.ev loc vs tm call id h=some r) ∨
  ∃ j want d c v,g=some (j,want)/\(ops[j]?).bind (·.dst)=some d/\find d=some c/\c.get loc vs tm=some v/\((wanted want v=true/\i.ev loc vs tm call id h=some r)∨(wanted want v=false/\r=(undefA,h))):=by
 cases g with
 | none=>exact .inl ⟨rfl,he⟩
 | some jw =>
  obtain ⟨j,want⟩:=jw
  right
  simp only [compG] at he
  cases hd:(ops[j]?).bind (·.dst) with
  | none=>rw [hd] at he;cases he
  | some d =>
   rw [hd] at he
   simp only at he
   cases hc:find d with
   | none=>rw [hc] at he;cases he
   | some c =>
    rw [hc] at he
    have he:ob (c.get loc vs tm) (fun v=>Bool.rec (motive:=fun _=>Res) (some (undefA,h)) (i.ev loc vs tm call id h) (wanted want v))=some r:=he
    obtain ⟨v,h1,h2⟩:=ob_some.1 he
    refine ⟨j,want,d,c,v,rfl,hd,hc,h1,?_⟩
    cases hw:wanted want v with
    | true=>rw [hw] at h2;exact .inl ⟨rfl,h2⟩
    | false=>rw [hw] at h2;cases h2;exact .inr ⟨rfl,rfl⟩
theorem gstep_sound {call:CallFn} {find:Nat->Option Opd} {loc:List AV} {vs tm:Tr AV} {a:Act} {ops:Array Oper} {o:Oper} {i id:Nat} {r:AV×Heap} {ro:Option Nat} {rest:List Nat} {Q:Exit->Act->World->Prop}
  (hn:NamesOk P) (hc:CallOk P keep call) (hr:HR P keep ρ h w) (he:EnvOk find loc vs tm ρ a) (hid:h.next<=id) (ho:ops[i]?=some o) (hi:(compG find ops o.guard (compOp P find o.op)).ev loc vs tm call id h=some r)
  (hnext:∀ ρ' v w',VR ρ' r.1 v->Post P keep ρ h w ρ' r.2 w'->wpOpsIn (fen ro) 0 P ops Q rest (a.put o.dst v) w'):wpOpsIn (fen ro) 0 P ops Q (i::rest) a w:=by
 simp only [wpOpsIn,ho]
 rcases compG_cases hi with ⟨hg,h1⟩|⟨j,want,d,c,v,hg,hd,hc',hv,h1⟩
 ·have hw:Region.wanted o (yielded ops a.tmps)=true:=by simp [Region.wanted,hg]
  rw [if_pos hw]
  exact step_sound hn hc hr he hid h1 hnext
 ·have hw:=wanted_sound he hg hd hc' hv
  rcases h1 with ⟨h2,h3⟩|⟨h2,h3⟩
  ·rw [h2] at hw
   rw [if_pos hw]
   exact step_sound hn hc hr he hid h3 hnext
  ·rw [h2] at hw
   rw [if_neg (by rw [hw];simp)]
   subst h3
   exact ⟨fun _ _=>trivial,hnext ρ undef w (VR.undef ρ) (Post.refl hr)⟩
theorem put_getD {a:Act} {d t:Nat} {v:Value} (hd:d<a.tmps.size):(a.put (some d) v).tmps.getD t undef=if t=d then v else a.tmps.getD t undef:=by
 simp only [Act.put,Array.getD_eq_getD_getElem?,Array.getElem?_setIfInBounds]
 by_cases e:d=t
 ·subst e;simp [hd]
 ·rw [if_neg e,if_neg (fun h=>e h.symm)]
theorem put_size (a:Act) (d:Option Tmp) (v:Value):(a.put d v).tmps.size=a.tmps.size:=by cases d <;> simp [Act.put]
theorem put_defers (a:Act) (d:Option Tmp) (v:Value):(a.put d v).defers=a.defers:=by cases d <;> rfl
theorem EnvOk.mono {find:Nat->Option Opd} {loc:List AV} {vs tm:Tr AV} {a:Act} {σ : Pls} (hl:ρ.le σ) (he:EnvOk find loc vs tm ρ a):EnvOk find loc vs tm σ a :=
 fun t x v h1 h2=>(he t x v h1 h2).mono hl
structure Inv (kp:Nat->Bool) (nt sz:Nat) (tm:Tr AV) (n:Nat) (env:List (Nat×Opd)) (loc:List AV) (ρ : Pls) (a:Act):Prop where
 ok:EnvOk (findLoc kp env n) loc .leaf tm ρ a
 len:loc.length=n
 locs:∀ t p,(t,Opd.loc p)∈env->p<n
 dsts:∀ t x,(t,x)∈env->t<nt
 size:a.tmps.size=sz
 nt:nt<=sz
theorem lookT_mem {t:Nat} {x:Opd}:∀ {env:List (Nat×Opd)},lookT t env=some x->(t,x)∈env
 | [],h=>by cases h
 | y::env,h=>by
  simp only [lookT] at h
  split at h
  ·rename_i e
   cases h
   subst e
   exact List.mem_cons_self ..
  ·exact List.mem_cons_of_mem _ (lookT_mem h)
theorem relOp_get {loc:List AV} {tm:Tr AV} {r:AV} {n:Nat} {x:Opd} (hx:∀ p,x=.loc p->p<n):(relOp (n+1) x).get (r::loc) .leaf tm=(relOp n x).get loc .leaf tm:=by
 cases x with
 | loc p =>
  have:=hx p rfl
  show nth (r::loc) (n+1 - 1 - p)=nth loc (n - 1 - p)
  rw [nth_eq,nth_eq,show n+1 - 1 - p=(n - 1 - p)+1 by omega];simp
 | opi j=>rfl
 | tmp t=>rfl
 | cst v=>rfl
theorem okDst_lt {nt:Nat} {d:Nat} (h:okDst nt (some d)=true):d<nt:=Nat.le_of_ble_eq_true h
theorem Inv.next {kp:Nat->Bool} {nt sz n:Nat} {tm:Tr AV} {env:List (Nat×Opd)} {loc:List AV} {a:Act} {σ : Pls} {dst:Option Nat} {r:AV} {v:Value}
  (hi:Inv kp nt sz tm n env loc ρ a) (hl:ρ.le σ):okDst nt dst=true->VR σ r v->Inv kp nt sz tm (n+1) ((match dst with | some d=>[(d,.loc n)] | none=>[])++env) (r::loc) σ (a.put dst v):=by
 intro hd hv
 have hold:∀ t x u,lookT t env=some x∨(lookT t env=none/\x=.tmp t/\kp t=true)->(relOp (n+1) x).get (r::loc) .leaf tm=some u->VR σ u (a.tmps.getD t undef):=by
  intro t x u hx hg
  have hlt:∀ p,x=.loc p->p<n:=by
   intro p e
   rcases hx with h1|⟨_,e2,_⟩
   ·subst e;exact hi.locs t p (lookT_mem h1)
   ·rw [e] at e2;cases e2
  rw [relOp_get hlt] at hg
  refine (hi.ok t (relOp n x) u ?_ hg).mono hl
  unfold findLoc absFind
  rcases hx with h1|⟨h1,e2,h3⟩
  ·rw [h1];rfl
  ·rw [h1,if_pos h3,e2];rfl
 have hfind:∀ (e:List (Nat×Opd)) t y u,findLoc kp e (n+1) t=some y->y.get (r::loc) .leaf tm=some u->∃ x,(lookT t e=some x∨(lookT t e=none/\x=.tmp t/\kp t=true))/\(relOp (n+1) x).get (r::loc) .leaf tm=some u:=by
  intro e t y u hy hg
  unfold findLoc absFind at hy
  cases hq:lookT t e with
  | some x=>rw [hq] at hy;cases hy;exact ⟨x,.inl rfl,hg⟩
  | none =>
   rw [hq] at hy
   simp only at hy
   by_cases hk:kp t=true
   ·rw [if_pos hk] at hy;cases hy;exact ⟨.tmp t,.inr ⟨rfl,rfl,hk⟩,hg⟩
   ·rw [if_neg hk] at hy;cases hy
 cases dst with
 | none =>
  refine ⟨fun t y u hy hg=>?_,by simp [hi.len],fun t p hm=>Nat.lt_succ_of_lt (hi.locs t p hm),hi.dsts,hi.size,hi.nt⟩
  obtain ⟨x,h1,h2⟩:=hfind _ t y u hy hg
  exact hold t x u h1 h2
 | some d =>
  have hdn:=okDst_lt hd
  have hds:d<a.tmps.size:=by rw [hi.size];exact Nat.lt_of_lt_of_le hdn hi.nt
  refine ⟨fun t y u hy hg=>?_,by simp [hi.len],fun t p hm=>?_,fun t x hm=>?_,by rw [put_size];exact hi.size,hi.nt⟩
  ·rw [put_getD hds]
   obtain ⟨x,h1,h2⟩:=hfind _ t y u hy hg
   simp only [List.cons_append,List.nil_append,lookT] at h1
   by_cases e:d=t
   ·subst e
    rw [if_pos rfl]
    rw [if_pos rfl] at h1
    rcases h1 with h1|⟨h1,_⟩
    ·cases h1
     have h2:nth (r::loc) (n+1 - 1 - n)=some u:=h2
     rw [nth_eq,show n+1 - 1 - n=0 by omega] at h2
     cases h2;exact hv
    ·cases h1
   ·rw [if_neg (fun h=>e h.symm)]
    rw [if_neg e] at h1
    exact hold t x u h1 h2
  ·rcases List.mem_cons.1 hm with e | hm
   ·cases e;omega
   ·exact Nat.lt_succ_of_lt (hi.locs t p hm)
  ·rcases List.mem_cons.1 hm with e | hm
   ·cases e;exact hdn
   ·exact hi.dsts t x hm
theorem resolve_rel {kp:Nat->Bool} {env:List (Nat×Opd)} {n:Nat} {x:Operand} {a:Opd} (hx:Am.resolve (absFind kp env) x=some a):Am.resolve (findLoc kp env n) x=some (relOp n a):=by
 cases x with
 | tmp t=>simp only [Am.resolve] at hx ⊢;unfold findLoc;rw [hx];rfl
 | const v =>
  simp only [Am.resolve,Option.map_eq_some_iff] at hx ⊢
  obtain ⟨u,h1,rfl⟩:=hx
  exact ⟨u,h1,rfl⟩
 | global g=>cases hx
 | func f=>cases hx;rfl
theorem Inv.alias {kp:Nat->Bool} {nt sz n d:Nat} {tm:Tr AV} {env:List (Nat×Opd)} {loc:List AV} {a:Act} {x:Operand} {y:Opd}
  (hi:Inv kp nt sz tm n env loc ρ a) (hd:okDst nt (some d)=true) (hx:Am.resolve (absFind kp env) x=some y):Inv kp nt sz tm n ((d,y)::env) loc ρ (a.put (some d) (a.eval x)):=by
 have hdn:=okDst_lt hd
 have hds:d<a.tmps.size:=by rw [hi.size];exact Nat.lt_of_lt_of_le hdn hi.nt
 refine ⟨fun t z u hz hg=>?_,hi.len,fun t p hm=>?_,fun t z hm=>?_,by rw [put_size];exact hi.size,hi.nt⟩
 ·rw [put_getD hds]
  by_cases e:d=t
  ·subst e
   rw [if_pos rfl]
   have:findLoc kp ((d,y)::env) n d=some (relOp n y):=by simp [findLoc,absFind,lookT]
   rw [this] at hz;cases hz
   exact resolve_sound hi.ok (resolve_rel hx) hg
  ·rw [if_neg (fun h=>e h.symm)]
   have:findLoc kp ((d,y)::env) n t=findLoc kp env n t:=by simp only [findLoc,absFind,lookT,if_neg e]
   rw [this] at hz
   exact hi.ok t z u hz hg
 ·rcases List.mem_cons.1 hm with e | hm
  ·cases e
   cases x with
   | tmp s =>
    simp only [Am.resolve,absFind] at hx
    cases hq:lookT s env with
    | some q=>rw [hq] at hx;cases hx;exact hi.locs s p (lookT_mem hq)
    | none=>rw [hq] at hx;simp only at hx;split at hx <;> cases hx
   | const v=>simp only [Am.resolve,Option.map_eq_some_iff] at hx;obtain ⟨_,_,e⟩:=hx;cases e
   | global g=>cases hx
   | func f=>cases hx
  ·exact hi.locs t p hm
 ·rcases List.mem_cons.1 hm with e | hm
  ·cases e;exact hdn
  ·exact hi.dsts t z hm
theorem runIs_cons (g:GIns) (gs:List GIns) (tm:Tr AV) (call:CallFn) (loc:List AV) (h:Heap):runIs (g::gs) tm call loc h=ob (g.ev loc .leaf tm call h.next h) fun r=>runIs gs tm call (r.1::loc) r.2:=rfl
theorem moveOf_some {o:Oper} {x:Operand} {d:Nat} (hm:moveOf o=some (x,d)):o.guard=none/\o.dst=some d/\(o.op=.move x∨o.op=.assign x):=by
 obtain ⟨dst,op,ty,pos,after,guard⟩:=o
 unfold moveOf at hm
 simp only at hm
 split at hm
 ·rename_i h1 h2;cases hm;exact ⟨rfl,rfl,.inl rfl⟩
 ·rename_i h1 h2;cases hm;exact ⟨rfl,rfl,.inr rfl⟩
 ·cases hm
end
end Go.Am
namespace Go.Am
section
variable {P:Program} {keep:Keeps} {w:World} {ρ : Pls} {h:Heap}
theorem ops_sound {call:CallFn} {kp:Nat->Bool} {nt sz:Nat} {tm:Tr AV} {ops:Array Oper} {ro:Option Nat} {Q:Exit->Act->World->Prop} (hn:NamesOk P) (hc:CallOk P keep call) (tl:List Oper) (ks:List Nat) :
  ∀ (rest:List Oper) (i n:Nat) (env:List (Nat×Opd)) (loc:List AV) (h:Heap) (w:World) (ρ : Pls) (a:Act) (r:List AV×Heap),
   ops.toList.drop i=rest++tl->Inv kp nt sz tm n env loc ρ a->HR P keep ρ h w->runIs (compOps P kp nt ops n env rest).1 tm call loc h=some r ->
   (∀ ρ' a' w',Inv kp nt sz tm (compOps P kp nt ops n env rest).2.1 (compOps P kp nt ops n env rest).2.2 r.1 ρ' a'->a'.defers=a.defers->Post P keep ρ h w ρ' r.2 w'->wpOpsIn (fen ro) 0 P ops Q ks a' w') ->
   wpOpsIn (fen ro) 0 P ops Q (List.range' i rest.length++ks) a w:=by
 intro rest
 induction rest with
 | nil =>
  intro i n env loc h w ρ a r _ hi hr hrun hq
  cases hrun
  exact hq ρ a w hi rfl (Post.refl hr)
 | cons o rest ih =>
  intro i n env loc h w ρ a r hdrop hi hr hrun hq
  have hlt:i<ops.toList.length:=by
   rcases Nat.lt_or_ge i ops.toList.length with h1 | h1
   ·exact h1
   ·rw [List.drop_eq_nil_of_le h1] at hdrop;cases hdrop
  have ho:ops[i]?=some o:=by
   have:=List.drop_eq_getElem_cons hlt
   rw [hdrop] at this
   simp only [List.cons_append,List.cons.injEq] at this
   rw [← Array.getElem?_toList,List.getElem?_eq_getElem hlt,← this.1]
  have hdrop':ops.toList.drop (i+1)=rest++tl:=by
   have:=List.drop_eq_getElem_cons hlt
   rw [hdrop] at this
   simp only [List.cons_append,List.cons.injEq] at this
   exact this.2.symm
  rw [List.length_cons,List.range'_succ,List.cons_append]
  have slow:∀ (g:GIns),g=(if okDst nt o.dst then compG (findLoc kp env n) ops o.guard (compOp P (findLoc kp env n) o.op) else ⟨none,.bad⟩) ->
    runIs (g::(compOps P kp nt ops (n+1) ((match o.dst with | some d=>[(d,.loc n)] | none=>[])++env) rest).1) tm call loc h=some r ->
    (∀ ρ' a' w',Inv kp nt sz tm (compOps P kp nt ops (n+1) ((match o.dst with | some d=>[(d,.loc n)] | none=>[])++env) rest).2.1 (compOps P kp nt ops (n+1) ((match o.dst with | some d=>[(d,.loc n)] | none=>[])++env) rest).2.2 r.1 ρ' a'->a'.defers=a.defers->Post P keep ρ h w ρ' r.2 w'->wpOpsIn (fen ro) 0 P ops Q ks a' w') ->
    wpOpsIn (fen ro) 0 P ops Q (i::(List.range' (i+1) rest.length++ks)) a w:=by
   intro g hg hrun hq
   rw [runIs_cons] at hrun
   obtain ⟨r1,h1,h2⟩:=ob_some.1 hrun
   cases hok:okDst nt o.dst with
   | false=>rw [hok] at hg;subst hg;cases h1
   | true =>
    rw [hok,if_pos rfl] at hg
    subst hg
    refine gstep_sound hn hc hr hi.ok (Nat.le_refl _) ho h1 (fun ρ' v w' hv hpost=>?_)
    exact ih (i+1) (n+1) _ (r1.1::loc) r1.2 w' ρ' (a.put o.dst v) r hdrop' (hi.next hpost.le hok hv) hpost.hr h2
     (fun ρ'' a' w'' hi' hd' hp'=>hq ρ'' a' w'' hi' (hd'.trans (put_defers _ _ _)) (hpost.trans hp'))
  unfold compOps at hrun hq
  cases hm:moveOf o with
  | none =>
   simp only [hm,Option.bind_none] at hrun hq
   exact slow _ rfl hrun hq
  | some xd =>
   obtain ⟨x,d⟩:=xd
   simp only [hm,Option.bind_some] at hrun hq
   cases hx:Am.resolve (absFind kp env) x with
   | none=>simp only [hx] at hrun hq;exact slow _ rfl hrun hq
   | some y =>
    simp only [hx] at hrun hq
    obtain ⟨hg,hdst,hop⟩:=moveOf_some hm
    cases hok:okDst nt o.dst with
    | false=>rw [hok] at hrun;cases hrun
    | true =>
     rw [hok] at hrun hq
     simp only [if_true] at hrun hq
     have hw:Region.wanted o (yielded ops a.tmps)=true:=by simp [Region.wanted,hg]
     simp only [wpOpsIn,ho]
     rw [if_pos hw]
     refine ⟨fun _ _=>trivial,?_⟩
     have hsem:o.semAt (fen ro).round a.eval=pure (.value (a.eval x)):=by
      rw [Oper.semAt_eq _ _ _ (by intro c e;rcases hop with h1 | h1 <;> (rw [h1] at e;cases e))]
      obtain ⟨dst,op,ty,pos,after,guard⟩:=o
      simp only at hop
      rcases hop with rfl | rfl <;> rfl
     rw [hsem,Sem.run_pure,Oper.uponIn_value,hdst]
     rw [hdst] at hok
     exact ih (i+1) n _ loc h w ρ _ r hdrop' (hi.alias hok hx) hr hrun (fun ρ'' a' w'' hi' hd' hp'=>hq ρ'' a' w'' hi' (hd'.trans (put_defers _ _ _)) hp')
end
end Go.Am
namespace Go.Am
section
variable {P:Program} {keep:Keeps} {w:World} {ρ : Pls} {h:Heap}
theorem putOuts_cons (o:Nat×Opd) (os:List (Nat×Opd)) (loc:List AV) (tm0 tm:Tr AV):putOuts (o::os) loc tm0 tm=ob (o.2.get loc .leaf tm0) fun v=>putOuts os loc tm0 (tm.up (some v) o.1):=rfl
theorem putOuts_get:∀ {outs:List (Nat×Opd)} {loc:List AV} {tm0 tm tm':Tr AV},putOuts outs loc tm0 tm=some tm' ->
  ∀ t,(∃ x v,(t,x)∈outs/\x.get loc .leaf tm0=some v/\tm'.gt t=some v)∨((∀ x,(t,x)∉outs)/\tm'.gt t=tm.gt t)
 | [],loc,tm0,tm,tm',h,t=>by cases h;exact .inr ⟨fun x hx=>(by cases hx),rfl⟩
 | o::os,loc,tm0,tm,tm',h,t=>by
  rw [putOuts_cons] at h
  obtain ⟨v,h1,h2⟩:=ob_some.1 h
  rcases putOuts_get h2 t with ⟨x,u,g1,g2,g3⟩|⟨g1,g2⟩
  ·exact .inl ⟨x,u,List.mem_cons_of_mem _ g1,g2,g3⟩
  ·rw [Tr.gt_up] at g2
   by_cases e:t=o.1
   ·rw [if_pos e] at g2
    exact .inl ⟨o.2,v,by rw [e];exact List.mem_cons_self ..,h1,g2⟩
   ·rw [if_neg e] at g2
    refine .inr ⟨fun x hx=>?_,g2⟩
    rcases List.mem_cons.1 hx with e2 | hx
    ·exact e (by rw [← e2])
    ·exact g1 x hx
theorem outsEnv_mem {kp:Nat->Bool} {n t:Nat} {y:Opd}:∀ {env:List (Nat×Opd)} {seen:List Nat},(t,y)∈outsEnv kp n env seen->t∉seen/\∃ x,lookT t env=some x/\y=relOp n x
 | [],seen,h=>by cases h
 | x::env,seen,h=>by
  simp only [outsEnv] at h
  split at h
  ·rename_i hc
   simp only [Bool.and_eq_true,Bool.not_eq_true',List.contains_eq_mem,decide_eq_false_iff_not] at hc
   rcases List.mem_cons.1 h with e | h
   ·cases e
    exact ⟨hc.2,x.2,by simp [lookT],rfl⟩
   ·obtain ⟨h1,z,h2,h3⟩:=outsEnv_mem h
    simp only [List.mem_cons,not_or] at h1
    exact ⟨h1.2,z,by simp only [lookT];rw [if_neg (fun e=>h1.1 e.symm)];exact h2,h3⟩
  ·rename_i hc
   obtain ⟨h1,z,h2,h3⟩:=outsEnv_mem h
   by_cases e:x.1=t
   · 
    refine ⟨h1,?_⟩
    simp only [Bool.and_eq_true,Bool.not_eq_true',List.contains_eq_mem,decide_eq_false_iff_not,not_and,Decidable.not_not] at hc
    cases hk:kp x.1 with
    | true=>exact absurd (e▸hc hk) h1
    | false =>
     exfalso
     have:∀ {env:List (Nat×Opd)} {seen:List Nat} {y:Opd},(t,y)∈outsEnv kp n env seen->kp t=true:=by
      intro env
      induction env with
      | nil=>intro seen y h;cases h
      | cons z env ih =>
       intro seen y h
       simp only [outsEnv] at h
       split at h
       ·rename_i hc
        simp only [Bool.and_eq_true] at hc
        rcases List.mem_cons.1 h with e | h
        ·cases e;exact hc.1
        ·exact ih h
       ·exact ih h
     have:=this h
     rw [← e,hk] at this;cases this
   ·exact ⟨h1,z,by simp only [lookT];rw [if_neg e];exact h2,h3⟩
theorem outsEnv_has {kp:Nat->Bool} {n t:Nat} {x:Opd} (hk:kp t=true):∀ {env:List (Nat×Opd)} {seen:List Nat},lookT t env=some x->t∉seen->∃ y,(t,y)∈outsEnv kp n env seen
 | [],seen,h,_=>by cases h
 | z::env,seen,h,hs=>by
  simp only [lookT] at h
  simp only [outsEnv]
  by_cases e:z.1=t
  ·rw [if_pos]
   ·exact ⟨_,by rw [e];exact List.mem_cons_self ..⟩
   ·rw [e,hk];simpa using hs
  ·rw [if_neg e] at h
   split
   ·obtain ⟨y,h1⟩:=outsEnv_has (n:=n) hk (seen:=z.1::seen) h (by simp only [List.mem_cons,not_or];exact ⟨fun h=>e h.symm,hs⟩)
    exact ⟨y,List.mem_cons_of_mem _ h1⟩
   ·exact outsEnv_has hk h hs
theorem getD_some {arr:Array Value} {t:Nat} (h:t<arr.size):arr[t]?=some (arr.getD t undef):=by
 rw [Array.getD_eq_getD_getElem?,Array.getElem?_eq_getElem h];rfl
theorem outsEnv_kept {kp:Nat->Bool} {n t:Nat}:∀ {env:List (Nat×Opd)} {seen:List Nat} {y:Opd},(t,y)∈outsEnv kp n env seen->kp t=true
 | [],seen,y,h=>by cases h
 | z::env,seen,y,h=>by
  simp only [outsEnv] at h
  split at h
  ·rename_i hc
   simp only [Bool.and_eq_true] at hc
   rcases List.mem_cons.1 h with e | h
   ·cases e;exact hc.1
   ·exact outsEnv_kept h
  ·exact outsEnv_kept h
theorem outs_TR {kp:Nat->Bool} {nt:Nat} {tm tm':Tr AV} {n sz:Nat} {env:List (Nat×Opd)} {loc:List AV} {σ : Pls} {a a':Act} (ht:TR kp nt ρ tm a.tmps) (hsz:sz=a.tmps.size) (hi:Inv kp nt sz tm n env loc σ a') (hout:putOuts (outsEnv kp n env []) loc tm tm=some tm'):TR kp nt σ tm' a'.tmps:=by
 refine ⟨by rw [hi.size,hsz];exact ht.1,fun t v hk hv=>?_⟩
 rcases putOuts_get hout t with ⟨x,u,g1,g2,g3⟩|⟨g1,g2⟩
 ·rw [g3] at hv;cases hv
  obtain ⟨_,z,h2,rfl⟩:=outsEnv_mem g1
  have hlt:t<a'.tmps.size:=by rw [hi.size];exact Nat.lt_of_lt_of_le (hi.dsts t z (lookT_mem h2)) hi.nt
  refine ⟨_,getD_some hlt,hi.ok t (relOp _ z) v ?_ g2⟩
  simp [findLoc,absFind,h2]
 ·rw [g2] at hv
  obtain ⟨cv,h1,_⟩:=ht.2 t v hk hv
  have hlt:t<a'.tmps.size:=by rw [hi.size,hsz];exact (Array.getElem?_eq_some_iff.1 h1).1
  refine ⟨_,getD_some hlt,hi.ok t (.tmp t) v ?_ hv⟩
  cases hq:lookT t env with
  | some z =>
   obtain ⟨y,h3⟩:=outsEnv_has (n:=n) hk hq (by simp:t∉([]:List Nat))
   exact absurd h3 (g1 y)
  | none=>simp only [findLoc,absFind,hq,if_pos hk];rfl
theorem outs_same {kp:Nat->Bool} {tm tm':Tr AV} {n D:Nat} {env:List (Nat×Opd)} {loc:List AV} (hD:kp D=false) (hout:putOuts (outsEnv kp n env []) loc tm tm=some tm'):tm'.gt D=tm.gt D:=by
 rcases putOuts_get hout D with ⟨x,u,g1,_,_⟩|⟨_,g2⟩
 ·rw [outsEnv_kept g1] at hD;cases hD
 ·exact g2
theorem inv_start {kp:Nat->Bool} {nt:Nat} {tm:Tr AV} {a:Act} (ht:TR kp nt ρ tm a.tmps):Inv kp nt a.tmps.size tm 0 [] [] ρ a:=by
 refine ⟨fun t x v hx hg=>?_,rfl,fun _ _ hm=>(by cases hm),fun _ _ hm=>(by cases hm),rfl,ht.1⟩
 simp only [findLoc,absFind,lookT] at hx
 split at hx
 ·rename_i hk
  cases hx
  obtain ⟨cv,h1,h2⟩:=ht.2 t v hk hg
  rw [Array.getD_eq_getD_getElem?,h1];exact h2
 ·cases hx
theorem deferLast_some:∀ {os l:List Oper} {xs:List Operand},deferLast os=some (l,xs)->∃ o,os=l++[o]/\deferOf o=some xs
 | [],l,xs,h=>by cases h
 | [o],l,xs,h=>by
  simp only [deferLast,Option.map_eq_some_iff] at h
  obtain ⟨ys,h1,h2⟩:=h
  cases h2
  exact ⟨o,rfl,h1⟩
 | o::p::os,l,xs,h=>by
  simp only [deferLast,Option.map_eq_some_iff] at h
  obtain ⟨⟨l',ys⟩,h1,h2⟩:=h
  cases h2
  obtain ⟨q,h3,h4⟩:=deferLast_some (os:=p::os) h1
  exact ⟨q,by rw [h3];rfl,h4⟩
theorem deferOf_some {o:Oper} {xs:List Operand} (h:deferOf o=some xs):∃ f args ts,o.guard=none/\o.op=.defer ⟨.value f,args,ts⟩/\o.dst=none/\xs=f::args.toList:=by
 obtain ⟨dst,op,ty,pos,after,guard⟩:=o
 unfold deferOf at h
 split at h
 ·rename_i f args ts h1 h2 h3
  cases h
  exact ⟨f,args,ts,h1,h2,h3,rfl⟩
 ·cases h
theorem compR_reg {kp:Nat->Bool} {nt:Nat} {ops:Array Oper} {is:List GIns} {outs:List (Nat×Opd)} (h:compR P kp nt ops=.reg is outs) :
  deferLast ops.toList=none/\is=(compOps P kp nt ops 0 [] ops.toList).1/\outs=outsEnv kp (compOps P kp nt ops 0 [] ops.toList).2.1 (compOps P kp nt ops 0 [] ops.toList).2.2 []:=by
 unfold compR at h
 split at h
 ·dsimp only at h;split at h <;> cases h
 ·rename_i hd
  simp only [AC.reg.injEq] at h
  exact ⟨hd,h.1.symm,h.2.symm⟩
theorem reg_sound {call:CallFn} {kp:Nat->Bool} {nt id:Nat} {tm tm':Tr AV} {ops:Array Oper} {ro:Option Nat} {Q:Exit->Act->World->Prop} {a:Act} {is:List GIns} {outs:List (Nat×Opd)} {r:List AV×Heap}
  (hn:NamesOk P) (hc:CallOk P keep call) (hr:HR P keep ρ h w) (ht:TR kp nt ρ tm a.tmps) (hcomp:compR P kp nt ops=.reg is outs) (hrun:runIs is tm call [] h=some r) (hout:putOuts outs r.1 tm tm=some tm')
  (hq:∀ ρ' a' w',TR kp nt ρ' tm' a'.tmps->a'.defers=a.defers->Post P keep ρ h w ρ' r.2 w'->Q .normal a' w'):(Code.region id ops false).wpIn (fen ro) 0 P Q a w:=by
 refine wpIn_region ?_
 obtain ⟨_,rfl,rfl⟩:=compR_reg hcomp
 have key:=ops_sound (ro:=ro) (Q:=Q) (ops:=ops) hn hc [] [] ops.toList 0 0 [] [] h w ρ a r (by simp) (inv_start ht) hr hrun (fun ρ' a' w' hi hd hp=>?_)
 ·rw [List.range_eq_range']
  simpa using key
 ·exact hq ρ' a' w' (outs_TR ht rfl hi hout) hd hp
theorem dfr_sound {call:CallFn} {kp:Nat->Bool} {nt nt' id:Nat} {tm tm':Tr AV} {ops:Array Oper} {Q:Exit->Act->World->Prop} {a:Act} {is:List GIns} {outs:List (Nat×Opd)} {xs:List Opd} {r:List AV×Heap} {vs:List AV}
  (hn:NamesOk P) (hc:CallOk P keep call) (hr:HR P keep ρ h w) (ht:TR kp nt ρ tm a.tmps) (hcomp:compR P kp nt ops=.dfr is outs nt' xs) (hrun:runIs is tm call [] h=some r) (hout:putOuts outs r.1 tm tm=some tm') (hg:gets xs r.1 .leaf tm=some vs)
  (hq:∀ ρ' a' w' (i:FuncId) (first cap:Array Value) (args:List Value) (fa ca as:List AV),TR kp nt ρ' tm' a'.tmps->vs=.func (.func i) fa ca::as->VRs ρ' ca cap.toList->VRs ρ' fa first.toList->VRs ρ' as args ->
   a'.defers={ target:=.fn (.func i) cap,args:=first++args.toArray }::a.defers->Post P keep ρ h w ρ' r.2 w'->Q .normal a' w')
  (hfn:∀ v as,vs=v::as->∃ i fa ca,v=.func (.func i) fa ca):nt'=nt/\(Code.region id ops false).wpIn (fen none) 0 P Q a w:=by
 unfold compR at hcomp
 split at hcomp
 case h_2=>cases hcomp
 rename_i l ys hd
 dsimp only at hcomp
 split at hcomp
 case h_2=>cases hcomp
 rename_i zs hz
 simp only [AC.dfr.injEq] at hcomp
 obtain ⟨rfl,rfl,rfl,rfl⟩:=hcomp
 refine ⟨rfl,wpIn_region ?_⟩
 obtain ⟨o,hos,ho⟩:=deferLast_some hd
 obtain ⟨f,args,ts,h1,h2,h3,rfl⟩:=deferOf_some ho
 have hlen:ops.size=l.length+1:=by rw [← Array.length_toList,hos];simp
 have key:=ops_sound (ro:=none) (Q:=Q) (ops:=ops) hn hc [o] [l.length] l 0 0 [] [] h w ρ a r (by simpa using hos) (inv_start ht) hr hrun (fun ρ' a' w' hi hd hp=>?_)
 ·rw [List.range_eq_range',hlen,List.range'_concat]
  simpa using key
 ·have hoi:ops[l.length]?=some o:=by rw [← Array.getElem?_toList,hos];simp
  have hw:Region.wanted o (yielded ops a'.tmps)=true:=by simp [Region.wanted,h1]
  simp only [wpOpsIn,hoi]
  rw [if_pos hw]
  refine ⟨fun _ _=>trivial,?_⟩
  have hvs:=resolves_sound hi.ok hz hg
  cases vs with
  | nil=>cases hvs
  | cons v as =>
   obtain ⟨i,fa,ca,rfl⟩:=hfn v as rfl
   obtain ⟨cv,cvs,e1,v1,v2⟩:=hvs
   simp only [List.map_cons,List.cons.injEq] at e1
   obtain ⟨e1,e2⟩:=e1
   obtain ⟨fn',first,cap,e3,hf,va,vc⟩:=v1
   cases hf
   have hsem:o.semAt (fen none).round a'.eval=pure (.defer { target:=.fn (.func i) cap,args:=first++cvs.toArray }):=by
    show o.semAt none a'.eval=_
    obtain ⟨dst,op,ty,pos,after,guard⟩:=o
    simp only at h2
    subst h2
    have hmap:(args.map a'.eval)=cvs.toArray:=by apply Array.toList_inj.1;simpa using e2
    simp only [Oper.semAt,execOp,Go.resolve,e1,e3,Deferred.ofValue,hmap]
    rfl
   rw [hsem,Sem.run_pure]
   simp only [Oper.uponIn,h3,Act.put]
   exact hq ρ' _ w' i first cap cvs fa ca as (show TR _ _ ρ' tm' a'.tmps from outs_TR ht rfl hi hout) rfl vc va v2 (by simp [hd]) hp
end
end Go.Am
namespace Go.Am
section
variable {P:Program} {keep:Keeps} {w:World} {ρ : Pls} {h:Heap}
def Sub (vs vs':Tr AV):Prop:=∀ j u,vs.gt j=some u->vs'.gt j=some u
theorem Sub.refl (vs:Tr AV):Sub vs vs:=fun _ _ h=>h
theorem Sub.trans {a b c:Tr AV} (h1:Sub a b) (h2:Sub b c):Sub a c:=fun j u h=>h2 j u (h1 j u h)
theorem get_mono {vs vs' tm:Tr AV} (hs:Sub vs vs') {loc:List AV} {x:Opd} {v:AV} (h:x.get loc vs tm=some v):x.get loc vs' tm=some v:=by
 cases x with
 | opi j=>exact hs j v h
 | _=>exact h
theorem gets_mono {vs vs' tm:Tr AV} (hs:Sub vs vs') {loc:List AV}:∀ {xs:List Opd} {us:List AV},gets xs loc vs tm=some us->gets xs loc vs' tm=some us
 | [],us,h=>h
 | x::xs,us,h=>by
  rw [gets_cons] at h ⊢
  obtain ⟨v,h1,h2⟩:=ob_some.1 h
  obtain ⟨us',h3,h4⟩:=ob_some.1 h2
  rw [get_mono hs h1]
  show ob (gets xs loc vs' tm) _=_
  rw [gets_mono hs h3]
  exact h4
theorem ev_mono {vs vs' tm:Tr AV} (hs:Sub vs vs') {loc:List AV} {call:CallFn} {id:Nat} {i:Ins} {r:AV×Heap} (hi:i.ev loc vs tm call id h=some r):i.ev loc vs' tm call id h=some r:=by
 cases i with
 | mv x =>
  obtain ⟨v,h1,h2⟩:=ob_some.1 (show ob (x.get loc vs tm) (fun v=>some (v,h))=some r from hi)
  exact ob_some.2 ⟨v,get_mono hs h1,h2⟩
 | p1 f x =>
  obtain ⟨v,h1,h2⟩:=ob_some.1 (show ob (x.get loc vs tm) (fun v=>ob (f v) fun r=>some (r,h))=some r from hi)
  exact ob_some.2 ⟨v,get_mono hs h1,h2⟩
 | p2 f x y =>
  obtain ⟨v,h1,h2⟩:=ob_some.1 (show ob (x.get loc vs tm) (fun v=>ob (y.get loc vs tm) fun u=>ob (f v u) fun r=>some (r,h))=some r from hi)
  obtain ⟨u,h3,h4⟩:=ob_some.1 h2
  exact ob_some.2 ⟨v,get_mono hs h1,ob_some.2 ⟨u,get_mono hs h3,h4⟩⟩
 | pick c x y =>
  obtain ⟨v,h1,h2⟩:=ob_some.1 (show ob (c.get loc vs tm) (fun v=>eBool (fun t=>ob (Bool.rec (motive:=fun _=>Option AV) (y.get loc vs tm) (x.get loc vs tm) t) fun r=>some (r,h)) v)=some r from hi)
  obtain ⟨t,e,h3⟩:=eBool_some h2
  subst e
  obtain ⟨s,h5,h6⟩:=ob_some.1 h3
  refine ob_some.2 ⟨_,get_mono hs h1,?_⟩
  show ob (Bool.rec (motive:=fun _=>Option AV) (y.get loc vs' tm) (x.get loc vs' tm) t) (fun r=>some (r,h))=some r
  refine ob_some.2 ⟨s,?_,h6⟩
  cases t with
  | true=>exact get_mono hs h5
  | false=>exact get_mono hs h5
 | pn f xs =>
  obtain ⟨v,h1,h2⟩:=ob_some.1 (show ob (gets xs loc vs tm) (fun v=>ob (f v) fun r=>some (r,h))=some r from hi)
  exact ob_some.2 ⟨v,gets_mono hs h1,h2⟩
 | ld1 x =>
  obtain ⟨v,h1,h2⟩:=ob_some.1 (show ob (x.get loc vs tm) (fun v=>ob (load1 h v) fun r=>some (r,h))=some r from hi)
  exact ob_some.2 ⟨v,get_mono hs h1,h2⟩
 | ldn s x =>
  obtain ⟨v,h1,h2⟩:=ob_some.1 (show ob (x.get loc vs tm) (fun v=>ob (loadN s h v) fun r=>some (r,h))=some r from hi)
  exact ob_some.2 ⟨v,get_mono hs h1,h2⟩
 | rd f xs =>
  obtain ⟨v,h1,h2⟩:=ob_some.1 (show ob (gets xs loc vs tm) (fun v=>ob (f v h) fun r=>some (r,h))=some r from hi)
  exact ob_some.2 ⟨v,gets_mono hs h1,h2⟩
 | al f xs =>
  obtain ⟨v,h1,h2⟩:=ob_some.1 (show ob (gets xs loc vs tm) (fun v=>ob (f v) fun r=>some (r.2 id,h.new id r.1))=some r from hi)
  exact ob_some.2 ⟨v,gets_mono hs h1,h2⟩
 | st1 x y =>
  obtain ⟨v,h1,h2⟩:=ob_some.1 (show ob (x.get loc vs tm) (fun p=>ob (y.get loc vs tm) fun v=>store1 h p v)=some r from hi)
  obtain ⟨u,h3,h4⟩:=ob_some.1 h2
  exact ob_some.2 ⟨v,get_mono hs h1,ob_some.2 ⟨u,get_mono hs h3,h4⟩⟩
 | ef f xs =>
  obtain ⟨v,h1,h2⟩:=ob_some.1 (show ob (gets xs loc vs tm) (fun v=>f v id h)=some r from hi)
  exact ob_some.2 ⟨v,gets_mono hs h1,h2⟩
 | cl g xs =>
  obtain ⟨fv,h1,h2⟩:=ob_some.1 (show ob (g.get loc vs tm) (fun f=>ob (gets xs loc vs tm) fun us=>applyV call us h f)=some r from hi)
  obtain ⟨us,h3,h4⟩:=ob_some.1 h2
  exact ob_some.2 ⟨fv,get_mono hs h1,ob_some.2 ⟨us,gets_mono hs h3,h4⟩⟩
 | bad=>cases hi
theorem quiet_of_ev {i:Ins} {vs tm:Tr AV} {id:Nat} (h1:i.eff=false) (h2:i.allocs=false) (h3:i.isBad=false):i.quiet vs tm id h=ob (i.ev [] vs tm (fun _ _ _=>none) id h) fun r=>some r.1:=by
 cases i <;> first | rfl | (cases h1;done) | (cases h2;done) | (cases h3;done)
theorem quiet_mono {vs vs' tm:Tr AV} (hs:Sub vs vs') {id:Nat} {i:Ins} {v:AV} (hi:i.quiet vs tm id h=some v):i.quiet vs' tm id h=some v:=by
 by_cases hal:i.allocs=true
 ·cases i with
  | al f xs =>
   obtain ⟨us,h1,h2⟩:=ob_some.1 (show ob (gets xs [] vs tm) (fun us=>ob (f us) fun r=>some (r.2 id))=some v from hi)
   exact ob_some.2 ⟨us,gets_mono hs h1,h2⟩
  | _=>cases hal
 ·by_cases he:i.eff=true
  ·cases i <;> first | cases hi | cases he
  ·by_cases hb:i.isBad=true
   ·cases i <;> first | cases hi | cases hb
   ·rw [quiet_of_ev (by simpa using he) (by simpa using hal) (by simpa using hb)] at hi ⊢
    obtain ⟨r,h1,h2⟩:=ob_some.1 hi
    exact ob_some.2 ⟨r,ev_mono hs h1,h2⟩
theorem gquiet_mono {vs vs' tm:Tr AV} (hs:Sub vs vs') {id:Nat} {x:GIns} {v:AV} (hi:x.quiet vs tm id h=some v):x.quiet vs' tm id h=some v:=by
 obtain ⟨g,i⟩:=x
 cases g with
 | none=>exact quiet_mono hs hi
 | some g =>
  obtain ⟨u,h1,h2⟩:=ob_some.1 (show ob (g.1.get [] vs tm) (fun v=>Bool.rec (motive:=fun _=>Option AV) (some undefA) (i.quiet vs tm id h) (wanted g.2 v))=some v from hi)
  refine ob_some.2 ⟨u,get_mono hs h1,?_⟩
  cases hw:wanted g.2 u with
  | true=>rw [hw] at h2;exact quiet_mono hs h2
  | false=>rw [hw] at h2;exact h2
theorem gev_mono {vs vs' tm:Tr AV} (hs:Sub vs vs') {loc:List AV} {call:CallFn} {id:Nat} {x:GIns} {r:AV×Heap} (hi:x.ev loc vs tm call id h=some r):x.ev loc vs' tm call id h=some r:=by
 obtain ⟨g,i⟩:=x
 cases g with
 | none=>exact ev_mono hs hi
 | some g =>
  obtain ⟨u,h1,h2⟩:=ob_some.1 (show ob (g.1.get loc vs tm) (fun v=>Bool.rec (motive:=fun _=>Res) (some (undefA,h)) (i.ev loc vs tm call id h) (wanted g.2 v))=some r from hi)
  refine ob_some.2 ⟨u,get_mono hs h1,?_⟩
  cases hw:wanted g.2 u with
  | true=>rw [hw] at h2;exact ev_mono hs h2
  | false=>rw [hw] at h2;exact h2
theorem blk_mono {vs vs' tm:Tr AV} (hs:Sub vs vs') {x:GIns} {b:Option Blk} (hi:x.blk vs tm=some b):x.blk vs' tm=some b:=by
 obtain ⟨g,i⟩:=x
 cases i with
 | al f xs =>
  have made:∀ {b:Option Blk},(ob (gets xs [] vs tm) fun us=>ob (f us) fun r=>some (some r.1))=some b->(ob (gets xs [] vs' tm) fun us=>ob (f us) fun r=>some (some r.1))=some b:=by
   intro b hb
   obtain ⟨us,h1,h2⟩:=ob_some.1 hb
   exact ob_some.2 ⟨us,gets_mono hs h1,h2⟩
  cases g with
  | none=>exact made hi
  | some g =>
   obtain ⟨u,h1,h2⟩:=ob_some.1 (show ob (g.1.get [] vs tm) (fun v=>Bool.rec (motive:=fun _=>Option (Option Blk)) (some none) (ob (gets xs [] vs tm) fun us=>ob (f us) fun r=>some (some r.1)) (wanted g.2 v))=some b from hi)
   refine ob_some.2 ⟨u,get_mono hs h1,?_⟩
   cases hw:wanted g.2 u with
   | true=>rw [hw] at h2;exact made h2
   | false=>rw [hw] at h2;exact h2
 | _=>cases hi
theorem quiet_indep {vs tm:Tr AV} {id:Nat} {i:Ins} {h':Heap} {v:AV} (hn:i.reads=false) (hi:i.quiet vs tm id h=some v):i.quiet vs tm id h'=some v:=by
 cases i with
 | mv x =>
  obtain ⟨r,h1,h2⟩:=ob_some.1 (show ob (ob (x.get [] vs tm) (fun v=>some (v,h))) (fun r=>some r.1)=some v from hi)
  obtain ⟨u,h3,h4⟩:=ob_some.1 h1
  cases h4;cases h2
  exact ob_some.2 ⟨(u,h'),ob_some.2 ⟨u,h3,rfl⟩,rfl⟩
 | p1 f x =>
  obtain ⟨r,h1,h2⟩:=ob_some.1 (show ob (ob (x.get [] vs tm) (fun v=>ob (f v) fun r=>some (r,h))) (fun r=>some r.1)=some v from hi)
  obtain ⟨u,h3,h4⟩:=ob_some.1 h1
  obtain ⟨u2,h5,h6⟩:=ob_some.1 h4
  cases h6;cases h2
  exact ob_some.2 ⟨(u2,h'),ob_some.2 ⟨u,h3,ob_some.2 ⟨u2,h5,rfl⟩⟩,rfl⟩
 | p2 f x y =>
  obtain ⟨r,h1,h2⟩:=ob_some.1 (show ob (ob (x.get [] vs tm) (fun v=>ob (y.get [] vs tm) fun u=>ob (f v u) fun r=>some (r,h))) (fun r=>some r.1)=some v from hi)
  obtain ⟨u,h3,h4⟩:=ob_some.1 h1
  obtain ⟨u1,h3',h4'⟩:=ob_some.1 h4
  obtain ⟨u2,h5,h6⟩:=ob_some.1 h4'
  cases h6;cases h2
  exact ob_some.2 ⟨(u2,h'),ob_some.2 ⟨u,h3,ob_some.2 ⟨u1,h3',ob_some.2 ⟨u2,h5,rfl⟩⟩⟩,rfl⟩
 | pick c x y =>
  obtain ⟨r,h1,h2⟩:=ob_some.1 (show ob (ob (c.get [] vs tm) (fun v=>eBool (fun t=>ob (Bool.rec (motive:=fun _=>Option AV) (y.get [] vs tm) (x.get [] vs tm) t) fun r=>some (r,h)) v)) (fun r=>some r.1)=some v from hi)
  obtain ⟨u,h3,h4⟩:=ob_some.1 h1
  obtain ⟨t,e,h5⟩:=eBool_some h4
  subst e
  obtain ⟨s,h6,h7⟩:=ob_some.1 h5
  cases h7;cases h2
  exact ob_some.2 ⟨(s,h'),ob_some.2 ⟨_,h3,ob_some.2 ⟨s,h6,rfl⟩⟩,rfl⟩
 | pn f xs =>
  obtain ⟨r,h1,h2⟩:=ob_some.1 (show ob (ob (gets xs [] vs tm) (fun v=>ob (f v) fun r=>some (r,h))) (fun r=>some r.1)=some v from hi)
  obtain ⟨u,h3,h4⟩:=ob_some.1 h1
  obtain ⟨u2,h5,h6⟩:=ob_some.1 h4
  cases h6;cases h2
  exact ob_some.2 ⟨(u2,h'),ob_some.2 ⟨u,h3,ob_some.2 ⟨u2,h5,rfl⟩⟩,rfl⟩
 | al f xs=>exact hi
 | ld1 x=>cases hn
 | ldn s x=>cases hn
 | rd f xs=>cases hn
 | _=>cases hi
theorem gquiet_indep {vs tm:Tr AV} {id:Nat} {x:GIns} {h':Heap} {v:AV} (hn:x.i.reads=false) (hi:x.quiet vs tm id h=some v):x.quiet vs tm id h'=some v:=by
 obtain ⟨g,i⟩:=x
 cases g with
 | none=>exact quiet_indep hn hi
 | some g =>
  obtain ⟨u,h1,h2⟩:=ob_some.1 (show ob (g.1.get [] vs tm) (fun v=>Bool.rec (motive:=fun _=>Option AV) (some undefA) (i.quiet vs tm id h) (wanted g.2 v))=some v from hi)
  refine ob_some.2 ⟨u,h1,?_⟩
  cases hw:wanted g.2 u with
  | true=>rw [hw] at h2;exact quiet_indep hn h2
  | false=>rw [hw] at h2;exact h2
theorem quiet_gives {find:Nat->Option Opd} {vs tm:Tr AV} {a:Act} {o:Oper} {i:Ins} {id:Nat} {v:AV} (hg:Good P keep find o i) (hal:i.allocs=false) (hr:HR P keep ρ h w) (he:EnvOk find [] vs tm ρ a) (hq:i.quiet vs tm id h=some v) :
  GivesN P w ρ (execOp a.eval o) v:=by
 cases i with
 | mv x =>
  obtain ⟨r,h1,h2⟩:=ob_some.1 (show ob (ob (x.get [] vs tm) (fun v=>some (v,h))) (fun r=>some r.1)=some v from hq)
  obtain ⟨u,h3,h4⟩:=ob_some.1 h1
  cases h4;cases h2
  exact hg [] vs tm ρ h w a hr he _ h3
 | p1 f x =>
  obtain ⟨r,h1,h2⟩:=ob_some.1 (show ob (ob (x.get [] vs tm) (fun v=>ob (f v) fun r=>some (r,h))) (fun r=>some r.1)=some v from hq)
  obtain ⟨u,h3,h4⟩:=ob_some.1 h1
  obtain ⟨u2,h5,h6⟩:=ob_some.1 h4
  cases h6;cases h2
  exact hg [] vs tm ρ h w a hr he _ _ h3 h5
 | p2 f x y =>
  obtain ⟨r,h1,h2⟩:=ob_some.1 (show ob (ob (x.get [] vs tm) (fun v=>ob (y.get [] vs tm) fun u=>ob (f v u) fun r=>some (r,h))) (fun r=>some r.1)=some v from hq)
  obtain ⟨u,h3,h4⟩:=ob_some.1 h1
  obtain ⟨u1,h3',h4'⟩:=ob_some.1 h4
  obtain ⟨u2,h5,h6⟩:=ob_some.1 h4'
  cases h6;cases h2
  exact hg [] vs tm ρ h w a hr he _ _ _ h3 h3' h5
 | pick c x y =>
  obtain ⟨r,h1,h2⟩:=ob_some.1 (show ob (ob (c.get [] vs tm) (fun v=>eBool (fun t=>ob (Bool.rec (motive:=fun _=>Option AV) (y.get [] vs tm) (x.get [] vs tm) t) fun r=>some (r,h)) v)) (fun r=>some r.1)=some v from hq)
  obtain ⟨u,h3,h4⟩:=ob_some.1 h1
  obtain ⟨t,e,h5⟩:=eBool_some h4
  subst e
  obtain ⟨s,h6,h7⟩:=ob_some.1 h5
  cases h7;cases h2
  exact hg [] vs tm ρ h w a hr he t s h3 (by cases t <;> exact h6)
 | pn f xs =>
  obtain ⟨r,h1,h2⟩:=ob_some.1 (show ob (ob (gets xs [] vs tm) (fun v=>ob (f v) fun r=>some (r,h))) (fun r=>some r.1)=some v from hq)
  obtain ⟨u,h3,h4⟩:=ob_some.1 h1
  obtain ⟨u2,h5,h6⟩:=ob_some.1 h4
  cases h6;cases h2
  exact hg [] vs tm ρ h w a hr he _ _ h3 h5
 | ld1 x =>
  obtain ⟨r,h1,h2⟩:=ob_some.1 (show ob (ob (x.get [] vs tm) (fun v=>ob (load1 h v) fun r=>some (r,h))) (fun r=>some r.1)=some v from hq)
  obtain ⟨u,h3,h4⟩:=ob_some.1 h1
  obtain ⟨u2,h5,h6⟩:=ob_some.1 h4
  cases h6;cases h2
  exact hg [] vs tm ρ h w a hr he _ _ h3 h5
 | ldn s x =>
  obtain ⟨r,h1,h2⟩:=ob_some.1 (show ob (ob (x.get [] vs tm) (fun v=>ob (loadN s h v) fun r=>some (r,h))) (fun r=>some r.1)=some v from hq)
  obtain ⟨u,h3,h4⟩:=ob_some.1 h1
  obtain ⟨u2,h5,h6⟩:=ob_some.1 h4
  cases h6;cases h2
  exact hg [] vs tm ρ h w a hr he _ _ h3 h5
 | rd f xs =>
  obtain ⟨r,h1,h2⟩:=ob_some.1 (show ob (ob (gets xs [] vs tm) (fun v=>ob (f v h) fun r=>some (r,h))) (fun r=>some r.1)=some v from hq)
  obtain ⟨u,h3,h4⟩:=ob_some.1 h1
  obtain ⟨u2,h5,h6⟩:=ob_some.1 h4
  cases h6;cases h2
  exact hg [] vs tm ρ h w a hr he _ _ h3 h5
 | al f xs=>cases hal
 | _=>cases hq
end
end Go.Am
namespace Go.Am
section
variable {base:Nat} {tm:Tr AV} {call:CallFn}
theorem runMats_cons (x:Nat×GIns) (l:List (Nat×GIns)) (h:Heap) (vs:Tr AV):runMats base tm vs (x::l) h=ob (x.2.blk vs tm) fun b=>Option.rec (motive:=fun _=>Option Heap) (runMats base tm vs l h) (fun b=>runMats base tm vs l ⟨h.bs.up (some b) (base+x.1),h.next⟩) b:=rfl
theorem runMats_mono {vs vs':Tr AV} (hs:Sub vs vs'):∀ {l:List (Nat×GIns)} {h hm:Heap},runMats base tm vs l h=some hm->runMats base tm vs' l h=some hm:=by
 intro l
 induction l with
 | nil=>intro h hm hr;exact hr
 | cons x l ih =>
  intro h hm hr
  rw [runMats_cons] at hr ⊢
  obtain ⟨b,h1,h2⟩:=ob_some.1 hr
  refine ob_some.2 ⟨b,blk_mono hs h1,?_⟩
  cases b with
  | none=>exact ih h2
  | some b=>exact ih h2
theorem quietO_mono {own:Nat×GIns->List (Nat×GIns)} {h:Heap} {x:Nat×GIns} {v:AV} {vs vs':Tr AV} (hs:Sub vs vs') (hq:quietO base tm vs own h x=some v):quietO base tm vs' own h x=some v:=by
 obtain ⟨hx,h1,h2⟩:=ob_some.1 hq
 exact ob_some.2 ⟨hx,runMats_mono hs h1,gquiet_mono hs h2⟩
theorem runEvs_cons (own:Nat×GIns->List (Nat×GIns)) (x:Nat×GIns) (l:List (Nat×GIns)) (h:Heap) (vs:Tr AV):runEvs base tm h own (x::l) vs=ob (quietO base tm vs own h x) fun v=>runEvs base tm h own l (vs.up (some v) x.1):=rfl
theorem runEvs_spec {own:Nat×GIns->List (Nat×GIns)} {h:Heap}:∀ {l:List (Nat×GIns)} {vs vs':Tr AV},runEvs base tm h own l vs=some vs'->l.Pairwise (fun x y=>x.1≠y.1)->(∀ x∈l,vs.gt x.1=none) ->
  Sub vs vs'/\(∀ i,(∀ x∈l,x.1≠i)->vs'.gt i=vs.gt i)/\∀ x∈l,∃ v,vs'.gt x.1=some v/\quietO base tm vs' own h x=some v:=by
 intro l
 induction l with
 | nil=>intro vs vs' hr _ _;cases hr;exact ⟨Sub.refl _,fun _ _=>rfl,fun x hx=>(by cases hx)⟩
 | cons x l ih =>
  intro vs vs' hr hp hf
  rw [runEvs_cons] at hr
  obtain ⟨v,h1,h2⟩:=ob_some.1 hr
  rw [List.pairwise_cons] at hp
  have hs:Sub vs (vs.up (some v) x.1):=by
   intro j u hj
   rw [Tr.gt_up]
   by_cases e:j=x.1
   ·subst e;rw [hf x (List.mem_cons_self ..)] at hj;cases hj
   ·rw [if_neg e];exact hj
  obtain ⟨g1,g2,g3⟩:=ih h2 hp.2 (fun y hy=>by
   rw [Tr.gt_up,if_neg (fun e=>hp.1 y hy e.symm)];exact hf y (List.mem_cons_of_mem _ hy))
  have hx:vs'.gt x.1=some v:=by
   rw [g2 x.1 (fun y hy e=>hp.1 y hy e.symm),Tr.gt_up,if_pos rfl]
  refine ⟨hs.trans g1,fun i hi=>?_,fun y hy=>?_⟩
  ·rw [g2 i (fun y hy=>hi y (List.mem_cons_of_mem _ hy)),Tr.gt_up,if_neg (fun e=>hi x (List.mem_cons_self ..) e.symm)]
  ·rcases List.mem_cons.1 hy with rfl | hy
   ·exact ⟨v,hx,quietO_mono (hs.trans g1) h1⟩
   ·exact g3 y hy
theorem runCks_spec {own:Nat×GIns->List (Nat×GIns)} {h:Heap} {vs:Tr AV}:∀ {l:List (Nat×GIns)},runCks base tm vs h own l=true->∀ x∈l,∃ v,vs.gt x.1=some v/\quietO base tm vs own h x=some v:=by
 intro l
 induction l with
 | nil=>intro _ x hx;cases hx
 | cons y l ih =>
  intro hc x hx
  have hc:(Option.rec (motive:=fun _=>Bool) false (fun v=>Option.rec (motive:=fun _=>Bool) false (fun u=>and' (AV.same v u) (runCks base tm vs h own l)) (vs.gt y.1)) (quietO base tm vs own h y):Bool)=true:=hc
  cases hq:quietO base tm vs own h y with
  | none=>rw [hq] at hc;cases hc
  | some v =>
   rw [hq] at hc
   cases hv:vs.gt y.1 with
   | none=>rw [hv] at hc;cases hc
   | some u =>
    rw [hv] at hc
    have hc:and' (AV.same v u) (runCks base tm vs h own l)=true:=hc
    rw [and'_eq,Bool.and_eq_true] at hc
    obtain rfl:=same_eq _ _ hc.1
    rcases List.mem_cons.1 hx with rfl | hx
    ·exact ⟨v,hv,hq⟩
    ·exact ih hc.2 x hx
section
variable (gs:List (Nat×GIns)) (b:Array Nat) (es:List Nat) (base:Nat) (tm vsF:Tr AV) (call:CallFn) (hF:Heap)
def StOk (r:Nat) (h hm:Heap):Prop :=
 (∀ x∈gs,x.2.i.eff=false->loOf b es x.1<=r->r<=hiOf b es x.1->(x.2.i.reads=true∨loOf b es x.1=r)->∃ v,vsF.gt x.1=some v/\quietO base tm vsF (ownAt b gs es r) h x=some v) /\
 runMats base tm vsF (gs.filter fun x=>x.2.i.allocs&&decide (hiOf b es x.1=r)) h=some hm
def Run:Nat->List (Nat×GIns)->Heap->Prop
 | r,[],h=>StOk gs b es base tm vsF r h hF
 | r,x::xs,h=>∃ hm v h',StOk gs b es base tm vsF r h hm/\vsF.gt x.1=some v/\x.2.ev [] vsF tm call hm.next hm=some (v,h')/\Run (r+1) xs h'
end
theorem unique_of_pairwise:∀ {gs:List (Nat×GIns)},gs.Pairwise (fun x y=>x.1≠y.1)->∀ {x y},x∈gs->y∈gs->x.1=y.1->x=y:=by
 intro gs
 induction gs with
 | nil=>intro _ x y hx;cases hx
 | cons z gs ih =>
  intro hp x y hx hy e
  rw [List.pairwise_cons] at hp
  rcases List.mem_cons.1 hx with hx1 | hx1
  ·rcases List.mem_cons.1 hy with hy1 | hy1
   ·rw [hx1,hy1]
   ·exact absurd (hx1▸e) (hp.1 y hy1)
  ·rcases List.mem_cons.1 hy with hy1 | hy1
   ·exact absurd (hy1▸e.symm) (hp.1 x hx1)
   ·exact ih hp.2 hx1 hy1 e
theorem stage_step {gs:List (Nat×GIns)} {b:Array Nat} {es:List Nat} {r:Nat} {vs vs1:Tr AV} {h:Heap} (hp:gs.Pairwise (fun x y=>x.1≠y.1))
  (hck:runCks base tm vs h (ownAt b gs es r) (gs.filter fun x=>x.2.i.reads&&decide (loOf b es x.1<r/\r<=hiOf b es x.1))=true)
  (hev:runEvs base tm h (ownAt b gs es r) (gs.filter fun x=>!x.2.i.eff&&decide (loOf b es x.1=r)) vs=some vs1)
  (hf:∀ x∈gs,x.2.i.eff=false->loOf b es x.1=r->vs.gt x.1=none) :
  Sub vs vs1/\(∀ i,(∀ x∈gs,x.2.i.eff=false->loOf b es x.1=r->x.1≠i)->vs1.gt i=vs.gt i) /\
   ∀ vsF,Sub vs1 vsF->∀ x∈gs,x.2.i.eff=false->loOf b es x.1<=r->r<=hiOf b es x.1->(x.2.i.reads=true∨loOf b es x.1=r)->∃ v,vsF.gt x.1=some v/\quietO base tm vsF (ownAt b gs es r) h x=some v:=by
 have hm:∀ {x},x∈(gs.filter fun x=>!x.2.i.eff&&decide (loOf b es x.1=r))↔x∈gs/\x.2.i.eff=false/\loOf b es x.1=r:=by
  intro x;simp only [List.mem_filter,Bool.and_eq_true,Bool.not_eq_true',decide_eq_true_eq]
 obtain ⟨g1,g2,g3⟩:=runEvs_spec hev (hp.filter _) (fun x hx=>let ⟨a1,a2,a3⟩:=hm.1 hx;hf x a1 a2 a3)
 refine ⟨g1,fun i hi=>g2 i fun x hx=>let ⟨a1,a2,a3⟩:=hm.1 hx;hi x a1 a2 a3,fun vsF hs x hx he hlo hhi hr=>?_⟩
 by_cases hlr:loOf b es x.1=r
 ·obtain ⟨v,h1,h2⟩:=g3 x (hm.2 ⟨hx,he,hlr⟩)
  exact ⟨v,hs _ _ h1,quietO_mono hs h2⟩
 ·have hrd:=hr.resolve_right hlr
  obtain ⟨v,h1,h2⟩:=runCks_spec hck x (by simp only [List.mem_filter,Bool.and_eq_true,decide_eq_true_eq];exact ⟨hx,hrd,by omega,hhi⟩)
  exact ⟨v,hs _ _ (g1 _ _ h1),quietO_mono (g1.trans hs) h2⟩
theorem runStages_cons (s:Stage) (ss:List Stage) (vs:Tr AV) (h:Heap):runStages base tm call (s::ss) vs h =
  iff' (runCks base tm vs h s.own s.cks) (ob (runEvs base tm h s.own s.evs vs) fun vs=>ob (runMats base tm vs s.mats h) fun h=>runAct tm vs call h (runStages base tm call ss) s.act):=rfl
theorem stages_run {gs:List (Nat×GIns)} {b:Array Nat} {es:List Nat} {vsF:Tr AV} {hF:Heap} (hp:gs.Pairwise (fun x y=>x.1≠y.1)) :
  ∀ {acts:List (Nat×GIns)} {r:Nat} {vs:Tr AV} {h:Heap},runStages base tm call (stagesOf b gs es r acts) vs h=some (vsF,hF)->(∀ x∈acts,x∈gs/\x.2.i.eff=true)->acts.Pairwise (fun x y=>x.1≠y.1) ->
   (∀ x∈gs,(x.2.i.eff=false/\r<=loOf b es x.1)∨x∈acts->vs.gt x.1=none)->Sub vs vsF/\Run gs b es base tm vsF call hF r acts h:=by
 intro acts
 induction acts with
 | nil =>
  intro r vs h hr ha hap hf
  simp only [stagesOf] at hr
  rw [runStages_cons] at hr
  obtain ⟨hck,hr⟩:=iff'_some.1 hr
  obtain ⟨vs1,hev,hr⟩:=ob_some.1 hr
  obtain ⟨hm,hmt,hr⟩:=ob_some.1 hr
  cases hr
  obtain ⟨g1,_,g3⟩:=stage_step hp hck hev (fun x hx he hlo=>hf x hx (.inl ⟨he,by omega⟩))
  exact ⟨g1,g3 _ (Sub.refl _),hmt⟩
 | cons x acts ih =>
  intro r vs h hr ha hap hf
  simp only [stagesOf] at hr
  rw [runStages_cons] at hr
  obtain ⟨hck,hr⟩:=iff'_some.1 hr
  obtain ⟨vs1,hev,hr⟩:=ob_some.1 hr
  obtain ⟨hm,hmt,hr⟩:=ob_some.1 hr
  obtain ⟨q,hq,hr⟩:=ob_some.1 (show ob (x.2.ev [] vs1 tm call hm.next hm) (fun r1=>runStages base tm call (stagesOf b gs es (r+1) acts) (vs1.up (some r1.1) x.1) r1.2)=some (vsF,hF) from hr)
  obtain ⟨g1,g2,g3⟩:=stage_step hp hck hev (fun x hx he hlo=>hf x hx (.inl ⟨he,by omega⟩))
  rw [List.pairwise_cons] at hap
  obtain ⟨hxg,hxe⟩:=ha x (List.mem_cons_self ..)
  have hx1:vs1.gt x.1=none:=by
   rw [g2 x.1 (fun y hy he _ e=>by
    have:=unique_of_pairwise hp hy hxg e
    subst this;rw [hxe] at he;cases he)]
   exact hf x hxg (.inr (List.mem_cons_self ..))
  have hs12:Sub vs1 (vs1.up (some q.1) x.1):=by
   intro j u hj
   rw [Tr.gt_up]
   by_cases e:j=x.1
   ·subst e;rw [hx1] at hj;cases hj
   ·rw [if_neg e];exact hj
  obtain ⟨g4,g5⟩:=ih hr (fun y hy=>ha y (List.mem_cons_of_mem _ hy)) hap.2 (fun y hy hc=>by
   have hne:y.1≠x.1:=by
    intro e
    rcases hc with ⟨he,_⟩ | hc
    ·have:=unique_of_pairwise hp hy hxg e
     subst this;rw [hxe] at he;cases he
    ·exact hap.1 y hc e.symm
   rw [Tr.gt_up,if_neg hne,g2 y.1 (fun z hz he hlo e=>by
    have:=unique_of_pairwise hp hz hy e
    subst this
    rcases hc with ⟨_,h2⟩ | hc
    ·omega
    ·rw [(ha z (List.mem_cons_of_mem _ hc)).2] at he;cases he)]
   rcases hc with ⟨he,h2⟩ | hc
   ·exact hf y hy (.inl ⟨he,by omega⟩)
   ·exact hf y hy (.inr (List.mem_cons_of_mem _ hc)))
  refine ⟨(g1.trans hs12).trans g4,hm,q.1,q.2,⟨g3 _ (hs12.trans g4),runMats_mono (hs12.trans g4) hmt⟩,g4 _ _ ?_,gev_mono (hs12.trans g4) hq,g5⟩
  rw [Tr.gt_up,if_pos rfl]
theorem Run.get {gs:List (Nat×GIns)} {b:Array Nat} {es:List Nat} {vsF:Tr AV} {hF:Heap}:∀ {acts:List (Nat×GIns)} {r:Nat} {h:Heap},Run gs b es base tm vsF call hF r acts h->∃ hm,StOk gs b es base tm vsF r h hm
 | [],_,_,hr=>⟨_,hr⟩
 | _::_,_,_,hr=>let ⟨hm,_,_,h1,_⟩:=hr;⟨hm,h1⟩
theorem Run.all {gs:List (Nat×GIns)} {b:Array Nat} {es:List Nat} {vsF:Tr AV} {hF:Heap}:∀ {acts:List (Nat×GIns)} {r:Nat} {h:Heap},Run gs b es base tm vsF call hF r acts h ->
  ∀ x∈gs,x.2.i.eff=false->x.2.i.reads=false->r<=loOf b es x.1->loOf b es x.1<=r+acts.length->loOf b es x.1<=hiOf b es x.1->∃ v,vsF.gt x.1=some v/\∀ h',x.2.quiet vsF tm (base+x.1) h'=some v:=by
 intro acts
 induction acts with
 | nil =>
  intro r h hr x hx he hrd h1 h2 h3
  have e:loOf b es x.1=r:=by simp only [List.length_nil] at h2;omega
  obtain ⟨v,g1,g2⟩:=hr.1 x hx he (by omega) (by omega) (.inr e)
  obtain ⟨_,_,g2⟩:=ob_some.1 g2
  exact ⟨v,g1,fun h'=>gquiet_indep hrd g2⟩
 | cons y acts ih =>
  intro r h hr x hx he hrd h1 h2 h3
  obtain ⟨hm,v,h',hst,_,_,hrun⟩:=hr
  by_cases e:loOf b es x.1=r
  ·obtain ⟨v,g1,g2⟩:=hst.1 x hx he (by omega) (by omega) (.inr e)
   obtain ⟨_,_,g2⟩:=ob_some.1 g2
   exact ⟨v,g1,fun h'=>gquiet_indep hrd g2⟩
  ·exact ih hrun x hx he hrd (by omega) (by simp only [List.length_cons] at h2;omega) h3
end
end Go.Am
namespace Go.Am
def befStep (acc:Array Nat) (o:Oper):Array Nat:=acc.push (o.after.foldl (fun s e=>if Region.binds .any e then s|||2^e.on|||acc.getD e.on 0 else s) 0)
theorem before_eq (ops:Array Oper):Region.before ops=ops.toList.foldl befStep #[]:=by
 unfold Region.before
 rw [← Array.foldl_toList];rfl
theorem befs_size:∀ (l:List Oper) (acc:Array Nat),(l.foldl befStep acc).size=acc.size+l.length
 | [],acc=>rfl
 | o::l,acc=>by rw [List.foldl_cons,befs_size l];simp [befStep];omega
theorem befs_get:∀ (l:List Oper) (acc:Array Nat) (i:Nat),i<acc.size->(l.foldl befStep acc).getD i 0=acc.getD i 0
 | [],acc,i,_=>rfl
 | o::l,acc,i,h=>by
  rw [List.foldl_cons,befs_get l _ i (by simp [befStep];omega)]
  simp only [befStep,Array.getD_eq_getD_getElem?,Array.getElem?_push]
  rw [if_neg (by omega)]
theorem fold_bit {acc:Array Nat} {j:Nat}:∀ (l:List Edge) (s:Nat),(l.foldl (fun s e=>if Region.binds .any e then s|||2^e.on|||acc.getD e.on 0 else s) s).testBit j=true ->
  s.testBit j=true∨∃ e∈l,Region.binds .any e=true/\(j=e.on∨(acc.getD e.on 0).testBit j=true)
 | [],s,h=>.inl h
 | e::l,s,h=>by
  rw [List.foldl_cons] at h
  rcases fold_bit l _ h with h1|⟨e',h1,h2⟩
  ·by_cases hb:Region.binds .any e=true
   ·rw [if_pos hb] at h1
    simp only [Nat.testBit_or,Bool.or_eq_true,Nat.testBit_two_pow,decide_eq_true_eq] at h1
    rcases h1 with (h1 | h1) | h1
    ·exact .inl h1
    ·exact .inr ⟨e,List.mem_cons_self ..,hb,.inl h1.symm⟩
    ·exact .inr ⟨e,List.mem_cons_self ..,hb,.inr h1⟩
   ·rw [if_neg hb] at h1;exact .inl h1
  ·exact .inr ⟨e',List.mem_cons_of_mem _ h1,h2⟩
theorem before_spec {ops:Array Oper} {i j:Nat} (hlt:∀ o,ops[i]?=some o->∀ e∈o.after,Region.binds .any e=true->e.on<i) (h:bef (Region.before ops) i j=true) :
  ∃ o,ops[i]?=some o/\∃ e∈o.after,Region.binds .any e=true/\(j=e.on∨bef (Region.before ops) e.on j=true):=by
 unfold bef at h ⊢
 rw [before_eq] at h ⊢
 have hi:i<ops.toList.length:=by
  rcases Nat.lt_or_ge i ops.toList.length with h1 | h1
  ·exact h1
  ·rw [Array.getD_eq_getD_getElem?,Array.getElem?_eq_none (by rw [befs_size];simpa using h1)] at h
   simp at h
 have hsplit:ops.toList=ops.toList.take i++(ops.toList[i]::ops.toList.drop (i+1)):=by rw [← List.drop_eq_getElem_cons hi];simp
 have ho:ops[i]?=some ops.toList[i]:=by rw [← Array.getElem?_toList];exact List.getElem?_eq_getElem hi
 refine ⟨_,ho,?_⟩
 have hacc:((ops.toList.take i).foldl befStep #[]).size=i:=by
  have:i<ops.size:=by simpa using hi
  rw [befs_size];simp;omega
 have hval:(ops.toList.foldl befStep #[]).getD i 0=(ops.toList[i].after.foldl (fun s e=>if Region.binds .any e then s|||2^e.on|||((ops.toList.take i).foldl befStep #[]).getD e.on 0 else s) 0):=by
  conv=>lhs;rw [hsplit]
  rw [List.foldl_append,List.foldl_cons,befs_get _ _ _ (by simp [befStep,hacc])]
  simp only [befStep,Array.getD_eq_getD_getElem?,Array.getElem?_push]
  rw [if_pos hacc.symm];rfl
 rw [hval,← Array.foldl_toList] at h
 rcases fold_bit _ _ h with h1|⟨e,h1,h2,h3⟩
 ·simp at h1
 ·have h1:=Array.mem_toList_iff.1 h1
  refine ⟨e,h1,h2,h3.imp id fun h3=>?_⟩
  have hon:=hlt _ ho e h1 h2
  rw [← h3]
  conv=>lhs;rw [hsplit]
  rw [List.foldl_append,befs_get _ _ _ (by rw [hacc];exact hon)]
structure GraphOk (ops:Array Oper):Prop where
 back:∀ i o,ops[i]?=some o->∀ e∈o.after,Region.binds .any e=true->e.on<i
 guard:∀ i o j want,ops[i]?=some o->o.guard=some (j,want)->bef (Region.before ops) i j=true
 first:∀ i o j d,ops[i]?=some o->j<i->(ops[j]?).bind (·.dst)=some d->d∈namesOf ops o->bef (Region.before ops) i j=true
 names:∀ i j o d,ops[i]?=some o->j<ops.size->i≠j->(ops[j]?).bind (·.dst)=some d->d∈namesOf ops o->bef (Region.before ops) i j=true∨bef (Region.before ops) j i=true
theorem graph_ok {ops:Array Oper} (h1:namesOk ops (Region.before ops)=true) (h2:edgesOk ops (Region.before ops)=true):GraphOk ops:=by
 have he:∀ i o,ops[i]?=some o->(∀ e∈o.after,Region.binds .any e=true->e.on<i)/\(∀ j want,o.guard=some (j,want)->bef (Region.before ops) i j=true) /\
   ∀ j,j<i->∀ d,(ops[j]?).bind (·.dst)=some d->d∈namesOf ops o->bef (Region.before ops) i j=true:=by
  intro i o ho
  unfold edgesOk at h2
  rw [List.all_eq_true] at h2
  have hm:(o,i)∈ops.toList.zipIdx:=by
   rw [List.mem_zipIdx_iff_getElem?,Array.getElem?_toList];exact ho
  have:=h2 _ hm
  simp only [Bool.and_eq_true] at this
  obtain ⟨⟨g1,g2⟩,g3⟩:=this
  refine ⟨fun e hm hb=>?_,fun j want hg=>?_,fun j hj d hd hn=>?_⟩
  ·rw [Array.all_eq_true'] at g1
   have:=g1 e hm
   simpa [hb] using this
  ·rw [hg] at g2;exact g2
  ·rw [List.all_eq_true] at g3
   have:=g3 j (List.mem_range.2 hj)
   rw [hd] at this
   simpa [hn] using this
 refine ⟨fun i o ho=>(he i o ho).1,fun i o j want ho hg=>(he i o ho).2.1 j want hg,fun i o j d ho hj hd hn=>(he i o ho).2.2 j hj d hd hn,fun i j o d ho hj hne hd hn=>?_⟩
 unfold namesOk at h1
 rw [List.all_eq_true] at h1
 have hi:i<ops.size:=(Array.getElem?_eq_some_iff.1 ho).1
 have:=h1 i (List.mem_range.2 hi)
 rw [List.all_eq_true] at this
 have:=this j (List.mem_range.2 hj)
 obtain ⟨oj,hoj⟩:∃ oj,ops[j]?=some oj:=⟨_,Array.getElem?_eq_getElem hj⟩
 rw [ho,hoj] at this
 rw [hoj] at hd
 have hd:oj.dst=some d:=hd
 simp only [hd] at this
 simp only [Bool.or_eq_true,beq_iff_eq,Bool.not_eq_true',List.contains_eq_mem,decide_eq_false_iff_not] at this
 rcases this with ((h | h) | h) | h
 ·exact absurd h hne
 ·exact .inl h
 ·exact .inr h
 ·exact absurd hn h
theorem bef_lt {ops:Array Oper} (hg:GraphOk ops):∀ (i j:Nat),bef (Region.before ops) i j=true->j<i:=by
 intro i
 induction i using Nat.strongRecOn with
 | _ i ih =>
  intro j h
  obtain ⟨o,ho,e,he,hb,h1⟩:=before_spec (fun o ho=>hg.back i o ho) h
  have:=hg.back i o ho e he hb
  rcases h1 with rfl | h1
  ·exact this
  ·exact Nat.lt_trans (ih _ this j h1) this
theorem writer_some {ops:Array Oper} {t:Nat}:∀ {i j:Nat},writer ops t i=some j->j<i/\(ops[j]?).bind (·.dst)=some t/\∀ k,j<k->k<i->(ops[k]?).bind (·.dst)≠some t
 | 0,j,h=>by cases h
 | i+1,j,h=>by
  simp only [writer] at h
  split at h
  ·rename_i hd
   cases h
   exact ⟨by omega,hd,fun k h1 h2=>by omega⟩
  ·rename_i hd
   obtain ⟨h1,h2,h3⟩:=writer_some h
   refine ⟨by omega,h2,fun k hk1 hk2=>?_⟩
   by_cases e:k=i
   ·subst e;exact hd
   ·exact h3 k hk1 (by omega)
theorem writer_none {ops:Array Oper} {t:Nat}:∀ {i:Nat},writer ops t i=none->∀ k,k<i->(ops[k]?).bind (·.dst)≠some t
 | 0,_,k,hk=>absurd hk (Nat.not_lt_zero _)
 | i+1,h,k,hk=>by
  simp only [writer] at h
  split at h
  ·cases h
  ·rename_i hd
   by_cases e:k=i
   ·subst e;exact hd
   ·exact writer_none h k (by omega)
end Go.Am
namespace Go.Am
section
variable {P:Program} {keep:Keeps} {w:World} {ρ : Pls} {h:Heap} {kp:Nat->Bool} {nt:Nat} {ops:Array Oper} {i:Nat}
theorem compD1_ok (hb:(compD1 P kp nt ops i).i.isBad=false):∃ o,ops[i]?=some o/\okDst nt o.dst=true/\(compD1 P kp nt ops i).i=compOp P (findN kp ops o i) o.op /\
  (((compD1 P kp nt ops i).g=none/\o.guard=none)∨∃ j want d c,o.guard=some (j,want)/\(ops[j]?).bind (·.dst)=some d/\findN kp ops o i d=some c/\(compD1 P kp nt ops i).g=some (c,want)):=by
 unfold compD1 at hb ⊢
 cases ho:ops[i]? with
 | none=>rw [ho] at hb;cases hb
 | some o =>
  rw [ho] at hb
  simp only at hb ⊢
  cases hd:okDst nt o.dst with
  | false=>rw [hd] at hb;cases hb
  | true =>
   rw [hd] at hb
   simp only [if_true] at hb ⊢
   refine ⟨o,rfl,hd,?_⟩
   cases hg:o.guard with
   | none=>exact ⟨rfl,.inl ⟨rfl,rfl⟩⟩
   | some jw =>
    obtain ⟨j,want⟩:=jw
    rw [hg] at hb
    simp only [compG] at hb ⊢
    cases hdd:(ops[j]?).bind (·.dst) with
    | none=>rw [hdd] at hb;cases hb
    | some d =>
     rw [hdd] at hb
     simp only at hb ⊢
     cases hc:findN kp ops o i d with
     | none=>rw [hc] at hb;cases hb
     | some c=>exact ⟨rfl,.inr ⟨j,want,d,c,rfl,hdd,hc,rfl⟩⟩
variable {vs tm:Tr AV} {a:Act} {ro:Option Nat} {Q:Exit->Act->World->Prop} {K:Act->World->Prop} {o:Oper}
theorem wpOpIn_wanted (ho:ops[i]?=some o) (hw:Region.wanted o (yielded ops a.tmps)=true) (h:o.wpIn (fen ro) 0 P a w K Q):wpOpIn (fen ro) 0 P ops Q i K a w:=by
 unfold wpOpIn;rw [ho];simp only [hw,if_true];exact h
theorem wpOpIn_not (ho:ops[i]?=some o) (hw:Region.wanted o (yielded ops a.tmps)=false) (h:K (a.put o.dst undef) w):wpOpIn (fen ro) 0 P ops Q i K a w:=by
 unfold wpOpIn;rw [ho];simp only [hw,Bool.false_eq_true,if_false];exact ⟨fun _ _=>trivial,h⟩
theorem notDefer {find:Nat->Option Opd} (hb:(compOp P find o.op).isBad=false):∀ c,o.op≠.defer c:=by
 intro c e;rw [e] at hb;cases hb
theorem guard_word (hb:(compD1 P kp nt ops i).i.isBad=false) (ho:ops[i]?=some o) (he:EnvOk (findN kp ops o i) [] vs tm ρ a) :
  ((compD1 P kp nt ops i).g=none/\Region.wanted o (yielded ops a.tmps)=true)∨∃ c want,(compD1 P kp nt ops i).g=some (c,want)/\∀ v,c.get [] vs tm=some v->Region.wanted o (yielded ops a.tmps)=wanted want v:=by
 obtain ⟨o',ho',_,_,hg⟩:=compD1_ok hb
 rw [ho] at ho';cases ho'
 rcases hg with ⟨h1,h2⟩|⟨j,want,d,c,h1,h2,h3,h4⟩
 ·exact .inl ⟨h1,by simp [Region.wanted,h2]⟩
 ·exact .inr ⟨c,want,h4,fun v hv=>wanted_sound he h1 h2 h3 hv⟩
theorem quiet_step (hr:HR P keep ρ h w) (hb:(compD1 P kp nt ops i).i.isBad=false) (ho:ops[i]?=some o) (he:EnvOk (findN kp ops o i) [] vs tm ρ a) (hal:(compD1 P kp nt ops i).i.allocs=false) {id:Nat} {u:AV}
  (hq:(compD1 P kp nt ops i).quiet vs tm id h=some u) (hK:∀ v,VR ρ u v->K (a.put o.dst v) w):wpOpIn (fen ro) 0 P ops Q i K a w:=by
 obtain ⟨o',ho',_,hi,_⟩:=compD1_ok hb
 rw [ho] at ho';cases ho'
 have hgood:=compOp_good (P:=P) (keep:=keep) (find:=findN kp ops o i) o
 have run:(compD1 P kp nt ops i).i.quiet vs tm id h=some u->o.wpIn (fen ro) 0 P a w K Q:=by
  intro hq
  rw [hi] at hq hal hb
  obtain ⟨v,h1,h2⟩:=quiet_gives hgood hal hr he hq
  refine ⟨fun _ _=>trivial,?_⟩
  rw [Oper.semAt_eq _ _ _ (notDefer hb),h1]
  exact hK v h2
 cases hd:compD1 P kp nt ops i with
 | mk g x =>
  rcases guard_word hb ho he with ⟨h1,h2⟩|⟨c,want,h1,h2⟩
  ·rw [hd] at h1 hq run
   simp only at h1;subst h1
   exact wpOpIn_wanted ho h2 (run hq)
  ·rw [hd] at h1 hq run
   simp only at h1;subst h1
   obtain ⟨v,g1,g2⟩:=ob_some.1 (show ob (c.get [] vs tm) (fun v=>Bool.rec (motive:=fun _=>Option AV) (some undefA) (x.quiet vs tm id h) (wanted want v))=some u from hq)
   have hw:=h2 v g1
   cases hwv:wanted want v with
   | true=>rw [hwv] at g2 hw;exact wpOpIn_wanted ho hw (run g2)
   | false=>rw [hwv] at g2 hw;cases g2;exact wpOpIn_not ho hw (hK undef (VR.undef ρ))
theorem alloc_step (hr:HR P keep ρ h w) (hb:(compD1 P kp nt ops i).i.isBad=false) (ho:ops[i]?=some o) (he:EnvOk (findN kp ops o i) [] vs tm ρ a) (hal:(compD1 P kp nt ops i).i.allocs=true) {id:Nat} {u:AV}
  (hq:(compD1 P kp nt ops i).quiet vs tm id h=some u) (hid:ρ id=none) (hK0:(compD1 P kp nt ops i).blk vs tm=some none->∀ v,VR ρ u v->K (a.put o.dst v) w)
  (hK1:∀ y v w' ob' sz,(compD1 P kp nt ops i).blk vs tm=some (some y)->w'.os=w.os->w'.output=w.output->w'.heap=w.heap.push ob'->BR P keep (ρ.up id ⟨w.heap.size,0,sz⟩) id y w'->VR (ρ.up id ⟨w.heap.size,0,sz⟩) u v->K (a.put o.dst v) w') :
  wpOpIn (fen ro) 0 P ops Q i K a w:=by
 obtain ⟨o',ho',_,hi,_⟩:=compD1_ok hb
 rw [ho] at ho';cases ho'
 have hgood:=compOp_good (P:=P) (keep:=keep) (find:=findN kp ops o i) o
 cases hd:compD1 P kp nt ops i with
 | mk g x =>
  rw [hd] at hi hal
  cases x with
  | al f xs =>
   simp only at hi
   rw [← hi] at hgood
   have run:∀ {us:List AV} {r:Blk×(Nat->AV)},gets xs [] vs tm=some us->f us=some r->r.2 id=u->(compD1 P kp nt ops i).blk vs tm=some (some r.1)->o.wpIn (fen ro) 0 P a w K Q:=by
    intro us r h1 h2 h3 h4
    obtain ⟨ob',sz,v,w',g1,g2,g3,g4,g5⟩:=hgood [] vs tm ρ h w a hr he us r h1 h2
    obtain ⟨g6,g7⟩:=g5 id hid
    refine ⟨fun _ _=>trivial,?_⟩
    rw [Oper.semAt_eq _ _ _ (notDefer (by rw [← hi];rfl)),g1]
    rw [h3] at g7
    exact hK1 r.1 v w' ob' sz h4 g2 g3 g4 g6 g7
   rcases guard_word hb ho he with ⟨h1,h2⟩|⟨c,want,h1,h2⟩
   ·rw [hd] at h1 hq
    simp only at h1;subst h1
    obtain ⟨us,g1,g2⟩:=ob_some.1 (show ob (gets xs [] vs tm) (fun us=>ob (f us) fun r=>some (r.2 id))=some u from hq)
    obtain ⟨r,g3,g4⟩:=ob_some.1 g2
    refine wpOpIn_wanted ho h2 (run g1 g3 (Option.some.inj g4) ?_)
    rw [hd]
    exact ob_some.2 ⟨us,g1,ob_some.2 ⟨r,g3,rfl⟩⟩
   ·rw [hd] at h1 hq
    simp only at h1;subst h1
    obtain ⟨v,g1,g2⟩:=ob_some.1 (show ob (c.get [] vs tm) (fun v=>Bool.rec (motive:=fun _=>Option AV) (some undefA) (ob (gets xs [] vs tm) (fun us=>ob (f us) fun r=>some (r.2 id))) (wanted want v))=some u from hq)
    have hw:=h2 v g1
    cases hwv:wanted want v with
    | true =>
     rw [hwv] at g2 hw
     obtain ⟨us,g3,g4⟩:=ob_some.1 (show ob (gets xs [] vs tm) (fun us=>ob (f us) fun r=>some (r.2 id))=some u from g2)
     obtain ⟨r,g5,g6⟩:=ob_some.1 g4
     refine wpOpIn_wanted ho hw (run g3 g5 (Option.some.inj g6) ?_)
     rw [hd]
     show ob (c.get [] vs tm) (fun v=>Bool.rec (motive:=fun _=>Option (Option Blk)) (some none) (ob (gets xs [] vs tm) fun us=>ob (f us) fun r=>some (some r.1)) (wanted want v))=_
     rw [g1]
     show (Bool.rec (motive:=fun _=>Option (Option Blk)) (some none) (ob (gets xs [] vs tm) fun us=>ob (f us) fun r=>some (some r.1)) (wanted want v):Option (Option Blk))=_
     rw [hwv]
     exact ob_some.2 ⟨us,g3,ob_some.2 ⟨r,g5,rfl⟩⟩
    | false =>
     rw [hwv] at g2 hw;cases g2
     refine wpOpIn_not ho hw (hK0 ?_ undef (VR.undef ρ))
     rw [hd]
     show ob (c.get [] vs tm) (fun v=>Bool.rec (motive:=fun _=>Option (Option Blk)) (some none) (ob (gets xs [] vs tm) fun us=>ob (f us) fun r=>some (some r.1)) (wanted want v))=_
     rw [g1]
     show (Bool.rec (motive:=fun _=>Option (Option Blk)) (some none) (ob (gets xs [] vs tm) fun us=>ob (f us) fun r=>some (some r.1)) (wanted want v):Option (Option Blk))=_
     rw [hwv]
  | _=>cases hal
theorem act_step {call:CallFn} (hn:NamesOk P) (hc:CallOk P keep call) (hr:HR P keep ρ h w) (hb:(compD1 P kp nt ops i).i.isBad=false) (ho:ops[i]?=some o) (he:EnvOk (findN kp ops o i) [] vs tm ρ a) {id:Nat} {r:AV×Heap} (hid:h.next<=id)
  (hq:(compD1 P kp nt ops i).ev [] vs tm call id h=some r) (hK:∀ ρ' v w',VR ρ' r.1 v->Post P keep ρ h w ρ' r.2 w'->K (a.put o.dst v) w'):wpOpIn (fen ro) 0 P ops Q i K a w:=by
 obtain ⟨o',ho',_,hi,_⟩:=compD1_ok hb
 rw [ho] at ho';cases ho'
 cases hd:compD1 P kp nt ops i with
 | mk g x =>
  rw [hd] at hi hq
  simp only at hi;subst hi
  rcases guard_word hb ho he with ⟨h1,h2⟩|⟨c,want,h1,h2⟩
  ·rw [hd] at h1
   simp only at h1;subst h1
   exact wpOpIn_wanted ho h2 (step_sound hn hc hr he hid hq hK)
  ·rw [hd] at h1
   simp only at h1;subst h1
   obtain ⟨v,g1,g2⟩:=ob_some.1 (show ob (c.get [] vs tm) (fun v=>Bool.rec (motive:=fun _=>Res) (some (undefA,h)) ((compOp P (findN kp ops o i) o.op).ev [] vs tm call id h) (wanted want v))=some r from hq)
   have hw:=h2 v g1
   cases hwv:wanted want v with
   | true=>rw [hwv] at g2 hw;exact wpOpIn_wanted ho hw (step_sound hn hc hr he hid g2 hK)
   | false=>rw [hwv] at g2 hw;cases g2;exact wpOpIn_not ho hw (hK ρ undef w (VR.undef ρ) (Post.refl hr))
end
end Go.Am
namespace Go.Am
section
variable {P:Program} {keep:Keeps} {w w':World} {ρ : Pls} {h:Heap}
theorem HR.mat (hr:HR P keep ρ h w) {b:Nat} {p:Pl} {y:Blk} (hp:ρ b=some p) (hbn:b<h.next) (hb:BR P keep ρ b y w) (hfree:¬Own ρ h p.blk) :
  HR P keep ρ ⟨h.bs.up (some y) b,h.next⟩ w/\∀ k,Own ρ ⟨h.bs.up (some y) b,h.next⟩ k->Own ρ h k∨k=p.blk:=by
 have hget:∀ c,(h.bs.up (some y) b).gt c=if c=b then some y else h.bs.gt c:=fun c=>Tr.gt_up _ _ _ _
 refine ⟨⟨hr.dom,fun c z hz=>?_,fun c z hz=>?_,fun c c' z z' q q' hz hz' hd hd' hrw hq hq' hne=>?_⟩,fun k hk=>?_⟩
 ·simp only [hget] at hz
  by_cases e:c=b
  ·subst e;exact hbn
  ·rw [if_neg e] at hz;exact hr.has _ _ hz
 ·simp only [hget] at hz
  by_cases e:c=b
  ·subst e;rw [if_pos rfl] at hz;cases hz;exact hb
  ·rw [if_neg e] at hz;exact hr.blk c z hz
 ·simp only [hget] at hz hz'
  by_cases e:c=b
  ·subst e
   have e':c'≠c:=fun e=>hne e.symm
   rw [if_neg e'] at hz'
   rw [hp] at hq;cases hq
   exact fun e=>hfree ⟨c',z',q',hz',hd',hq',e.symm⟩
  ·rw [if_neg e] at hz
   by_cases e':c'=b
   ·subst e'
    rw [hp] at hq';cases hq'
    exact fun e=>hfree ⟨c,z,q,hz,hd,hq,e⟩
   ·rw [if_neg e'] at hz'
    exact hr.inj c c' z z' q q' hz hz' hd hd' hrw hq hq' hne
 ·obtain ⟨c,z,q,hz,hd,hq,rfl⟩:=hk
  simp only [hget] at hz
  by_cases e:c=b
  ·subst e;rw [hp] at hq;cases hq;exact .inr rfl
  ·rw [if_neg e] at hz;exact .inl ⟨c,z,q,hz,hd,hq,rfl⟩
theorem HR.more (hr:HR P keep ρ h w) {b:Nat} {p:Pl} {o:Obj} (hb:ρ b=none) (hbn:b<h.next) (hheap:w'.heap=w.heap.push o) :
  HR P keep (ρ.up b p) h w'/\∀ k,Own (ρ.up b p) h k->Own ρ h k:=by
 have hle:ρ.le (ρ.up b p):=Pls.le_up hb
 have live:∀ c z q,h.bs.gt c=some z->z.dead?=false->(ρ.up b p) c=some q->ρ c=some q:=by
  intro c z q hz hd hq
  obtain ⟨q',hq',_⟩:=(hr.blk c z hz).place hd
  have:=hle _ _ hq'
  rw [hq] at this;cases this;exact hq'
 refine ⟨⟨fun c q hc=>?_,hr.has,fun c z hz=>?_,fun c c' z z' q q' hz hz' hd hd' hrw hq hq' hne=>?_⟩,fun k hk=>?_⟩
 ·unfold Pls.up at hc
  by_cases e:c=b
  ·subst e;exact hbn
  ·rw [if_neg e] at hc;exact hr.dom _ _ hc
 ·refine ((hr.blk c z hz).frame fun q hd hq=>?_).mono hle
  obtain ⟨q',hq',hlt⟩:=(hr.blk c z hz).place hd
  rw [hq] at hq';cases hq'
  rw [hheap,Array.getElem?_push,if_neg (by omega)]
 ·exact hr.inj c c' z z' q q' hz hz' hd hd' hrw (live _ _ _ hz hd hq) (live _ _ _ hz' hd' hq') hne
 ·obtain ⟨c,z,q,hz,hd,hq,rfl⟩:=hk
  exact ⟨c,z,q,hz,hd,live _ _ _ hz hd hq,rfl⟩
theorem HR.more_ownW (hr:HR P keep ρ h w) {b:Nat} {p:Pl} (hb:ρ b=none):∀ k,OwnW (ρ.up b p) h k->OwnW ρ h k:=by
 intro k ⟨c,z,q,hz,hd,hq,e⟩
 obtain ⟨q',hq',_⟩:=(hr.blk c z hz).place (dead_of_fixed hd)
 have:=(Pls.le_up (p:=p) hb) _ _ hq'
 rw [hq] at this;cases this
 exact ⟨c,z,q,hz,hd,hq',e⟩
theorem mats_ownW {base:Nat} {tm vsF:Tr AV}:∀ {l:List (Nat×GIns)} {h hm:Heap},runMats base tm vsF l h=some hm ->
  (∀ x∈l,∀ y,x.2.blk vsF tm=some (some y)->∃ p,ρ (base+x.1)=some p) ->
  ∀ k,OwnW ρ hm k->OwnW ρ h k∨∃ x∈l,∃ p,ρ (base+x.1)=some p/\k=p.blk:=by
 intro l
 induction l with
 | nil=>intro h hm hr _ k hk;cases hr;exact .inl hk
 | cons x l ih =>
  intro h hm hr hx k hk
  rw [runMats_cons] at hr
  obtain ⟨b,h1,h2⟩:=ob_some.1 hr
  cases b with
  | none =>
   rcases ih h2 (fun y hy=>hx y (List.mem_cons_of_mem _ hy)) k hk with g|⟨y,hy,r⟩
   ·exact .inl g
   ·exact .inr ⟨y,List.mem_cons_of_mem _ hy,r⟩
  | some b =>
   obtain ⟨p,hpp⟩:=hx x (List.mem_cons_self ..) b h1
   rcases ih h2 (fun y hy=>hx y (List.mem_cons_of_mem _ hy)) k hk with ⟨c,z,q,hz,hd,hq,rfl⟩|⟨y,hy,r⟩
   ·simp only [Tr.gt_up] at hz
    by_cases e:c=base+x.1
    ·subst e;rw [hpp] at hq;cases hq;exact .inr ⟨x,List.mem_cons_self ..,p,hpp,rfl⟩
    ·rw [if_neg e] at hz;exact .inl ⟨c,z,q,hz,hd,hq,rfl⟩
   ·exact .inr ⟨y,List.mem_cons_of_mem _ hy,r⟩
theorem mats_lay {base:Nat} {tm vsF:Tr AV}:∀ {l:List (Nat×GIns)} {h hm:Heap},runMats base tm vsF l h=some hm->HR P keep ρ h w->l.Pairwise (fun x y=>x.1≠y.1) ->
  (∀ x∈l,∀ y,x.2.blk vsF tm=some (some y)->∃ p,ρ (base+x.1)=some p/\BR P keep ρ (base+x.1) y w/\¬Own ρ h p.blk) ->
  (∀ x∈l,∀ y∈l,x.1≠y.1->∀ p q,ρ (base+x.1)=some p->ρ (base+y.1)=some q->p.blk≠q.blk) ->
  HR P keep ρ hm w/\hm.next=h.next/\∀ k,Own ρ hm k->Own ρ h k∨∃ x∈l,∃ p,ρ (base+x.1)=some p/\x.2.blk vsF tm≠some none/\k=p.blk:=by
 intro l
 induction l with
 | nil=>intro h hm hr hh _ _ _;cases hr;exact ⟨hh,rfl,fun k hk=>.inl hk⟩
 | cons x l ih =>
  intro h hm hr hh hp hx hs
  rw [runMats_cons] at hr
  obtain ⟨b,h1,h2⟩:=ob_some.1 hr
  rw [List.pairwise_cons] at hp
  cases b with
  | none =>
   obtain ⟨g1,g2,g3⟩:=ih h2 hh hp.2 (fun y hy=>hx y (List.mem_cons_of_mem _ hy)) (fun y hy z hz=>hs y (List.mem_cons_of_mem _ hy) z (List.mem_cons_of_mem _ hz))
   exact ⟨g1,g2,fun k hk=>(g3 k hk).imp id fun ⟨y,hy,r⟩=>⟨y,List.mem_cons_of_mem _ hy,r⟩⟩
  | some b =>
   obtain ⟨p,hpp,hbr,hno⟩:=hx x (List.mem_cons_self ..) b h1
   obtain ⟨m1,m2⟩:=hh.mat hpp (hh.dom _ _ hpp) hbr hno
   obtain ⟨g1,g2,g3⟩:=ih h2 m1 hp.2 (fun y hy z hz=>by
    obtain ⟨q,a1,a2,a3⟩:=hx y (List.mem_cons_of_mem _ hy) z hz
    refine ⟨q,a1,a2,fun ho=>?_⟩
    rcases m2 _ ho with ho | ho
    ·exact a3 ho
    ·exact hs y (List.mem_cons_of_mem _ hy) x (List.mem_cons_self ..) (fun e=>hp.1 y hy e.symm) q p a1 hpp ho)
    (fun y hy z hz=>hs y (List.mem_cons_of_mem _ hy) z (List.mem_cons_of_mem _ hz))
   refine ⟨g1,g2,fun k hk=>?_⟩
   rcases g3 k hk with ho|⟨y,hy,r⟩
   ·rcases m2 k ho with ho | ho
    ·exact .inl ho
    ·exact .inr ⟨x,List.mem_cons_self ..,p,hpp,(by rw [h1];intro e;cases e),ho⟩
   ·exact .inr ⟨y,List.mem_cons_of_mem _ hy,r⟩
end
structure DC where
 P:Program
 keep:Keeps
 kp:Nat->Bool
 nt:Nat
 ops:Array Oper
 call:CallFn
 tm:Tr AV
 vsF:Tr AV
 hF:Heap
 ρ0:Pls
 h0:Heap
 w0:World
 a0:Act
namespace DC
def b (c:DC):Array Nat:=Region.before c.ops
noncomputable def gs (c:DC):List (Nat×GIns):=(List.range c.ops.size).map fun i=>(i,compD1 c.P c.kp c.nt c.ops i)
noncomputable def es (c:DC):List Nat:=(c.gs.filter fun x=>x.2.i.eff).map (·.1)
def dst (c:DC) (j:Nat):Option Nat:=(c.ops[j]?).bind (·.dst)
noncomputable def f (c:DC) (i:Nat):GIns:=compD1 c.P c.kp c.nt c.ops i
end DC
structure DI (c:DC) (S:Nat->Prop) (done:List Nat) (rest:List (Nat×GIns)) (h:Heap) (ρ : Pls) (a:Act) (w:World):Prop where
 run:Run c.gs c.b c.es c.h0.next c.tm c.vsF c.call c.hF done.length rest h
 split:c.es=done++rest.map (·.1)
 doneS:∀ e∈done,S e
 restS:∀ x∈rest,¬S x.1
 restG:∀ x∈rest,x.2=c.f x.1
 down:∀ i j,S i->bef c.b i j=true->S j
 hr:HR c.P c.keep ρ h w
 hn:c.h0.next+c.ops.size<=h.next
 le:c.ρ0.le ρ
 fr:Fr c.ρ0 c.h0 c.w0 w
 own:∀ k,k<c.w0.heap.size->Own ρ h k->Own c.ρ0 c.h0 k
 ownW:∀ k,k<c.w0.heap.size->OwnW ρ h k->OwnW c.ρ0 c.h0 k
 new:∀ b p,ρ b=some p->b<c.h0.next->c.ρ0 b=some p
 size:a.tmps.size=c.a0.tmps.size
 defers:a.defers=c.a0.defers
 tm0:∀ t,(∀ j,S j->c.dst j≠some t)->a.tmps.getD t undef=c.a0.tmps.getD t undef
 tm1:∀ j t v,S j->c.dst j=some t->(∀ j',S j'->c.dst j'=some t->j'<=j)->c.vsF.gt j=some v->VR ρ v (a.tmps.getD t undef)
 pend:∀ i y,i<c.ops.size->S i->done.length<=hiOf c.b c.es i->(c.f i).blk c.vsF c.tm=some (some y) ->
  ∃ p,ρ (c.h0.next+i)=some p/\BR c.P c.keep ρ (c.h0.next+i) y w/\c.w0.heap.size<=p.blk/\p.blk<w.heap.size/\¬Own ρ h p.blk
 sep:∀ i i' p p',i<c.ops.size->i'<c.ops.size->i≠i'->ρ (c.h0.next+i)=some p->ρ (c.h0.next+i')=some p'->p.blk≠p'.blk
 old:∀ i p,i<c.ops.size->ρ (c.h0.next+i)=some p->c.w0.heap.size<=p.blk/\p.blk<w.heap.size
 free:∀ i,i<c.ops.size->¬S i->ρ (c.h0.next+i)=none
structure DOk (c:DC):Prop where
 graph:GraphOk c.ops
 chain:chainOk c.b c.es=true
 good:∀ i,i<c.ops.size->(c.f i).i.isBad=false
 names:NamesOk c.P
 calls:CallOk c.P c.keep c.call
 still:∀ i,i<c.ops.size->(c.f i).i.eff=false->(c.f i).i.reads=false->∃ v,c.vsF.gt i=some v/\∀ h,(c.f i).quiet c.vsF c.tm (c.h0.next+i) h=some v
 tr:TR c.kp c.nt c.ρ0 c.tm c.a0.tmps
end Go.Am
namespace Go.Am
section
variable {c:DC} {S:Nat->Prop} {done:List Nat} {rest:List (Nat×GIns)} {h:Heap} {ρ : Pls} {a:Act} {w:World} {i:Nat} {o:Oper}
theorem gs_pairwise (c:DC):c.gs.Pairwise (fun x y=>x.1≠y.1):=by
 unfold DC.gs
 rw [List.pairwise_map]
 exact List.nodup_range.imp fun h=>h
theorem mem_gs {x:Nat×GIns}:x∈c.gs↔x.1<c.ops.size/\x.2=c.f x.1:=by
 unfold DC.gs DC.f
 rw [List.mem_map]
 constructor
 ·rintro ⟨i,hi,rfl⟩;exact ⟨List.mem_range.1 hi,rfl⟩
 ·rintro ⟨h1,h2⟩;exact ⟨x.1,List.mem_range.2 h1,by rw [← h2]⟩
theorem mem_es {e:Nat}:e∈c.es↔e<c.ops.size/\(c.f e).i.eff=true:=by
 unfold DC.es
 rw [List.mem_map]
 constructor
 ·rintro ⟨x,hx,rfl⟩
  rw [List.mem_filter] at hx
  obtain ⟨h1,h2⟩:=mem_gs.1 hx.1
  exact ⟨h1,by rw [← h2];exact hx.2⟩
 ·rintro ⟨h1,h2⟩
  exact ⟨(e,c.f e),List.mem_filter.2 ⟨mem_gs.2 ⟨h1,rfl⟩,h2⟩,rfl⟩
theorem dst_eq (ho:c.ops[i]?=some o):c.dst i=o.dst:=by unfold DC.dst;rw [ho];rfl
theorem dst_lt {j t:Nat} (h:c.dst j=some t):j<c.ops.size:=by
 unfold DC.dst at h
 cases hj:c.ops[j]? with
 | none=>rw [hj] at h;cases h
 | some x=>exact (Array.getElem?_eq_some_iff.1 hj).1
theorem dst_named (ho:c.ops[i]?=some o) {t:Nat} (h:c.dst i=some t):t∈namesOf c.ops o:=by
 rw [dst_eq ho] at h
 unfold namesOf
 simp [h]
theorem later_not (k:DOk c) (d:DI c S done rest h ρ a w) (hS:¬S i) (ho:c.ops[i]?=some o) {t j:Nat} (ht:t∈namesOf c.ops o) (hj:S j) (hd:c.dst j=some t):j<i:=by
 rcases Nat.lt_trichotomy j i with h1 | h1 | h1
 ·exact h1
 ·subst h1;exact absurd hj hS
 ·rcases k.graph.names i j o t ho (dst_lt hd) (by omega) hd ht with h2 | h2
  ·have:=bef_lt k.graph i j h2;omega
  ·exact absurd (d.down j i hj h2) hS
theorem env_ok (k:DOk c) (d:DI c S done rest h ρ a w) (hS:¬S i) (hready:∀ j,bef c.b i j=true->S j) (ho:c.ops[i]?=some o):EnvOk (findN c.kp c.ops o i) [] c.vsF c.tm ρ a:=by
 intro t x v hx hg
 unfold findN at hx
 split at hx
 ·rename_i hn
  have hn:t∈namesOf c.ops o:=by simpa using hn
  unfold findOpi at hx
  cases hw:writer c.ops t i with
  | some j =>
   rw [hw] at hx;cases hx
   obtain ⟨h1,h2,h3⟩:=writer_some hw
   have hj:S j:=hready j (k.graph.first i o j t ho h1 h2 hn)
   refine d.tm1 j t v hj h2 (fun j' hj' hd'=>?_) hg
   have:=later_not k d hS ho hn hj' hd'
   rcases Nat.lt_or_ge j j' with h4 | h4
   ·exact absurd hd' (h3 j' h4 this)
   ·exact h4
  | none =>
   rw [hw] at hx
   simp only at hx
   split at hx
   ·rename_i hk
    cases hx
    have e:=d.tm0 t (fun j hj hd=>writer_none hw j (later_not k d hS ho hn hj hd) hd)
    obtain ⟨cv,h1,h2⟩:=k.tr.2 t v hk hg
    rw [e,Array.getD_eq_getD_getElem?,h1]
    exact h2.mono d.le
   ·cases hx
 ·cases hx
theorem put_tmps (k:DOk c) (d:DI c S done rest h ρ a w) (hi:i<c.ops.size) (hS:¬S i) (ho:c.ops[i]?=some o) {ρ':Pls} (hl:ρ.le ρ') {v:Value} (hv:∀ u,c.vsF.gt i=some u->VR ρ' u v) :
  (∀ t,(∀ j,(S j∨j=i)->c.dst j≠some t)->(a.put o.dst v).tmps.getD t undef=c.a0.tmps.getD t undef) /\
  ∀ j t u,(S j∨j=i)->c.dst j=some t->(∀ j',(S j'∨j'=i)->c.dst j'=some t->j'<=j)->c.vsF.gt j=some u->VR ρ' u ((a.put o.dst v).tmps.getD t undef):=by
 have hok:okDst c.nt o.dst=true:=by
  obtain ⟨o',ho',h1,_⟩:=compD1_ok (k.good i hi)
  rw [ho] at ho';cases ho';exact h1
 have hother:∀ t,o.dst≠some t->(a.put o.dst v).tmps.getD t undef=a.tmps.getD t undef:=by
  intro t ht
  cases hd:o.dst with
  | none=>rfl
  | some q =>
   rw [hd] at hok ht
   have hlt:q<a.tmps.size:=by rw [d.size];exact Nat.lt_of_lt_of_le (okDst_lt hok) k.tr.1
   rw [put_getD hlt,if_neg (fun e=>ht (by rw [e]))]
 refine ⟨fun t ht=>?_,fun j t u hj hd hmax hu=>?_⟩
 ·rw [hother t (by rw [← dst_eq ho];exact ht i (.inr rfl))]
  exact d.tm0 t fun j hj=>ht j (.inl hj)
 ·by_cases e:j=i
  ·subst e
   rw [dst_eq ho] at hd
   rw [hd] at hok ⊢
   have hlt:t<a.tmps.size:=by rw [d.size];exact Nat.lt_of_lt_of_le (okDst_lt hok) k.tr.1
   rw [put_getD hlt,if_pos rfl]
   exact hv u hu
  ·have hj':S j:=hj.resolve_right e
   have hne:o.dst≠some t:=by
    intro e2
    have h1:=hmax i (.inr rfl) (by rw [dst_eq ho];exact e2)
    have h2:=later_not k d hS ho (dst_named ho (by rw [dst_eq ho];exact e2)) hj' hd
    omega
   rw [hother t hne]
   exact (d.tm1 j t u hj' hd (fun j' h1 h2=>hmax j' (.inl h1) h2) hu).mono hl
theorem lo_le (d:DI c S done rest h ρ a w) (hready:∀ j,bef c.b i j=true->S j):loOf c.b c.es i<=done.length:=by
 unfold loOf
 rw [d.split,List.filter_append]
 have:(rest.map (·.1)).filter (fun e=>bef c.b i e)=[]:=by
  rw [List.filter_eq_nil_iff]
  intro e he hb
  obtain ⟨x,hx,rfl⟩:=List.mem_map.1 he
  exact d.restS x hx (hready _ hb)
 rw [this,List.append_nil]
 exact List.length_filter_le _ _
theorem done_all (d:DI c S done rest h ρ a w) (hS:¬S i):done.filter (fun e=>!bef c.b e i)=done:=by
 rw [List.filter_eq_self]
 intro e he
 cases hb:bef c.b e i with
 | false=>rfl
 | true=>exact absurd (d.down e i (d.doneS e he) hb) hS
theorem le_hi (d:DI c S done rest h ρ a w) (hS:¬S i):done.length<=hiOf c.b c.es i:=by
 unfold hiOf
 rw [d.split,List.filter_append,done_all d hS,List.length_append]
 omega
theorem DI.quiet (k:DOk c) (d:DI c S done rest h ρ a w) (hi:i<c.ops.size) (hS:¬S i) (hready:∀ j,bef c.b i j=true->S j) (ho:c.ops[i]?=some o) (he:(c.f i).i.eff=false)
  (hb:∀ y,(c.f i).blk c.vsF c.tm≠some (some y)) {v:Value} (hv:∀ u,c.vsF.gt i=some u->VR ρ u v):DI c (fun j=>S j∨j=i) done rest h ρ (a.put o.dst v) w:=by
 obtain ⟨t0,t1⟩:=put_tmps k d hi hS ho (Pls.le_refl ρ) hv
 refine { d with doneS:=fun e h=>.inl (d.doneS e h),restS:=fun x hx hs=>?_,down:=fun i' j hs hbf=>?_,size:=(put_size _ _ _).trans d.size,defers:=(put_defers _ _ _).trans d.defers,tm0:=t0,tm1:=t1,pend:=fun i' y h1 h2 h3 h4=>?_,free:=fun i' h1 h2=>d.free i' h1 fun hs=>h2 (.inl hs) }
 ·rcases hs with hs | hs
  ·exact d.restS x hx hs
  ·have:x.1∈c.es:=by rw [d.split];exact List.mem_append_right _ (List.mem_map_of_mem hx)
   rw [hs] at this
   rw [(mem_es.1 this).2] at he;cases he
 ·rcases hs with hs | hs
  ·exact .inl (d.down i' j hs hbf)
  ·subst hs;exact .inl (hready j hbf)
 ·rcases h2 with h2 | h2
  ·exact d.pend i' y h1 h2 h3 h4
  ·subst h2;exact absurd h4 (hb y)
theorem DI.alloc (k:DOk c) (d:DI c S done rest h ρ a w) (hi:i<c.ops.size) (hS:¬S i) (hready:∀ j,bef c.b i j=true->S j) (ho:c.ops[i]?=some o) (he:(c.f i).i.eff=false)
  {y:Blk} {v:Value} {w':World} {ob':Obj} {sz:Nat} (hblk:(c.f i).blk c.vsF c.tm=some (some y)) (hos:w'.os=w.os) (hout:w'.output=w.output) (hheap:w'.heap=w.heap.push ob')
  (hbr:BR c.P c.keep (ρ.up (c.h0.next+i) ⟨w.heap.size,0,sz⟩) (c.h0.next+i) y w') (hv:∀ u,c.vsF.gt i=some u->VR (ρ.up (c.h0.next+i) ⟨w.heap.size,0,sz⟩) u v) :
  DI c (fun j=>S j∨j=i) done rest h (ρ.up (c.h0.next+i) ⟨w.heap.size,0,sz⟩) (a.put o.dst v) w':=by
 have hfree:=d.free i hi hS
 have hle:ρ.le (ρ.up (c.h0.next+i) ⟨w.heap.size,0,sz⟩):=Pls.le_up hfree
 obtain ⟨t0,t1⟩:=put_tmps k d hi hS ho hle hv
 have hlt:c.h0.next+i<h.next:=by have:=d.hn;omega
 obtain ⟨m1,m2⟩:=d.hr.more (p:=⟨w.heap.size,0,sz⟩) hfree hlt hheap
 have hsz:w'.heap.size=w.heap.size+1:=by rw [hheap];simp
 have hsame:∀ n,n<w.heap.size->w'.heap[n]?=w.heap[n]?:=fun n hn=>by rw [hheap,Array.getElem?_push,if_neg (by omega)]
 have hup:∀ j p,j<c.ops.size->(ρ.up (c.h0.next+i) ⟨w.heap.size,0,sz⟩) (c.h0.next+j)=some p->(j=i/\p=⟨w.heap.size,0,sz⟩)∨(j≠i/\ρ (c.h0.next+j)=some p):=by
  intro j p _ hp
  unfold Pls.up at hp
  by_cases e:j=i
  ·subst e;rw [if_pos rfl] at hp;cases hp;exact .inl ⟨rfl,rfl⟩
  ·rw [if_neg (by omega)] at hp;exact .inr ⟨e,hp⟩
 have hw0:c.w0.heap.size<=w.heap.size:=d.fr.size
 refine { run:=d.run,split:=d.split,doneS:=fun e h=>.inl (d.doneS e h),restS:=fun x hx hs=>?_,restG:=d.restG,down:=fun i' j hs hb=>?_,hr:=m1,hn:=d.hn,le:=Pls.le_trans d.le hle,fr:=⟨hos.trans d.fr.os,hout.trans d.fr.output,by omega,fun n hn ho=>(hsame n (by omega)).trans (d.fr.sameW n hn ho)⟩,own:=fun n hn ho=>d.own n hn (m2 n ho),ownW:=fun n hn ho=>d.ownW n hn (d.hr.more_ownW hfree n ho),new:=fun b p hp hlt=>?_,size:=(put_size _ _ _).trans d.size,defers:=(put_defers _ _ _).trans d.defers,tm0:=t0,tm1:=t1,pend:=fun i' y' h1 h2 h3 h4=>?_,sep:=fun j j' p p' hj hj' hne hp hp'=>?_,old:=fun j p hj hp=>?_,free:=fun i' h1 h2=>?_ }
 ·rcases hs with hs | hs
  ·exact d.restS x hx hs
  ·have:x.1∈c.es:=by rw [d.split];exact List.mem_append_right _ (List.mem_map_of_mem hx)
   rw [hs] at this
   rw [(mem_es.1 this).2] at he;cases he
 ·rcases hs with hs | hs
  ·exact .inl (d.down i' j hs hb)
  ·subst hs;exact .inl (hready j hb)
 ·unfold Pls.up at hp
  rw [if_neg (by omega)] at hp
  exact d.new b p hp hlt
 ·by_cases e:i'=i
  ·subst e
   rw [hblk] at h4;cases h4
   refine ⟨_,Pls.up_same _ _ _,hbr,hw0,by rw [hsz];exact Nat.lt_succ_self _,fun ho=>?_⟩
   obtain ⟨b,z,q,hz,hd,hq,e⟩:=m2 _ ho
   obtain ⟨q',hq',hlt'⟩:=(d.hr.blk b z hz).place hd
   rw [hq] at hq';cases hq'
   simp only at e;omega
  ·obtain ⟨p,g1,g2,g3,g4,g5⟩:=d.pend i' y' h1 (h2.resolve_right e) h3 h4
   refine ⟨p,hle _ _ g1,(g2.frame fun q _ hq=>?_).mono hle,g3,by omega,fun ho=>g5 (m2 _ ho)⟩
   rw [g1] at hq;cases hq
   exact hsame _ g4
 ·rcases hup j p hj hp with ⟨e1,e2⟩|⟨e1,e2⟩ <;> rcases hup j' p' hj' hp' with ⟨e3,e4⟩|⟨e3,e4⟩
  ·omega
  ·have:=(d.old j' p' hj' e4).2;subst e2;simp only;omega
  ·have:=(d.old j p hj e2).2;subst e4;simp only;omega
  ·exact d.sep j j' p p' hj hj' hne e2 e4
 ·rcases hup j p hj hp with ⟨e1,e2⟩|⟨e1,e2⟩
  ·subst e2;simp only;omega
  ·have:=d.old j p hj e2;omega
 ·unfold Pls.up
  have hne:i'≠i:=fun e=>h2 (.inr e)
  rw [if_neg (by omega)]
  exact d.free i' h1 fun hs=>h2 (.inl hs)
end
end Go.Am
namespace Go.Am
section
variable {c:DC} {S:Nat->Prop} {done:List Nat} {rest:List (Nat×GIns)} {h:Heap} {ρ : Pls} {a:Act} {w:World} {i:Nat} {o:Oper}
theorem DI.lay (d:DI c S done rest h ρ a w) {hm:Heap} (hst:StOk c.gs c.b c.es c.h0.next c.tm c.vsF done.length h hm) (hall:∀ j,j<c.ops.size->hiOf c.b c.es j=done.length->S j) :
  HR c.P c.keep ρ hm w/\hm.next=h.next/\∀ k,Own ρ hm k->Own ρ h k∨∃ j p,j<c.ops.size/\S j/\hiOf c.b c.es j=done.length/\ρ (c.h0.next+j)=some p/\k=p.blk:=by
 have hm':∀ {x},x∈(c.gs.filter fun x=>x.2.i.allocs&&decide (hiOf c.b c.es x.1=done.length))->x.1<c.ops.size/\x.2=c.f x.1/\hiOf c.b c.es x.1=done.length:=by
  intro x hx
  simp only [List.mem_filter,Bool.and_eq_true,decide_eq_true_eq] at hx
  obtain ⟨h1,h2⟩:=mem_gs.1 hx.1
  exact ⟨h1,h2,hx.2.2⟩
 obtain ⟨g1,g2,g3⟩:=mats_lay hst.2 d.hr ((gs_pairwise c).filter _) (fun x hx y hy=>by
   obtain ⟨h1,h2,h3⟩:=hm' hx
   rw [h2] at hy
   obtain ⟨p,q1,q2,_,_,q3⟩:=d.pend x.1 y h1 (hall _ h1 h3) (by omega) hy
   exact ⟨p,q1,q2,q3⟩)
  (fun x hx y hy hne p q hp hq=>d.sep x.1 y.1 p q (hm' hx).1 (hm' hy).1 hne hp hq)
 refine ⟨g1,g2,fun k hk=>(g3 k hk).imp id fun ⟨x,hx,p,hp,_,e⟩=>?_⟩
 obtain ⟨h1,h2,h3⟩:=hm' hx
 exact ⟨x.1,p,h1,hall _ h1 h3,h3,hp,e⟩
theorem DI.layW (d:DI c S done rest h ρ a w) {hm:Heap} (hst:StOk c.gs c.b c.es c.h0.next c.tm c.vsF done.length h hm) (hall:∀ j,j<c.ops.size->hiOf c.b c.es j=done.length->S j) :
  ∀ k,OwnW ρ hm k->OwnW ρ h k∨∃ j p,j<c.ops.size/\ρ (c.h0.next+j)=some p/\k=p.blk:=by
 have hm':∀ {x},x∈(c.gs.filter fun x=>x.2.i.allocs&&decide (hiOf c.b c.es x.1=done.length))->x.1<c.ops.size/\x.2=c.f x.1/\hiOf c.b c.es x.1=done.length:=by
  intro x hx
  simp only [List.mem_filter,Bool.and_eq_true,decide_eq_true_eq] at hx
  obtain ⟨h1,h2⟩:=mem_gs.1 hx.1
  exact ⟨h1,h2,hx.2.2⟩
 have g3:=mats_ownW (ρ:=ρ) hst.2 (fun x hx y hy=>by
   obtain ⟨h1,h2,h3⟩:=hm' hx
   rw [h2] at hy
   obtain ⟨p,q1,_⟩:=d.pend x.1 y h1 (hall _ h1 h3) (by omega) hy
   exact ⟨p,q1⟩)
 exact fun k hk=>(g3 k hk).imp id fun ⟨x,hx,p,hp,e⟩=>⟨x.1,p,(hm' hx).1,hp,e⟩
theorem chain_mid:∀ {l:List Nat} {x:Nat} {r:List Nat} {b:Array Nat},chainOk b (l++x::r)=true->∀ y∈r,bef b y x=true
 | [],x,r,b,h,y,hy=>by
  simp only [List.nil_append,chainOk,Bool.and_eq_true,List.all_eq_true] at h
  exact h.1 y hy
 | z::l,x,r,b,h,y,hy=>by
  simp only [List.cons_append,chainOk,Bool.and_eq_true] at h
  exact chain_mid h.2 y hy
theorem DI.head (k:DOk c) (d:DI c S done rest h ρ a w) (hi:i<c.ops.size) (hS:¬S i) (hready:∀ j,bef c.b i j=true->S j) (he:(c.f i).i.eff=true):∃ xs,rest=(i,c.f i)::xs:=by
 have hm:i∈c.es:=mem_es.2 ⟨hi,he⟩
 rw [d.split] at hm
 rcases List.mem_append.1 hm with hm | hm
 ·exact absurd (d.doneS i hm) hS
 ·cases rest with
  | nil=>cases hm
  | cons x xs =>
   rw [List.map_cons] at hm
   rcases List.mem_cons.1 hm with e | hm
   ·exact ⟨xs,by rw [show x=(i,c.f i) from Prod.ext e.symm (by rw [d.restG x (List.mem_cons_self ..),← e])]⟩
   ·have:=chain_mid (l:=done) (x:=x.1) (r:=xs.map (·.1)) (by rw [← List.map_cons (f:=fun x:Nat×GIns=>x.1),← d.split];exact k.chain) i hm
    exact absurd (hready _ this) (d.restS x (List.mem_cons_self ..))
theorem DI.due (d:DI c S done ((i,c.f i)::rest) h ρ a w) (hready:∀ j,bef c.b i j=true->S j):∀ j,j<c.ops.size->hiOf c.b c.es j=done.length->S j:=by
 intro j _ hj
 by_cases hS:S j
 ·exact hS
 ·have hd:=done_all d hS
  unfold hiOf at hj
  rw [d.split,List.filter_append,hd,List.length_append] at hj
  have hnil:(((i,c.f i)::rest).map (·.1)).filter (fun e=>!bef c.b e j)=[]:=List.length_eq_zero_iff.1 (by omega)
  rw [List.map_cons,List.filter_eq_nil_iff] at hnil
  have:=hnil i (List.mem_cons_self ..)
  simp only [Bool.not_eq_true',Bool.not_eq_false] at this
  exact hready j this
theorem DI.act (k:DOk c) (d:DI c S done ((i,c.f i)::rest) h ρ a w) (hi:i<c.ops.size) (hS:¬S i) (hready:∀ j,bef c.b i j=true->S j) (ho:c.ops[i]?=some o) (he:(c.f i).i.eff=true)
  {hm h':Heap} {u:AV} (hnx:hm.next=h.next) (hown:∀ k,Own ρ hm k->Own ρ h k∨∃ j p,j<c.ops.size/\S j/\hiOf c.b c.es j=done.length/\ρ (c.h0.next+j)=some p/\k=p.blk)
  (hownW:∀ k,OwnW ρ hm k->OwnW ρ h k∨∃ j p,j<c.ops.size/\ρ (c.h0.next+j)=some p/\k=p.blk)
  (hu:c.vsF.gt i=some u) (hrun:Run c.gs c.b c.es c.h0.next c.tm c.vsF c.call c.hF (done.length+1) rest h') {ρ':Pls} {v:Value} {w':World} (hv:VR ρ' u v) (hp:Post c.P c.keep ρ hm w ρ' h' w') :
  DI c (fun j=>S j∨j=i) (done++[i]) rest h' ρ' (a.put o.dst v) w':=by
 obtain ⟨t0,t1⟩:=put_tmps k d hi hS ho hp.le (v:=v) (fun u' hu'=>by rw [hu] at hu';cases hu';exact hv)
 have hw0:c.w0.heap.size<=w.heap.size:=d.fr.size
 have hnew:∀ j p,j<c.ops.size->ρ' (c.h0.next+j)=some p->ρ (c.h0.next+j)=some p:=fun j p hj h1=>hp.new _ p h1 (by rw [hnx];have:=d.hn;omega)
 have hsame:∀ n,n<c.w0.heap.size->Own ρ hm n->Own c.ρ0 c.h0 n:=by
  intro n hn h1
  rcases hown n h1 with h1|⟨j,p,hj,_,_,hpp,e⟩
  ·exact d.own n hn h1
  ·have:=d.old j p hj hpp;omega
 have hsameW:∀ n,n<c.w0.heap.size->OwnW ρ hm n->OwnW c.ρ0 c.h0 n:=by
  intro n hn h1
  rcases hownW n h1 with h1|⟨j,p,hj,hpp,e⟩
  ·exact d.ownW n hn h1
  ·have:=d.old j p hj hpp;omega
 have hnodup:(done++i::rest.map (·.1)).Nodup:=by
  have:=d.split
  rw [List.map_cons] at this
  rw [← this]
  unfold DC.es
  rw [List.Nodup,List.pairwise_map]
  exact ((gs_pairwise c).filter _).imp fun h=>h
 refine { run:=(by rw [List.length_append];exact hrun),split:=(by rw [d.split];simp),doneS:=fun e hm=>?_,restS:=fun x hx hs=>?_,restG:=fun x hx=>d.restG x (List.mem_cons_of_mem _ hx),down:=fun i' j hs hb=>?_,hr:=hp.hr,hn:=Nat.le_trans d.hn (by rw [← hnx];exact hp.next),le:=Pls.le_trans d.le hp.le,fr:=⟨hp.fr.os.trans d.fr.os,hp.fr.output.trans d.fr.output,Nat.le_trans d.fr.size hp.fr.size,fun n hn ho=>(hp.fr.sameW n (by omega) fun h1=>ho (hsameW n hn h1)).trans (d.fr.sameW n hn ho)⟩,own:=fun n hn h1=>hsame n hn (hp.own n (by omega) h1),ownW:=fun n hn h1=>hsameW n hn (hp.ownW n (by omega) h1),new:=fun b p h1 h2=>d.new b p (hp.new b p h1 (by rw [hnx];have:=d.hn;omega)) h2,size:=(put_size _ _ _).trans d.size,defers:=(put_defers _ _ _).trans d.defers,tm0:=t0,tm1:=t1,pend:=fun i' y' h1 h2 h3 h4=>?_,sep:=fun j j' p p' hj hj' hne h1 h2=>d.sep j j' p p' hj hj' hne (hnew j p hj h1) (hnew j' p' hj' h2),old:=fun j p hj h1=>?_,free:=fun i' h1 h2=>?_ }
 ·rcases List.mem_append.1 hm with hm | hm
  ·exact .inl (d.doneS e hm)
  ·exact .inr (List.mem_singleton.1 hm)
 ·rcases hs with hs | hs
  ·exact d.restS x (List.mem_cons_of_mem _ hx) hs
  ·have h1:=(List.nodup_append.1 hnodup).2.1
   rw [List.nodup_cons] at h1
   exact h1.1 (by rw [← hs];exact List.mem_map_of_mem hx)
 ·rcases hs with hs | hs
  ·exact .inl (d.down i' j hs hb)
  ·subst hs;exact .inl (hready j hb)
 ·rw [List.length_append,List.length_singleton] at h3
  have hne:i'≠i:=by
   intro e
   subst e
   cases hx:(c.f i').i with
   | al f xs=>rw [hx] at he;cases he
   | _=>unfold GIns.blk at h4;rw [hx] at h4;cases h4
  obtain ⟨p,g1,g2,g3,g4,g5⟩:=d.pend i' y' h1 (h2.resolve_right hne) (by omega) h4
  have hno:¬Own ρ hm p.blk:=by
   intro h5
   rcases hown _ h5 with h5|⟨j,q,hj,_,hh,hq,e⟩
   ·exact g5 h5
   ·by_cases e2:i'=j
    ·subst e2;omega
    ·exact d.sep i' j p q h1 hj e2 g1 hq e
  refine ⟨p,hp.le _ _ g1,(g2.frame fun q _ hq=>?_).mono hp.le,g3,Nat.lt_of_lt_of_le g4 hp.fr.size,fun h5=>hno (hp.own _ g4 h5)⟩
  rw [g1] at hq;cases hq
  exact hp.fr.same _ g4 hno
 ·have:=d.old j p hj (hnew j p hj h1)
  have:=hp.fr.size
  omega
 ·cases hc:ρ' (c.h0.next+i') with
  | none=>rfl
  | some p =>
   have:=hnew i' p h1 hc
   rw [d.free i' h1 fun hs=>h2 (.inl hs)] at this;cases this
theorem DI.finish (d:DI c S done rest h ρ a w) (hall:∀ j,j<c.ops.size->S j):Post c.P c.keep c.ρ0 c.h0 c.w0 ρ c.hF w:=by
 have hnil:rest=[]:=by
  cases rest with
  | nil=>rfl
  | cons x xs =>
   have hx:x.1∈c.es:=by rw [d.split];exact List.mem_append_right _ (by simp)
   exact absurd (hall _ (mem_es.1 hx).1) (d.restS x (List.mem_cons_self ..))
 subst hnil
 obtain ⟨h1,h2,h3⟩:=d.lay (hm:=c.hF) d.run (fun j hj _=>hall j hj)
 have h4:=d.layW (hm:=c.hF) d.run (fun j hj _=>hall j hj)
 refine ⟨d.le,h1,d.fr,fun n hn ho=>?_,by rw [h2];have:=d.hn;omega,d.new,fun n hn ho=>?_⟩
 ·rcases h3 n ho with ho|⟨j,p,hj,_,_,hp,e⟩
  ·exact d.own n hn ho
  ·have:=d.old j p hj hp;omega
 ·rcases h4 n ho with ho|⟨j,p,hj,hp,e⟩
  ·exact d.ownW n hn ho
  ·have:=d.old j p hj hp;omega
end
end Go.Am
