/- A part of the proof of the law PoolShares. -/
import Derived.Test.YtboobbebilegnaaGreatSrAmA
import Derived.Lib.OthersKept
import Derived.Laws.Append
import Derived.Lib.UnsafeStr
import Derived.Lib.Builder
import Derived.Lib.Bytealg
import Derived.KernelRfl
open Nat (reduceEqDiff reduceAdd reduceMul)
set_option linter.unusedVariables false
set_option linter.unusedSimpArgs false
set_option linter.constructorNameAsVariable false
set_option linter.defProp false
set_option maxRecDepth 20000

namespace Go.Am
section
variable {P:Program} {keep:aK} {w:World} {ρ : aL} {h:ac}
def OR (ρ : aL):Option AV->Option Value->Prop
 | none,v=>v=none
 | some x,v=>∃ u,v=some u/\VR ρ x u
theorem cG {d y:Nat} {x:Option AV} {x':Option Value} {f:Nat->Option AV} {r:AV} (h:bF d y x f=some r) (hx:OR ρ x x') :
  ∃ n,f n=some r/\((x'=none/\x=none/\n=d)∨∃ k,x'=some (.int k n)/\n<=y):=by
 cases x with
 | none=>exact ⟨d,h,.inl ⟨hx,rfl,rfl⟩⟩
 | some v =>
  obtain ⟨u,rfl,hu⟩:=hx
  obtain ⟨k,i,rfl,g⟩:=aP h
  cases i with
  | negSucc i=>cases g
  | ofNat n =>
   obtain ⟨g1,g2⟩:=bJ.1 g
   cases hu
   exact ⟨n,g2,.inr ⟨k,rfl,Nat.le_of_ble_eq_true g1⟩⟩
theorem eP {k:IntKind} {n y:Nat} {c:BoundsCode} (hn:n<=y):(Instr.sliceBound (.int k n) y c).run P w=.ok n w:=by
 have:(0:Int)<=n/\(n:Int)<=y:=by omega
 simp [Instr.sliceBound,asIntOf,hn]
theorem lz {isSlice:Bool} {len cap l hh:Nat} {lo hi:Option Value} (hhi:(hi=none/\hh=len)∨∃ k,hi=some (.int k hh)/\hh<=cap)
  (hlo:(lo=none/\l=0)∨∃ k,lo=some (.int k l)/\l<=hh):(Instr.sliceBounds isSlice len cap lo hi none).run P w=.ok (l,hh,cap) w:=by
 rcases hhi with ⟨rfl,rfl⟩|⟨k,rfl,h1⟩ <;> rcases hlo with ⟨rfl,rfl⟩|⟨k',rfl,h2⟩
 ·simp [Instr.sliceBounds]
 ·simp [Instr.sliceBounds,eP h2]
 ·simp [Instr.sliceBounds,eP h1]
 ·simp [Instr.sliceBounds,eP h1,eP h2]
theorem zP {len cap l hh m:Nat} {k k1:IntKind} {lo:Option Value} (hm:m<=cap) (hhi:hh<=m)
  (hlo:(lo=none/\l=0)∨∃ k,lo=some (.int k l)/\l<=hh):(Instr.sliceBounds true len cap lo (some (.int k hh)) (some (.int k1 m))).run P w=.ok (l,hh,m) w:=by
 rcases hlo with ⟨rfl,rfl⟩|⟨k',rfl,h2⟩
 ·simp [Instr.sliceBounds,eP hm,eP hhi]
 ·simp [Instr.sliceBounds,eP hm,eP hhi,eP h2]
theorem ue {t:TypeId} {s:ByteArray} {lo hi:Option Value} {l hh m:Nat} (hu:P.underlying t=some .string) (hb:(Instr.sliceBounds false s.size s.size lo hi none).run P w=.ok (l,hh,m) w) :
  (Instr.sliceAt t (.string s) lo hi none).run P w=.ok (.string (s.extract l hh)) w:=by
 simp [Instr.sliceAt,Instr.slice,run_underlying hu,hb]
theorem gT {t e:TypeId} {size n c' l hh m:Nat} {a:Option Addr} {lo hi mx:Option Value} (hu:P.underlying t=some (.slice e)) (hs:aC P e=some size)
  (hb:(Instr.sliceBounds true n c' lo hi mx).run P w=.ok (l,hh,m) w):(Instr.sliceAt t (.slice a n c') lo hi mx).run P w=.ok (.slice (if m=l then a else a.map (·.add (l*size))) (hh - l) (m - l)) w:=by
 simp [Instr.sliceAt,Instr.slice,run_underlying hu,hb,bz hs]
theorem uc {t e:TypeId} {size n l hh m:Nat} {a:Addr} {lo hi mx:Option Value} (hu:P.underlying t=some (.array n e)) (hs:aC P e=some size)
  (hb:(Instr.sliceBounds false n n lo hi mx).run P w=.ok (l,hh,m) w):(Instr.sliceAt t (.pointer (some a)) lo hi mx).run P w=.ok (.slice (some (if m=l then a else a.add (l*size))) (hh - l) (m - l)) w:=by
 simp [Instr.sliceAt,Instr.sureAddr,run_underlying hu,hb,bz hs]
theorem ud {t arr e:TypeId} {size n l hh m:Nat} {a:Addr} {lo hi mx:Option Value} (hu:P.underlying t=some (.pointer arr)) (hv:P.underlying arr=some (.array n e)) (hs:aC P e=some size)
  (hb:(Instr.sliceBounds false n n lo hi mx).run P w=.ok (l,hh,m) w):(Instr.sliceAt t (.pointer (some a)) lo hi mx).run P w=.ok (.slice (some (if m=l then a else a.add (l*size))) (hh - l) (m - l)) w:=by
 simp [Instr.sliceAt,Instr.slice,asAddr,run_underlying hu,run_underlying hv,hb,bz hs]
theorem ki (s:ByteArray) (l hh:Nat):((s.extract l hh).data.toList.map (·.toNat))=((s.data.toList.map (·.toNat)).drop l).take (hh - l):=by
 rw [show (s.extract l hh).data=s.data.extract l hh from ByteArray.data_extract,Array.toList_extract,List.extract_eq_take_drop,List.map_take,List.map_drop]
theorem KK {t:TypeId} {x r:AV} {a:Value} {lo hi:Option AV} {lo' hi':Option Value} (hu:P.underlying t=some .string)
  (h:oD (fun s=>bF (bp s) (bp s) hi fun h=>bF 0 h lo fun l=>some (.str (gC (Nat.sub h l) (iI l s)))) x=some r) (hx:VR ρ x a) (hlo:OR ρ lo lo') (hhi:OR ρ hi hi'):bU P w ρ (Instr.sliceAt t a lo' hi' none) r:=by
 obtain ⟨s,rfl,g1⟩:=cL h
 obtain ⟨s',rfl,rfl⟩:=hx
 obtain ⟨hh,g2,q1⟩:=cG g1 hhi
 obtain ⟨l,g3,q2⟩:=cG g2 hlo
 cases g3
 rw [aO,← iB] at q1
 refine ⟨.string (s'.extract l hh),ue hu (lz (q1.imp (fun q=>⟨q.1,q.2.2⟩) id) (q2.imp (fun q=>⟨q.1,q.2.2⟩) id)),_,rfl,?_⟩
 rw [eG,fJ,ki];rfl
theorem KH {t e:TypeId} {size:Nat} {q:Option (Nat×Nat)} {n c:Nat} {g:Option Nat} {r:AV} {a:Value} {lo hi:Option AV} {lo' hi':Option Value} (hu:P.underlying t=some (.slice e)) (hs:aC P e=some size)
  (h:aV (Aq g size) (bF n c hi fun h=>bF 0 h lo fun l=>some (.slice (q.map fun p=>(p.1,p.2+l*size)) (h - l) (c - l) g))=some r)
  (hx:VR ρ (.slice q n c g) a) (hlo:OR ρ lo lo') (hhi:OR ρ hi hi'):bU P w ρ (Instr.sliceAt t a lo' hi' none) r:=by
 obtain ⟨gg,g1⟩:=aE.1 h
 obtain ⟨hh,g2,q1⟩:=cG g1 hhi
 obtain ⟨l,g3,q2⟩:=cG g2 hlo
 have r1:∀ {c':Nat},n<=c'->c<=c'->(Instr.sliceBounds true n c' lo' hi' none).run P w=.ok (l,hh,c') w/\l<=hh/\hh<=c':=by
  intro c' h1 h2
  have hhc:hh<=c':=by rcases q1 with ⟨_,_,rfl⟩|⟨k,_,h⟩ <;> omega
  have hl:l<=hh:=by rcases q2 with ⟨_,_,rfl⟩|⟨k,_,h⟩ <;> omega
  exact ⟨lz (q1.imp (fun q=>⟨q.1,q.2.2⟩) fun ⟨k,e,h⟩=>⟨k,e,by omega⟩) (q2.imp (fun q=>⟨q.1,q.2.2⟩) id),hl,hhc⟩
 cases q with
 | none =>
  obtain ⟨rfl,rfl,rfl,rfl⟩:=hx
  obtain ⟨r1,h1,h2⟩:=r1 (Nat.le_refl 0) (Nat.le_refl 0)
  obtain rfl:hh=0:=by omega
  obtain rfl:l=0:=by omega
  cases g3
  exact ⟨.slice none 0 0,gT hu hs r1,rfl,rfl,rfl,rfl⟩
 | some q =>
  obtain ⟨b,o⟩:=q
  obtain ⟨p,a',c',hp,rfl,hn,hc,he,hes,ha⟩:=hx
  obtain ⟨r1,h1,h2⟩:=r1 hn hc
  cases g3
  refine ⟨.slice (some (if c'=l then a' else a'.add (l*size))) (hh - l) (c' - l),?_,p,_,_,hp,rfl,by omega,by omega,fun e=>by rw [he e],fun es e=>?_,fun hne=>?_⟩
  ·rw [gT hu hs r1]
   split <;> rfl
  ·subst e
   have:es=size:=by simpa [Aq] using gg
   subst this
   have:=hes es rfl
   have hm:l*es+(c' - l)*es=c'*es:=by rw [← Nat.add_mul];congr 1;omega
   omega
  ·rw [if_neg (by omega),ha (by omega),cY,Nat.add_assoc]
theorem KJ {t e:TypeId} {size:Nat} {q:Option (Nat×Nat)} {n c:Nat} {g:Option Nat} {r m hv:AV} {a m' hv':Value} {lo:Option AV} {lo':Option Value} (hu:P.underlying t=some (.slice e)) (hs:aC P e=some size)
  (h:(bF 0 c (some m) fun m=>bF 0 m (some hv) fun h=>bF 0 h lo fun l=>some (.slice (q.map fun p=>(p.1,p.2+l*size)) (h - l) (m - l) none))=some r)
  (hx:VR ρ (.slice q n c g) a) (hlo:OR ρ lo lo') (hhi:VR ρ hv hv') (hm:VR ρ m m'):bU P w ρ (Instr.sliceAt t a lo' (some hv') (some m')) r:=by
 obtain ⟨mm,g2,q0⟩:=cG (x':=some m') h ⟨m',rfl,hm⟩
 obtain ⟨hh,g3,q1⟩:=cG (x':=some hv') g2 ⟨hv',rfl,hhi⟩
 obtain ⟨l,g4,q2⟩:=cG g3 hlo
 rcases q0 with ⟨q0,_⟩|⟨k1,q0,hmc⟩
 ·cases q0
 ·rcases q1 with ⟨q1,_⟩|⟨k2,q1,hhm⟩
  ·cases q1
  ·cases q0;cases q1
   have hl:l<=hh:=by rcases q2 with ⟨_,_,rfl⟩|⟨k,_,h⟩ <;> omega
   have r3:∀ {c':Nat},c<=c'->(Instr.sliceBounds true n c' lo' (some (.int k2 hh)) (some (.int k1 mm))).run P w=.ok (l,hh,mm) w :=
    fun h=>zP (by omega) hhm (q2.imp (fun q=>⟨q.1,q.2.2⟩) id)
   cases q with
   | none =>
    obtain ⟨rfl,rfl,rfl,rfl⟩:=hx
    have r3:=r3 (Nat.le_refl 0)
    cases g4
    refine ⟨_,gT hu hs r3,?_⟩
    obtain rfl:mm=0:=by omega
    obtain rfl:hh=0:=by omega
    obtain rfl:l=0:=by omega
    exact ⟨rfl,rfl,rfl,rfl⟩
   | some q =>
    obtain ⟨b,o⟩:=q
    obtain ⟨p,a',c',hp,rfl,hn,hc,he,hes,ha⟩:=hx
    cases g4
    refine ⟨.slice (some (if mm=l then a' else a'.add (l*size))) (hh - l) (mm - l),?_,p,_,_,hp,rfl,by omega,Nat.le_refl _,fun _=>rfl,(fun es e=>by cases e),fun hne=>?_⟩
    ·rw [gT hu hs (r3 hc)]
     split <;> rfl
    ·rw [if_neg (by omega),ha (by omega),cY,Nat.add_assoc]
theorem zT {size n:Nat} {r x:AV} {a:Value} {lo hi:Option AV} {lo' hi':Option Value} {t:TypeId}
  (run:∀ (ad:Addr) (l hh m:Nat),(Instr.sliceBounds false n n lo' hi' none).run P w=.ok (l,hh,m) w->(Instr.sliceAt t (.pointer (some ad)) lo' hi' none).run P w=.ok (.slice (some (if m=l then ad else ad.add (l*size))) (hh - l) (m - l)) w)
  (h:rA (fun b o=>bF n n hi fun h=>bF 0 h lo fun l=>some (.slice (some (b,o+l*size)) (h - l) (n - l) none)) x=some r)
  (hx:VR ρ x a) (hlo:OR ρ lo lo') (hhi:OR ρ hi hi'):bU P w ρ (Instr.sliceAt t a lo' hi' none) r:=by
 obtain ⟨b,o,rfl,g1⟩:=dO h
 obtain ⟨p,hp,rfl⟩:=hx
 obtain ⟨hh,g2,q1⟩:=cG g1 hhi
 obtain ⟨l,g3,q2⟩:=cG g2 hlo
 cases g3
 have hhc:hh<=n:=by rcases q1 with ⟨_,_,rfl⟩|⟨k,_,h⟩ <;> omega
 have hl:l<=hh:=by rcases q2 with ⟨_,_,rfl⟩|⟨k,_,h⟩ <;> omega
 have r1:=lz (P:=P) (w:=w) (isSlice:=false) (len:=n) (cap:=n) (l:=l) (hh:=hh) (lo:=lo') (hi:=hi') (q1.imp (fun q=>⟨q.1,q.2.2⟩) id) (q2.imp (fun q=>⟨q.1,q.2.2⟩) id)
 exact ⟨_,run _ _ _ _ r1,p,_,_,hp,rfl,by omega,Nat.le_refl _,fun _=>rfl,(fun es e=>by cases e),fun hne=>by rw [if_neg (by omega),cY,Nat.add_assoc]⟩
theorem eR {t:TypeId} {x r:AV} {a:Value} {lo hi mx:Option AV} {lo' hi' mx':Option Value} (h:bZ P t x lo hi mx=some r) (hx:VR ρ x a) (hlo:OR ρ lo lo') (hhi:OR ρ hi hi') (hmx:OR ρ mx mx') :
  bU P w ρ (Instr.sliceAt t a lo' hi' mx') r:=by
 unfold bZ at h
 cases hu:P.underlying t with
 | none=>rw [hu] at h;cases h
 | some d =>
  rw [hu] at h
  cases d with
  | string =>
   cases mx with
   | some m=>cases h
   | none=>cases hmx;exact KK hu h hx hlo hhi
  | slice e =>
   simp only at h
   cases hs:aC P e with
   | none=>rw [hs] at h;cases h
   | some size =>
    rw [hs] at h
    obtain ⟨q,n,c,g,rfl,g1⟩:=et h
    cases mx with
    | none=>cases hmx;exact KH hu hs g1 hx hlo hhi
    | some m =>
     obtain ⟨m',rfl,hm'⟩:=hmx
     cases hi with
     | none =>
      obtain ⟨mm,g2,_⟩:=cG (x':=some m') g1 ⟨m',rfl,hm'⟩
      cases g2
     | some hv =>
      obtain ⟨hv',rfl,hhv⟩:=hhi
      exact KJ hu hs g1 hx hlo hhv hm'
  | array n e =>
   cases hs:aC P e with
   | none=>simp only [hs] at h;cases h
   | some size =>
    cases mx with
    | some m=>simp only [hs] at h;cases h
    | none =>
     cases hmx
     simp only [hs] at h
     exact zT (fun ad l hh m hb=>uc hu hs hb) h hx hlo hhi
  | pointer arr =>
   simp only at h
   cases hv:P.underlying arr with
   | none=>rw [hv] at h;cases h
   | some d' =>
    cases d' with
    | array n e =>
     cases mx with
     | some m=>simp only [hv] at h;cases h
     | none =>
      cases hmx
      cases hs:aC P e with
      | none=>simp only [hv,hs] at h;cases h
      | some size =>
       simp only [hv,hs] at h
       exact zT (fun ad l hh m hb=>ud hu hv hs hb) h hx hlo hhi
    | _=>cases mx <;> (simp only [hv] at h;cases h)
  | _=>cases h
theorem zb4 {t:TypeId} (hg:gB P t=some false) {b off:Nat} {v:AV} (hr:HR P keep ρ h w) (hl:am h (.ptr (some (b,off)))=some v) {a:Value} (ha:VR ρ (.ptr (some (b,off))) a) :
  bU P w ρ (Instr.loadAt t a) v:=by
 obtain ⟨p,cv,hp,hc,hv⟩:=hr.ld1 hl
 obtain ⟨p',hp',rfl⟩:=ha
 rw [hp] at hp';cases hp'
 exact ⟨cv,by simp [Instr.loadAt,Instr.sureAddr,loadVar,iu hg,hc],hv⟩
theorem pN {t:TypeId} (hg:gB P t=some false) {x v:AV} (hr:HR P keep ρ h w) (hl:am h x=some v) {a:Value} (ha:VR ρ x a):bU P w ρ (Instr.loadAt t a) v:=by
 obtain ⟨b,off,rfl,_⟩:=dO hl
 exact zb4 hg hr hl ha
theorem zi {t:TypeId} {s:Nat} (hs:aC P t=some s) (hg:gB P t=some true) {x v:AV} (hr:HR P keep ρ h w) (hl:di s h x=some v) {a:Value} (ha:VR ρ x a):bU P w ρ (Instr.loadAt t a) v:=by
 obtain ⟨b,off,rfl,g⟩:=dO hl
 cases hv:h.ld b off s with
 | none=>rw [hv] at g;cases g
 | some vs =>
  rw [hv] at g;cases g
  obtain ⟨p,cs,hp,hvs,hn,_,hc⟩:=hr.ld hv
  obtain ⟨p',hp',rfl⟩:=ha
  rw [hp] at hp';cases hp'
  have:=gz (P:=P) (w:=w) (a:=⟨p.blk,p.off+off,none⟩) hn (fun j u hj=>by rw [cY];exact hc j u hj)
  exact ⟨.agg cs.toArray,by simp [Instr.loadAt,Instr.sureAddr,loadVar,iu hg,bz hs,this],_,rfl,by simpa using hvs⟩
theorem J5 {t:TypeId} (hg:gB P t=some false) {x v:AV} (hr:HR P keep ρ h w) (hl:am h x=some v) {a:Value} (ha:VR ρ x a):∃ ad cv,a=.pointer (some ad)/\(loadVar t ad).run P w=.ok cv w/\VR ρ v cv:=by
 obtain ⟨b,off,rfl,_⟩:=dO hl
 obtain ⟨p,cv,hp,hc,hv⟩:=hr.ld1 hl
 obtain ⟨p',hp',rfl⟩:=ha
 rw [hp] at hp';cases hp'
 exact ⟨_,cv,rfl,by simp [loadVar,iu hg,hc],hv⟩
theorem J6 {t:TypeId} {s:Nat} (hs:aC P t=some s) (hg:gB P t=some true) {x v:AV} (hr:HR P keep ρ h w) (hl:di s h x=some v) {a:Value} (ha:VR ρ x a):∃ ad cv,a=.pointer (some ad)/\(loadVar t ad).run P w=.ok cv w/\VR ρ v cv:=by
 obtain ⟨b,off,rfl,g⟩:=dO hl
 cases hv:h.ld b off s with
 | none=>rw [hv] at g;cases g
 | some vs =>
  rw [hv] at g;cases g
  obtain ⟨p,cs,hp,hvs,hn,_,hc⟩:=hr.ld hv
  obtain ⟨p',hp',rfl⟩:=ha
  rw [hp] at hp';cases hp'
  have:=gz (P:=P) (w:=w) (a:=⟨p.blk,p.off+off,none⟩) hn (fun j u hj=>by rw [cY];exact hc j u hj)
  exact ⟨_,.agg cs.toArray,rfl,by simp [loadVar,iu hg,bz hs,this],_,rfl,by simpa using hvs⟩
theorem wM {t k e ty:TypeId} {ts:Array TypeId} {x r:AV} {a:Value} (hu:P.underlying t=some (.map k e)) (ht:ts[0]?=some t) (hr:HR P keep ρ h w) (hl:Bz h x=some r) (hx:VR ρ x a):bU P w ρ (Builtin.len_ ts ty #[a]) r:=by
 unfold Bz at hl
 split at hl
 ·cases hl;cases hx
  exact ⟨.int .i64 0,by simp [Builtin.len_,ht,run_underlying hu,goInt],rfl⟩
 ·rename_i b
  obtain ⟨es,c,hb,g⟩:=fy hl
  cases g
  obtain ⟨p,es',hp,h0,hh,he⟩:=hr.blk _ _ hb
  obtain ⟨p',hp',_,rfl⟩:=hx
  rw [hp] at hp';cases hp'
  have hlen:=he.length
  refine ⟨.int .i64 es'.size,by simp [Builtin.len_,ht,run_underlying hu,goInt,getObj,Sem.run,hh],?_⟩
  rw [aO,← hlen];simp [VR]
 ·cases hl
theorem xv {v:AV} {c:Nat} (h:iU v=some c):v=.int .u8 c/\c<256:=by
 obtain ⟨k,n,rfl,g⟩:=aP h
 obtain ⟨g1,g2⟩:=aE.1 g
 have:k=.u8:=by cases k <;> first | rfl | cases g1
 subst this
 cases n with
 | negSucc n=>cases g2
 | ofNat n =>
  obtain ⟨g3,g4⟩:=aE.1 g2
  cases g4
  exact ⟨rfl,Nat.lt_succ_of_le (Nat.le_of_ble_eq_true g3)⟩
theorem vB (v:AV) (vs:List AV):f9 (v::vs)=ob (iU v) fun c=>ob (f9 vs) fun l=>some (c::l):=rfl
theorem mh:∀ {vs:List AV} {l:List Nat} {cs:List Value},f9 vs=some l->bH ρ vs cs->(cs=l.map fun (n:Nat)=>Value.int .u8 n)/\∀ c∈l,c<256
 | [],l,cs,h,hv=>by cases h;cases hv;exact ⟨rfl,by simp⟩
 | v::vs,l,cs,h,hv=>by
  rw [vB] at h
  obtain ⟨c,hc,h⟩:=af.1 h
  obtain ⟨l',hl,h⟩:=af.1 h
  cases h
  obtain ⟨u,us,rfl,h1,h2⟩:=hv
  obtain ⟨rfl,hlt⟩:=xv hc
  cases h1
  obtain ⟨e,he⟩:=mh hl h2
  refine ⟨by rw [e];rfl,fun d hd=>?_⟩
  rcases List.mem_cons.1 hd with rfl | hd
  ·exact hlt
  ·exact he d hd
end
end Go.Am
namespace Go.Am
section
variable {P:Program} {keep:aK} {w:World} {ρ : aL} {h:ac}
def fS (P:Program) (keep:aK) (w:World) (ρ : aL) (s:Sem Value) (r:cX×(Nat->AV)):Prop :=
 ∃ o sz v w',s.run P w=.ok v w'/\w'.os=w.os/\w'.output=w.output/\w'.heap=w.heap.push o /\
  ∀ id,ρ id=none->BR P keep (ρ.up id ⟨w.heap.size,0,sz⟩) id r.1 w'/\VR (ρ.up id ⟨w.heap.size,0,sz⟩) (r.2 id) v
theorem fS.rowM {s:Sem Value} {vs:List AV} {cs:Array Value} {e:TypeId} {f:Nat->AV} {v:Value} (hv:bH ρ vs cs.toList) (hone:bO vs=true)
  (hrun:s.run P w=.ok v {w with heap:=w.heap.push (.cells cs e) }) (hf:∀ σ : aL,∀ id,σ id=some ⟨w.heap.size,0,cs.size⟩->VR σ (f id) v) (x:Bool):fS P keep w ρ s (.cells (az vs .leaf 0) (ay e x) (bp vs) false,f):=by
 refine ⟨.cells cs e,cs.size,v,_,hrun,rfl,rfl,rfl,fun id hid=>⟨?_,hf _ _ (aL.up_same _ _ _)⟩⟩
 rw [bI,List.all_eq_true] at hone
 refine BR.rowM (extra:=[]) (e:=e) (hv.mono (aL.le_up hid)) hone (aL.up_same _ _ _) rfl rfl (by simp) (fz:=(0,0)) (fun i _ hh=>by simp at hh) ?_ ?_
 ·show (w.heap.push _)[w.heap.size]?=_
  simp
 ·intro t y ht
  simp only [ay,List.cons.injEq,AV.tuple.injEq,AV.int.injEq,AV.bool.injEq,and_true,true_and] at ht
  refine ⟨by have:=ht.1;exact Int.ofNat_inj.1 this,fun _=>⟨rfl,?_⟩⟩
  have:=hv.length
  simpa using this.symm
theorem fS.row {s:Sem Value} {vs:List AV} {cs:Array Value} {e:TypeId} {f:Nat->AV} {v:Value} (hv:bH ρ vs cs.toList) (hone:bO vs=true)
  (hrun:s.run P w=.ok v {w with heap:=w.heap.push (.cells cs e) }) (hf:∀ σ : aL,∀ id,σ id=some ⟨w.heap.size,0,cs.size⟩->VR σ (f id) v):fS P keep w ρ s (rowBlk vs,f):=by
 refine ⟨.cells cs e,cs.size,v,_,hrun,rfl,rfl,rfl,fun id hid=>⟨?_,hf _ _ (aL.up_same _ _ _)⟩⟩
 rw [bI,List.all_eq_true] at hone
 refine BR.row (extra:=[]) (e:=e) (hv.mono (aL.le_up hid)) hone (aL.up_same _ _ _) rfl rfl (by simp) (fz:=(0,0)) (fun i _ hh=>by simp at hh) ?_
 show (w.heap.push _)[w.heap.size]?=_
 simp
theorem tw {n:Int} (h0:0<=n) (h1:n<2^40):IntKind.i64.wrap n=n:=by
 obtain ⟨k,rfl⟩:=Int.eq_ofNat_of_zero_le h0
 exact Ae (show k<=dG .i64 by simp only [dG];omega)
theorem zA {σ : aL} {id n sz:Nat} (hs:σ id=some ⟨n,0,sz⟩):VR σ (dy id) (.pointer (some ⟨n,0,none⟩)):=⟨_,hs,rfl⟩
theorem vj {t:TypeId} {r:cX×(Nat->AV)} (hr:bQ P t=some r):fS P keep w ρ (Instr.alloc t true (.tuple #[])) r:=by
 unfold bQ at hr
 cases hz:cd P t with
 | none=>rw [hz] at hr;cases hr
 | some z =>
  rw [hz] at hr
  obtain ⟨h1,h2⟩:=aE.1 (show aV (bO z.cells) (some (.cells (az z.cells .leaf 0) (ay t true) (bp z.cells) false,dy))=some r from hr)
  cases h2
  obtain ⟨v,rz,vz⟩:=gX (w:=w) (ρ:=ρ) hz
  refine fS.rowM (e:=t) vz.cells h1 ?_ (fun σ id hs=>zA hs) true
  simp [Instr.alloc,rz,newVar,newRow]
theorem AJ {t:TypeId} {x:AV} {a:Value} {r:cX×(Nat->AV)} (hr:cV x=some r) (hx:VR ρ x a):fS P keep w ρ (Instr.box t a) r:=by
 obtain ⟨h1,h2⟩:=aE.1 (show aV (bO x.cells) (some (rowBlk x.cells,dy))=some r from hr)
 cases h2
 refine fS.row (e:=t) hx.cells h1 ?_ (fun σ id hs=>zA hs)
 simp [Instr.box,newVar,newRow]
theorem u9 {zs:List AV} {za:Array Value} (hz:bH ρ zs za.toList) (len:Nat):bH ρ (List.replicate len zs).flatten ((Array.range (len*zs.length)).map (za[·% za.size]!)).toList:=by
 have hl:za.size=zs.length:=by have:=hz.length;simpa using this.symm
 refine bH.of_get (by simp) fun i x hx=>?_
 have hi:i<len*zs.length:=by
  have:=(List.getElem?_eq_some_iff.1 hx).1
  simpa using this
 have hpos:0<zs.length:=by
  rcases Nat.eq_zero_or_pos zs.length with h | h
  ·rw [h] at hi;simp at hi
  ·exact h
 have hget:∀ (n i:Nat),(List.replicate n zs).flatten[i]?=if i<n*zs.length then zs[i%zs.length]? else none:=by
  intro n
  induction n with
  | zero=>intro i;simp
  | succ n ih =>
   intro i
   rw [List.replicate_succ,List.flatten_cons]
   by_cases h:i<zs.length
   ·rw [List.getElem?_append_left h,Nat.mod_eq_of_lt h,if_pos]
    rw [Nat.add_mul];omega
   ·rw [List.getElem?_append_right (by omega),ih]
    have:(i - zs.length)%zs.length=i%zs.length:=by
     conv=>rhs;rw [show i=i - zs.length+zs.length by omega,Nat.add_mod_right]
    rw [this]
    by_cases h2:i - zs.length<n*zs.length
    ·rw [if_pos h2,if_pos (by rw [Nat.add_mul];omega)]
    ·rw [if_neg h2,if_neg (by rw [Nat.add_mul];omega)]
 rw [hget,if_pos hi] at hx
 obtain ⟨v,h1,h2⟩:=hz.get _ _ hx
 refine ⟨v,?_,h2⟩
 rw [Array.getElem?_toList] at h1
 simp only [Array.toList_map,Array.toList_range,List.getElem?_map,List.getElem?_range hi,Option.map_some]
 rw [hl,getElem!_pos _ _ (by have:=Nat.mod_lt i hpos;omega)]
 rw [Array.getElem?_eq_getElem (by have:=Nat.mod_lt i hpos;omega)] at h1
 exact h1
theorem sS {σ : aL} {id n sz len:Nat} (hs:σ id=some ⟨n,0,sz⟩):VR σ (sliceTo len id) (.slice (some ⟨n,0,none⟩) len len) :=
 ⟨_,_,_,hs,rfl,Nat.le_refl _,Nat.le_refl _,fun _=>rfl,(fun es e=>by cases e),fun _=>rfl⟩
theorem ni {t:TypeId} {len:Nat} {vs:List AV} {ps:Array (Nat×Value)} {r:cX×(Nat->AV)} (hr:buildSliceN P t len (ps.toList.map (·.1)) vs=some r) (hv:bH ρ vs (ps.toList.map (·.2))) :
  fS P keep w ρ (Instr.buildSlice t len ps) r:=by
 unfold buildSliceN at hr
 cases hu:P.underlying t with
 | none=>rw [hu] at hr;cases hr
 | some d =>
  cases d with
  | slice e =>
   cases hs:aC P e with
   | none=>simp only [hu,hs] at hr;cases hr
   | some s =>
    cases hz:cd P e with
    | none=>simp only [hu,hs,hz] at hr;cases hr
    | some z =>
     simp only [hu,hs,hz] at hr
     by_cases hc:len*s<=2^24/\z.cells.length=s
     ·rw [if_pos hc] at hr
      cases hpls:eY (fun i=>some (i*s,s)) (len*s) (ps.toList.map (·.1)) with
      | none=>rw [hpls] at hr;cases hr
      | some pls =>
       rw [hpls] at hr
       simp only at hr
       cases hf:pF pls vs (ua len z.cells) with
       | none=>rw [hf] at hr;cases hr
       | some cs =>
        rw [hf] at hr
        obtain ⟨h1,h2⟩:=aE.1 (show aV (bO cs) (some (rowBlk cs,sliceTo len))=some r from hr)
        cases h2
        obtain ⟨zv,rz,vz⟩:=gX (w:=w) (ρ:=ρ) hz
        have hzl:(ua len z.cells).length=len*s:=by rw [nP];simp [hc.2]
        have key:∀ (za:Array Value),(len*s=0∨za=zv.cells)->∃ ra,Instr.fill (fun i=>some (i*s,s)) ((Array.range (len*s)).map (za[·% za.size]!)) ps.toList=some ra/\bH ρ cs ra.toList:=by
         intro za hza
         have hzs:bH ρ (ua len z.cells) ((Array.range (len*s)).map (za[·% za.size]!)).toList:=by
          rcases hza with h0 | rfl
          ·rw [h0]
           have:(ua len z.cells)=[]:=List.length_eq_zero_iff.1 (by omega)
           rw [this];simp [bH]
          ·rw [nP,← hc.2];exact u9 vz.cells len
         obtain ⟨ra,g1,g2,_⟩:=iJ (ps:=ps.toList) (place:=fun i=>some (i*s,s)) hf (by rw [hzl];exact hpls) hv hzs
         exact ⟨ra,g1,g2⟩
        by_cases h0:len*s=0
        ·obtain ⟨ra,g1,g2⟩:=key #[] (.inl h0)
         refine fS.row (e:=e) g2 h1 ?_ (fun σ id hs=>sS hs)
         simp only [h0] at g1
         simp only [Instr.buildSlice,Sem.run_bind,run_underlying hu,Result.andThen_ok,bz hs]
         rw [if_neg (by omega),if_pos h0]
         simp only [Sem.run_pure,Result.andThen_ok,Sem.run_bind,h0,g1]
         rfl
        ·obtain ⟨ra,g1,g2⟩:=key zv.cells (.inr rfl)
         refine fS.row (e:=e) g2 h1 ?_ (fun σ id hs=>sS hs)
         simp only [Instr.buildSlice,Sem.run_bind,run_underlying hu,Result.andThen_ok,bz hs]
         rw [if_neg (by omega),if_neg h0]
         simp only [Sem.run_pure,Result.andThen_ok,Sem.run_bind,rz,g1]
         rfl
     ·rw [if_neg hc] at hr;cases hr
  | _=>simp only [hu] at hr;cases hr
theorem mp {t:TypeId} {r:cX×(Nat->AV)} (hr:ez P t true=some r) {s:Sem Value} (hs:s.run P w=.ok (.map (some w.heap.size)) {w with heap:=w.heap.push (.map #[] 0) }):fS P keep w ρ s r:=by
 unfold ez at hr
 split at hr
 ·cases hr
  refine ⟨.map #[] 0,0,_,_,hs,rfl,rfl,rfl,fun id hid=>⟨⟨_,#[],aL.up_same _ _ _,rfl,?_,rfl⟩,_,aL.up_same _ _ _,rfl,rfl⟩⟩
  show (w.heap.push _)[w.heap.size]?=_
  simp
 ·cases hr
theorem rT {t:TypeId} {r:cX×(Nat->AV)} (hr:ez P t true=some r):fS P keep w ρ (Instr.makeMap t none) r :=
 mp hr (by simp [Instr.makeMap])
theorem rU {t:TypeId} {x:AV} {a:Value} {r:cX×(Nat->AV)} (hr:fK (fun _ _=>ez P t true) x=some r) (hx:VR ρ x a):fS P keep w ρ (Instr.makeMap t (some a)) r:=by
 obtain ⟨k,n,rfl,g⟩:=aP hr
 cases hx
 have hu:∃ kt e,P.underlying t=some (.map kt e):=by
  unfold ez at g
  split at g
  ·exact ⟨_,_,by assumption⟩
  ·cases g
 obtain ⟨kt,e,hu⟩:=hu
 exact mp g (by simp [Instr.makeMap,run_underlying hu,asInt,asIntOf])
theorem oP {t:TypeId} {x y:AV} {a b:Value} {r:cX×(Nat->AV)} (hr:dE P t x y=some r) (hx:VR ρ x a) (hy:VR ρ y b):fS P keep w ρ (Instr.makeSlice t a b) r:=by
 unfold dE at hr
 cases hu:P.underlying t with
 | none=>rw [hu] at hr;cases hr
 | some d =>
  cases d with
  | slice e =>
   cases hs:aC P e with
   | none=>simp only [hu,hs] at hr;cases hr
   | some s =>
    cases hz:cd P e with
    | none=>simp only [hu,hs,hz] at hr;cases hr
    | some z =>
     cases hb:cF P e with
     | none=>simp only [hu,hs,hz,hb] at hr;cases hr
     | some bs =>
      simp only [hu,hs,hz,hb] at hr
      obtain ⟨k,n,rfl,g1⟩:=aP hr
      obtain ⟨k',m,rfl,g2⟩:=aP g1
      split at g2
      ·rename_i hc
       obtain ⟨c1,c2,c3,c4,c5,c6⟩:=hc
       cases g2
       cases hx;cases hy
       obtain ⟨zv,rz,vz⟩:=gX (w:=w) (ρ:=ρ) hz
       obtain ⟨inf,ri,ib⟩:=BZ (w:=w) hb
       have wn:IntKind.i64.wrap n=n:=tw (by omega) (by omega)
       have wm:IntKind.i64.wrap m=m:=tw (by omega) (by omega)
       have hzl:zv.cells.size=s:=by have:=vz.cells.length;rw [c5] at this;simpa using this.symm
       let za:Array Value:=if m.toNat*s=0 then #[] else zv.cells
       let row:Array Value:=(Array.range (m.toNat*s)).map (za[·% za.size]!)
       refine ⟨.cells row e,m.toNat*s,.slice (some ⟨w.heap.size,0,none⟩) n.toNat m.toNat,{w with heap:=w.heap.push (.cells row e) },?_,rfl,rfl,rfl,fun id hid=>⟨?_,?_⟩⟩
       ·simp only [Instr.makeSlice,Sem.run_bind,run_underlying hu,Result.andThen_ok,asInt,asIntOf,Sem.run_pure,ri,ib,wn,wm]
        have t1:((m<0||decide ((bs:Int)*m > 2^48))||decide (n<0)||decide (n > m))=false:=by
         simp only [Bool.or_eq_false_iff,decide_eq_false_iff_not]
         refine ⟨⟨⟨by omega,by omega⟩,by omega⟩,by omega⟩
        simp only [t1]
        simp only [Bool.false_eq_true,if_false,Sem.run_bind,run_askRoom,Result.andThen_ok]
        by_cases h0:m.toNat*s=0
        ·simp [h0,newRow,row,za,bz hs]
        ·simp [h0,rz,newRow,row,za,bz hs]
       ·refine ⟨⟨w.heap.size,0,m.toNat*s⟩,row,e,(0,0),aL.up_same _ _ _,by show (w.heap.push _)[w.heap.size]?=_;simp,by simp [row],by simp,fun i hi=>?_,fun _ i _ hh=>by simp at hh,BF (fun v hv=>by have:=c6;rw [bI,List.all_eq_true] at this;exact this v hv)⟩
        have hpos:0<s:=by
         rcases Nat.eq_zero_or_pos s with h | h
         ·rw [h] at hi;simp at hi
         ·exact h
        have hm:=Nat.mod_lt i hpos
        have hne:¬m.toNat*s=0:=by omega
        have hlt:i%s<z.cells.length:=by rw [c5];exact hm
        obtain ⟨cv,g1,g2⟩:=vz.cells.get (i%s) z.cells[i%s] (List.getElem?_eq_getElem hlt)
        refine ⟨z.cells[i%s],cv,?_,?_,?_,g2.mono (aL.le_up hid)⟩
        ·show (SO z.cells (Nat.mod i (bp z.cells)))=_
         rw [mK,aO,c5];exact List.getElem?_eq_getElem hlt
        ·rw [bI,List.all_eq_true] at c6;exact c6 _ (List.getElem_mem _)
        ·simp only [row,za,if_neg hne,Nat.zero_add]
         rw [Array.getElem?_map,Array.getElem?_range,if_pos hi]
         rw [Array.getElem?_toList] at g1
         simp only [Option.map_some,hzl]
         rw [getElem!_pos _ _ (by omega)]
         rw [Array.getElem?_eq_getElem (by omega)] at g1
         exact g1
       ·exact ⟨_,_,_,aL.up_same _ _ _,rfl,by omega,Nat.le_refl _,fun _=>rfl,(fun es e=>by cases e),fun _=>by simp⟩
      ·cases g2
  | _=>simp only [hu] at hr;cases hr
theorem lI (l:List Nat):kz l=l.map aQ:=by
 induction l with
 | nil=>rfl
 | cons c l ih=>show aQ c::kz l=_;rw [ih];rfl
theorem qV (s:ByteArray):bH ρ (kz (s.data.toList.map (·.toNat))) (s.data.map fun b=>Value.int .u8 b.toNat).toList:=by
 rw [lI]
 refine bH.of_get (by simp) fun i x hx=>?_
 simp only [List.map_map,List.getElem?_map,Option.map_eq_some_iff] at hx
 obtain ⟨u,hu,rfl⟩:=hx
 refine ⟨.int .u8 u.toNat,?_,rfl⟩
 rw [Array.getElem?_toList] at hu
 rw [Array.getElem?_toList,Array.getElem?_map,hu];rfl
theorem tp {e:TypeId} {x:AV} {a:Value} {r:cX×(Nat->AV)} {s d:TypeId} (hs:P.underlying s=some .string) (hd:P.underlying d=some (.slice e)) (hr:th P e x=some r) (hx:VR ρ x a) :
  fS P keep w ρ (convert s d a) r:=by
 unfold th at hr
 cases hu:P.underlying e with
 | none=>rw [hu] at hr;cases hr
 | some de =>
  rw [hu] at hr
  have hk:de=.int .u8:=by
   cases de with
   | int k=>cases k <;> first | rfl | (exfalso;cases hr)
   | _=>exfalso;cases hr
  subst hk
  ·cases x with
   | str l =>
    cases hr
    obtain ⟨sb,rfl,rfl⟩:=hx
    let cap:=(Question.appendCap sb.size 0 e).cut (w.tape w.drawn (.appendCap sb.size 0 e))
    let row:Array Value:=(sb.data.map fun b=>Value.int .u8 b.toNat)++Array.replicate (cap - sb.size) (.int .u8 0)
    have hcap:sb.size<=cap:=by simp only [cap,Question.cut];omega
    have hrow:row.size=cap:=by simp only [row,Array.size_append,Array.size_map,Array.size_replicate];have:sb.data.size=sb.size:=rfl;omega
    refine ⟨.cells row e (cap,cap+1),cap,.slice (some ⟨w.heap.size,0,none⟩) sb.size cap,{w with heap:=w.heap.push (.cells row e (cap,cap+1)),drawn:=w.drawn+1 },?_,rfl,rfl,rfl,fun id hid=>⟨?_,?_⟩⟩
    ·have hf:(Question.appendCap sb.size 0 e).forced=false:=rfl
     simp only [convert,Sem.run_bind,run_underlying hs,run_underlying hd,run_underlying hu,Result.andThen_ok]
     simp only [Conv.stringToBytes,Sem.run_bind,run_choose,hf,Bool.false_eq_true,if_false,Result.andThen_ok]
     simp only [newRow,Sem.run_bind,run_newObj,Result.andThen_ok,Sem.run_pure,markStringish,run_shape]
     have hsh:World.shape? {w with heap:=w.heap.push (.cells row e),drawn:=w.drawn+1 } w.heap.size=some (e,cap):=by
      simp [World.shape?,hrow]
     simp only [row,cap] at hsh ⊢
     rw [hsh]
     simp only [run_freeze,Result.andThen_ok]
     congr 1
     simp only [World.freeze]
     rw [if_neg (by simp)]
     congr 1
     apply Array.ext_getElem?
     intro i
     rw [Array.getElem?_modify]
     by_cases hi:w.heap.size=i
     ·subst hi;simp
     ·rw [if_neg hi,Array.getElem?_push,Array.getElem?_push,if_neg (fun h=>hi h.symm),if_neg (fun h=>hi h.symm)]
    ·have hb:=qV (ρ:=ρ.up id ⟨w.heap.size,0,cap⟩) sb
     have hlen:sb.data.size=sb.size:=rfl
     refine ⟨⟨w.heap.size,0,cap⟩,row,e,(cap,cap+1),aL.up_same _ _ _,by show (w.heap.push _)[w.heap.size]?=_;simp,hrow,?_,fun i hi=>?_,fun _ i hi hh=>by simp only at hi hh;omega,ie⟩
     ·simp only [aO,List.length_map,Array.length_toList];omega
     ·simp only [aO,List.length_map,Array.length_toList] at hi
      have hi':i<(kz (sb.data.toList.map (·.toNat))).length:=by rw [lI];simpa using hi
      obtain ⟨cv,g1,g2⟩:=hb.get i _ (List.getElem?_eq_getElem hi')
      refine ⟨_,cv,?_,?_,?_,g2⟩
      ·unfold aR
       rw [cr,if_pos (by omega),Nat.sub_zero,List.getElem?_eq_getElem hi']
      ·simp only [lI,List.getElem_map];rfl
      ·rw [Array.getElem?_toList] at g1
       simp only [row,Nat.zero_add]
       rw [Array.getElem?_append_left (by simpa using hi)];exact g1
    ·have hlen:(sb.data.toList.map (·.toNat)).length=sb.size:=(iB sb).symm
     rw [aO,hlen]
     exact ⟨_,_,_,aL.up_same _ _ _,rfl,hcap,hcap,(fun e=>by cases e),(fun es e=>by cases e;simp),fun _=>by simp⟩
   | _=>cases hr
theorem sf {e:TypeId} {x r:AV} {a:Value} {s d:TypeId} (hr0:HR P keep ρ h w) (hs:P.underlying s=some (.slice e)) (hd:P.underlying d=some .string) (hr:jr P e x h=some r) (hx:VR ρ x a) :
  bU P w ρ (convert s d a) r:=by
 unfold jr at hr
 cases hu:P.underlying e with
 | none=>rw [hu] at hr;cases hr
 | some de =>
  rw [hu] at hr
  split at hr
  ·rename_i hk
   cases hk
   split at hr
   ·cases hr
    obtain ⟨_,_,_,rfl⟩:=hx
    refine ⟨.string .empty,?_,_,rfl,rfl⟩
    simp [convert,run_underlying hs,run_underlying hd,run_underlying hu,Conv.bytesToString]
   ·rename_i b off n _ _
    split at hr
    ·rename_i vs hl
     cases hb:f9 vs with
     | none=>rw [hb] at hr;cases hr
     | some l =>
      rw [hb] at hr;cases hr
      obtain ⟨p,cs,hp,hvs,hn,_,hc⟩:=hr0.ld hl
      obtain ⟨p',a',c',hp',rfl,hle,_,_,_,ha⟩:=hx
      rw [hp] at hp';cases hp'
      obtain ⟨hcs,hlt⟩:=mh hb hvs
      have hrun:(loadCells a' n).run P w=.ok cs.toArray w:=by
       by_cases hc0:c'=0
       ·obtain rfl:n=0:=by omega
        have:cs=[]:=List.length_eq_zero_iff.1 hn
        subst this;rfl
       ·rw [ha hc0];exact gz hn (fun j u hj=>by rw [cY];exact hc j u hj)
      have key:∀ (f:Value->ByteArray->Sem (ForInStep ByteArray)),(∀ (n:Nat) s,f (.int .u8 n) s=pure (ForInStep.yield (s.push (UInt8.ofNat n)))) ->
        ∀ (l:List Nat) (s0:ByteArray),(forIn (l.map fun (n:Nat)=>Value.int .u8 n) s0 f).run P w=.ok ⟨s0.data++(l.map UInt8.ofNat).toArray⟩ w:=by
       intro f hf l
       induction l with
       | nil=>intro s0;simp
       | cons c l ih =>
        intro s0
        rw [List.map_cons,List.forIn_cons,hf]
        simp only [Sem.run_bind,Sem.run_pure,Result.andThen_ok]
        rw [ih]
        congr 2
        show s0.data.push _++_=_
        simp
      refine ⟨.string ⟨(l.map UInt8.ofNat).toArray⟩,?_,_,rfl,?_⟩
      ·simp only [convert,Sem.run_bind,run_underlying hs,run_underlying hd,run_underlying hu,Result.andThen_ok,Conv.bytesToString,hrun]
       rw [← Array.forIn_toList]
       simp only [hcs]
       rw [key _ (fun n s=>rfl) l .empty]
       simp only [Result.andThen_ok,Sem.run_pure]
       congr 2
       show (⟨#[]++_⟩:ByteArray)=_
       simp
      ·simp only [List.map_map]
       conv=>rhs;rw [← List.map_id l]
       apply List.map_congr_left
       intro c hc
       have:=hlt c hc
       simp only [Function.comp,id,UInt8.toNat_ofNat']
       omega
    ·cases hr
   ·cases hr
  ·cases hr
end
end Go.Am
namespace Go.Am
section
variable {P:Program} {keep:aK} {w:World} {ρ : aL} {h:ac}
def ve (P:Program) (keep:aK) (w:World) (ρ : aL) (h:ac) (s:Sem Value) (r:AV) (h':ac):Prop :=
 ∃ ρ' v w',s.run P w=.ok v w'/\VR ρ' r v/\bv P keep ρ h w ρ' h' w'
def CF (P:Program) (keep:aK) (w:World) (ρ : aL) (h:ac) (s:Sem Unit) (h':ac):Prop :=
 ∃ ρ' w',s.run P w=.ok () w'/\bv P keep ρ h w ρ' h' w'
theorem oZ {v:AV} {r:Option ac} {q:AV×ac} (hq:ju v r=some q):∃ h',r=some h'/\q=(v,h'):=by
 unfold ju at hq
 cases r with
 | none=>cases hq
 | some h'=>cases hq;exact ⟨h',rfl,rfl⟩
theorem oc {t:TypeId} {s:Nat} (hs:aC P t=some s) (hr:HR P keep ρ h w) {x v:AV} {q:AV×ac} (hq:eV s h x v=some q) {a b:Value} (hx:VR ρ x a) (hv:VR ρ v b) :
  q.1=aJ/\CF P keep w ρ h (Instr.storeAt t a b) q.2:=by
 obtain ⟨bk,off,rfl,g1⟩:=dO hq
 obtain ⟨g2,g3⟩:=bJ.1 g1
 cases hst:h.sto bk off v.cells with
 | none=>rw [hst] at g3;cases g3
 | some h' =>
  rw [hst] at g3;cases g3
  obtain ⟨p,w',hp,hrun,hpost⟩:=hr.sto hst hv.cells
  obtain ⟨p',hp',rfl⟩:=hx
  rw [hp] at hp';cases hp'
  refine ⟨rfl,ρ,w',?_,hpost⟩
  have hlen:=hv.cells.length
  have:b.cells.size=s:=by have:=Nat.eq_of_beq_eq_true g2;rw [aO] at this;simp at hlen;omega
  simp only [Instr.storeAt,Instr.sureAddr,Sem.run_bind,Sem.run_pure,Result.andThen_ok,storeVar,bz hs]
  rw [if_neg (by rw [this];simp)]
  simpa using hrun
theorem JA {v:AV} (h:v.one=true):v.cells=[v]:=by cases v <;> first | rfl | cases h
theorem xt {t:TypeId} (hs:aC P t=some 1) (hr:HR P keep ρ h w) {x v:AV} {q:AV×ac} (hq:aW h x v=some q) {a b:Value} (hx:VR ρ x a) (hv:VR ρ v b) :
  q.1=aJ/\CF P keep w ρ h (Instr.storeAt t a b) q.2:=by
 obtain ⟨bk,off,rfl,g1⟩:=dO hq
 cases hst:h.st1 bk off v with
 | none=>rw [hst] at g1;cases g1
 | some h' =>
  rw [hst] at g1;cases g1
  have hone:v.one=true:=by
   obtain ⟨t,z,m,ro,hb,hf⟩:=df hst
   cases ro with
   | true=>cases hf
   | false=>obtain ⟨_,hf⟩:=bJ.1 hf;exact (bJ.1 hf).1
  refine oc (s:=1) (v:=v) (q:=(aJ,h')) hs hr ?_ hx hv
  show (Bool.rec (motive:=fun _=>Option (AV×ac)) none (Option.rec (motive:=fun _=>Option (AV×ac)) none (fun h=>some (aJ,h)) (h.sto bk off v.cells)) (Nat.beq (bp v.cells) 1):Option (AV×ac))=_
  rw [JA hone,WN hst];rfl
theorem jP {t:TypeId} (h:dJ P t=true):(∃ k,P.underlying t=some (.int k))∨P.underlying t=some .string∨P.underlying t=some .bool:=by
 unfold dJ at h
 split at h
 ·exact .inl ⟨_,by assumption⟩
 ·exact .inr (.inl (by assumption))
 ·exact .inr (.inr (by assumption))
 ·cases h
theorem fI {t:TypeId} (h:dJ P t=true) (e:Bool) (n:Nat) (v:Value):(Instr.checkKey e (n+1) t v).run P w=.ok () w:=by
 rcases jP h with ⟨k,hu⟩ | hu | hu <;> (simp only [Instr.checkKey,Sem.run_bind,run_underlying hu,Result.andThen_ok];rfl)
theorem cn {t:TypeId} {k:AV} {kv:Value} (h:gP P t k=true) (hk:VR ρ k kv) (e:Bool):(Instr.checkKey e 10000 t kv).run P w=.ok () w:=by
 unfold gP at h
 cases hu:P.underlying t with
 | none=>rw [hu] at h;cases h
 | some d =>
  rw [hu] at h
  cases d with
  | int kk=>exact fI (by unfold dJ;rw [hu]) e 9999 kv
  | string=>exact fI (by unfold dJ;rw [hu]) e 9999 kv
  | bool=>exact fI (by unfold dJ;rw [hu]) e 9999 kv
  | struct fs =>
   simp only at h
   split at h
   ·rename_i hfs
    cases k with
    | agg cs =>
     simp only [Bool.and_eq_true] at h
     obtain ⟨hoff,_⟩:=h
     obtain ⟨cs',rfl,hcs⟩:=hk
     have hlen:=hcs.length
     have key:∀ (g:Field->PUnit->Sem (ForInStep PUnit)),(∀ f s,g f s=if f.name ≠ "_" then (do let x ← part f.type cs' f.offset;Instr.checkKey e 9999 f.type x;pure (ForInStep.yield PUnit.unit)) else pure (ForInStep.yield PUnit.unit)) ->
       ∀ (l:List Field),(∀ f∈l,dJ P f.type=true/\aC P f.type=some 1/\f.offset<cs.length)->(forIn l PUnit.unit g).run P w=.ok PUnit.unit w:=by
      intro g hg0 l
      induction l with
      | nil=>intro _;simp
      | cons f l ih =>
       intro hl
       obtain ⟨h1,h2,h3⟩:=hl f (by simp)
       have hg:gB P f.type=some false:=by
        unfold gB
        rcases jP h1 with ⟨k,hu⟩ | hu | hu <;> rw [hu]
       have hget:cs'[f.offset]?=some (cs'[f.offset]'(by simp at hlen;omega)):=Array.getElem?_eq_getElem _
       have hpart:(part f.type cs' f.offset).run P w=.ok (cs'[f.offset]'(by simp at hlen;omega)) w:=by simp [part,iu hg,hget]
       have ih:=ih fun g hg=>hl g (by simp [hg])
       rw [List.forIn_cons,hg0]
       by_cases hn:f.name ≠ "_"
       ·simp only [Sem.run_bind,if_pos hn,hpart,Result.andThen_ok,fI h1 e 9998,Sem.run_pure]
        exact ih
       ·simp only [Sem.run_bind,if_neg hn,Sem.run_pure,Result.andThen_ok]
        exact ih
     have hall:∀ f∈fs.toList,dJ P f.type=true/\aC P f.type=some 1/\f.offset<cs.length:=by
      intro f hf
      rw [Array.all_eq_true'] at hfs hoff
      have h1:=hfs f (Array.mem_toList_iff.1 hf)
      have h2:=hoff f (Array.mem_toList_iff.1 hf)
      simp only [Bool.and_eq_true,beq_iff_eq,decide_eq_true_eq] at h1 h2
      exact ⟨h1.1,h1.2,h2⟩
     have e0:Instr.checkKey e 10000 t (.agg cs')=Instr.checkKey e (9999+1) t (.agg cs'):=rfl
     rw [e0,Instr.checkKey,Sem.run_bind,run_underlying hu]
     simp only [Result.andThen_ok]
     rw [← Array.forIn_toList,Sem.run_bind,key _ (fun _ _=>rfl) fs.toList hall]
     rfl
    | _=>cases h
   ·cases h
  | _=>cases h
theorem pK {t:TypeId} {x y:AV} {a b:Value} {r:Bool} (h:bV P t x y=some r) (hx:VR ρ x a) (hy:VR ρ y b):(Op.equal t a b).run P w=.ok r w:=by
 unfold bV at h
 cases hu:P.underlying t with
 | none=>rw [hu] at h;exact eF 50 t x y a b r 10000 h hx hy (by decide)
 | some d =>
  rw [hu] at h
  cases d with
  | int kk =>
   obtain ⟨l,n,rfl,g1⟩:=aP h
   obtain ⟨m,n',rfl,g2⟩:=aP g1
   obtain ⟨e3,g3⟩:=jo g2
   subst e3
   cases g3;cases hx;cases hy
   rw [mB]
   exact run_equalIn_int w 9999 t l kk n n' hu
  | string =>
   obtain ⟨s,rfl,g1⟩:=cL h
   obtain ⟨u,rfl,g2⟩:=cL g1
   cases g2
   obtain ⟨s',rfl,rfl⟩:=hx
   obtain ⟨u',rfl,rfl⟩:=hy
   rw [fw,← ByteArray.toList_eq,← ByteArray.toList_eq]
   exact run_equalIn_string w 9999 t s' u' hu
  | _=>exact eF 50 t x y a b r 10000 h hx hy (by decide)
theorem uF {t:TypeId} {d:TypeDesc} (hu:P.underlying t=some d) {x y:AV} {a b:Value} {r:Bool} (h:bV P t x y=some r) (hx:VR ρ x a) (hy:VR ρ y b) (hd:dJ P t=true):Instr.sameNow d a b=some r:=by
 have heq:(Op.equal t a b).run P default=.ok r default:=pK h hx hy
 unfold bV at h
 rw [hu] at h
 rcases jP hd with ⟨k,hu'⟩ | hu' | hu' <;> (rw [hu] at hu';cases hu')
 ·obtain ⟨l,n,rfl,g1⟩:=aP h
  obtain ⟨m,n',rfl,g2⟩:=aP g1
  obtain ⟨e3,g3⟩:=jo g2
  subst e3
  cases g3;cases hx;cases hy
  simp [Instr.sameNow,mB]
 ·obtain ⟨s,rfl,g1⟩:=cL h
  obtain ⟨u,rfl,g2⟩:=cL g1
  cases g2
  obtain ⟨s',rfl,rfl⟩:=hx
  obtain ⟨u',rfl,rfl⟩:=hy
  simp [Instr.sameNow,fw,beq_toListBytes,ByteArray.toList_eq]
 ·have h:aX P 50 t x y=some r:=h
  simp only [aX,hu] at h
  split at h
  ·cases h;cases hx;cases hy;simp [Instr.sameNow]
  ·cases h
theorem sX {fs:Array Field} (a b:Value):Instr.sameNow (.struct fs) a b=none:=by cases a <;> cases b <;> rfl
theorem dP {t:TypeId} {k:AV} {kv:Value} (hok:gP P t k=true) (hk:VR ρ k kv):∀ {es:List aG} {l:List MapEntry} {r:Option AV},gn (bV P t) k es=some r->km ρ es l ->
  ∃ o,(Instr.findKey t kv l).run P w=.ok o w/\(match r with
   | none=>o=none/\∀ e∈es,bV P t k e.key=some false
   | some v=>∃ i e e',o=some (i,e'.val)/\es[i]?=some e/\l[i]?=some e'/\e.val=v/\ER ρ e e'/\bV P t k e.key=some true/\∀ j,j<i->∀ e,es[j]?=some e->bV P t k e.key=some false):=by
 intro es l r h hl
 
 have found:∀ (es:List aG) (l:List MapEntry) (r:Option AV) (n:Nat),gn (bV P t) k es=some r->km ρ es l ->
   ∃ o,(Instr.findAsking t kv l n).run P w=.ok o w/\(∀ d,P.underlying t=some d->dJ P t=true->Instr.findNow d kv l n=some o)/\(match r with
    | none=>o=none/\∀ e∈es,bV P t k e.key=some false
    | some v=>∃ i e e',o=some (n+i,e'.val)/\es[i]?=some e/\l[i]?=some e'/\e.val=v/\ER ρ e e'/\bV P t k e.key=some true/\∀ j,j<i->∀ e,es[j]?=some e->bV P t k e.key=some false):=by
  intro es
  induction es with
  | nil =>
   intro l r n h hl
   cases hl;cases h
   exact ⟨none,rfl,fun _ _ _=>rfl,rfl,by simp⟩
  | cons e es ih =>
   intro l r n h hl
   obtain ⟨e',l',rfl,he,hl'⟩:=hl
   have h:(Option.rec (motive:=fun _=>Option (Option AV)) none (fun b=>Bool.rec (motive:=fun _=>Option (Option AV)) (gn (bV P t) k es) (some (some e.val)) b) (bV P t k e.key):Option (Option AV))=some r:=h
   cases hq:bV P t k e.key with
   | none=>rw [hq] at h;cases h
   | some q =>
    rw [hq] at h
    have heq:=pK (w:=w) hq hk he.1
    cases q with
    | true =>
     cases h
     refine ⟨some (n,e'.val),by simp [Instr.findAsking,heq],fun d hd hp=>?_,0,e,e',by simp,rfl,rfl,rfl,he,hq,fun j hj=>absurd hj (Nat.not_lt_zero _)⟩
     simp [Instr.findNow,uF hd hq hk he.1 hp]
    | false =>
     obtain ⟨o,g1,g2,g3⟩:=ih l' r (n+1) h hl'
     refine ⟨o,by simp [Instr.findAsking,heq,g1],fun d hd hp=>?_,?_⟩
     ·simp [Instr.findNow,uF hd hq hk he.1 hp,g2 d hd hp]
     ·cases r with
      | none=>exact ⟨g3.1,fun e0 h0=>by rcases List.mem_cons.1 h0 with rfl | h0;exact hq;exact g3.2 e0 h0⟩
      | some v =>
       obtain ⟨i,e1,e1',q1,q2,q3,q4,q5,q6,q7⟩:=g3
       refine ⟨i+1,e1,e1',by rw [q1,Nat.add_assoc,Nat.add_comm 1 i],by simpa using q2,by simpa using q3,q4,q5,q6,fun j hj e0 h0=>?_⟩
       cases j with
       | zero=>simp at h0;subst h0;exact hq
       | succ j=>exact q7 j (by omega) e0 (by simpa using h0)
 obtain ⟨o,g1,g2,g3⟩:=found es l r 0 h hl
 refine ⟨o,?_,?_⟩
 ·unfold gP at hok
  cases hu:P.underlying t with
  | none=>rw [hu] at hok;cases hok
  | some d =>
   have plain:dJ P t=true->(Instr.findKey t kv l).run P w=.ok o w:=fun hp=>by
    simp [Instr.findKey,run_underlying hu,g2 d hu hp]
   rw [hu] at hok
   cases d with
   | int kk=>exact plain (by unfold dJ;rw [hu])
   | string=>exact plain (by unfold dJ;rw [hu])
   | bool=>exact plain (by unfold dJ;rw [hu])
   | struct fs =>
    simp only [Instr.findKey,Sem.run_bind,run_underlying hu,Result.andThen_ok]
    cases l with
    | nil=>simp [Instr.findNow];simpa [Instr.findAsking] using g1
    | cons e' l'=>simp [Instr.findNow,sX];exact g1
   | _=>cases hok
 ·cases r with
  | none=>exact g3
  | some v=>obtain ⟨i,e,e',q1,q⟩:=g3;exact ⟨i,e,e',by simpa using q1,q⟩
theorem fk {b:Nat} {es:Array MapEntry} {c:Nat} (hh:w.heap[b]?=some (.map es c)):(getObj b).run P w=.ok (.map es c) w:=by simp [getObj,Sem.run,hh]
theorem iw {b:Nat} {es:Array MapEntry} {c:Nat} (hh:w.heap[b]?=some (.map es c)) (o:Obj):(setObj b o).run P w=.ok () {w with heap:=w.heap.setIfInBounds b o }:=by simp [setObj,Sem.run,hh]
theorem tU {t:TypeId} {ok:Bool} {m k r:AV} {a b:Value} (hr:HR P keep ρ h w) (hl:dY P t ok m k h=some r) (hm:VR ρ m a) (hk:VR ρ k b):bU P w ρ (Instr.lookup t a b ok) r:=by
 unfold dY at hl
 cases hu:P.underlying t with
 | none=>rw [hu] at hl;cases hl
 | some d =>
  rw [hu] at hl
  cases d with
  | map kt e =>
   simp only at hl
   cases hz:cd P e with
   | none=>rw [hz] at hl;cases hl
   | some z =>
    rw [hz] at hl
    obtain ⟨hok,hl⟩:=aE.1 hl
    obtain ⟨zv,rz,vz⟩:=gX (w:=w) (ρ:=ρ) hz
    have pair:∀ {x:AV} {v:Value} (q:Bool),VR ρ x v->VR ρ (fN ok x q) (if ok then .tuple #[v,.bool q] else v):=by
     intro x v q hv
     cases ok with
     | false=>exact hv
     | true=>exact ⟨_,rfl,v,_,rfl,hv,.bool q,[],rfl,rfl,rfl⟩
    cases m with
    | map o =>
     cases o with
     | none =>
      cases hl;cases hm
      have hf:(Instr.findKey kt b []).run P w=.ok none w:=by
       obtain ⟨o,g1,g2,_⟩:=dP (w:=w) hok hk (es:=[]) (l:=[]) (r:=none) rfl rfl
       rw [g1,g2]
      refine ⟨_,?_,pair false vz⟩
      simp only [Instr.lookup,Sem.run_bind,run_underlying hu,Result.andThen_ok,Sem.run_pure,cn hok hk,hf,rz]
     | some bk =>
      obtain ⟨es,c,hb,hl⟩:=fy hl
      obtain ⟨p,es',hp,h0,hh,he⟩:=hr.blk _ _ hb
      obtain ⟨p',hp',_,rfl⟩:=hm
      rw [hp] at hp';cases hp'
      cases hf:gn (bV P kt) k es with
      | none=>rw [hf] at hl;cases hl
      | some q =>
       rw [hf] at hl
       obtain ⟨o,g1,g2⟩:=dP (w:=w) hok hk hf he
       cases q with
       | none =>
        cases hl
        obtain ⟨rfl,_⟩:=g2
        refine ⟨_,?_,pair false vz⟩
        simp only [Instr.lookup,Sem.run_bind,run_underlying hu,Result.andThen_ok,fk hh,Sem.run_pure,cn hok hk,g1,rz]
       | some v =>
        cases hl
        obtain ⟨i,e1,e1',rfl,_,_,rfl,her,_⟩:=g2
        refine ⟨_,?_,pair true her.2.1⟩
        simp only [Instr.lookup,Sem.run_bind,run_underlying hu,Result.andThen_ok,fk hh,Sem.run_pure,cn hok hk,g1]
    | _=>cases hl
  | _=>cases hl
end
end Go.Am
namespace Go.Am
section
variable {P:Program} {keep:aK} {w:World} {ρ : aL} {h:ac}
mutual
theorem nU:∀ (a b:AV),AV.same a b=true->a=b:=by
 intro a b h
 match a,b with
 | .bool a,.bool b=>simp [AV.same] at h;rw [h]
 | .int k a,.int l b=>simp [AV.same] at h;rw [h.1,h.2]
 | .str a,.str b=>simp [AV.same] at h;rw [h]
 | .ptr a,.ptr b=>simp [AV.same] at h;rw [h]
 | .slice a n c x,.slice b m d y=>simp [AV.same] at h;obtain ⟨⟨⟨h1,h2⟩,h3⟩,h4⟩:=h;rw [h1,h2,h3,h4]
 | .map a,.map b=>simp [AV.same] at h;rw [h]
 | .func f a b,.func g c d=>simp [AV.same] at h;obtain ⟨⟨h1,h2⟩,h3⟩:=h;rw [h1,iy _ _ h2,iy _ _ h3]
 | .nilFunc,.nilFunc=>rfl
 | .iface t v,.iface u w=>simp [AV.same] at h;rw [h.1,nU _ _ h.2]
 | .nilIface,.nilIface=>rfl
 | .agg a,.agg b=>simp [AV.same] at h;rw [iy _ _ h]
 | .tuple a,.tuple b=>simp [AV.same] at h;rw [iy _ _ h]
 | .bool _,.int .. | .bool _,.str _ | .bool _,.ptr _ | .bool _,.slice .. | .bool _,.map _ | .bool _,.func .. | .bool _,.nilFunc | .bool _,.iface .. | .bool _,.nilIface | .bool _,.agg _ | .bool _,.tuple _
 | .int ..,.bool _ | .int ..,.str _ | .int ..,.ptr _ | .int ..,.slice .. | .int ..,.map _ | .int ..,.func .. | .int ..,.nilFunc | .int ..,.iface .. | .int ..,.nilIface | .int ..,.agg _ | .int ..,.tuple _
 | .str _,.bool _ | .str _,.int .. | .str _,.ptr _ | .str _,.slice .. | .str _,.map _ | .str _,.func .. | .str _,.nilFunc | .str _,.iface .. | .str _,.nilIface | .str _,.agg _ | .str _,.tuple _
 | .ptr _,.bool _ | .ptr _,.int .. | .ptr _,.str _ | .ptr _,.slice .. | .ptr _,.map _ | .ptr _,.func .. | .ptr _,.nilFunc | .ptr _,.iface .. | .ptr _,.nilIface | .ptr _,.agg _ | .ptr _,.tuple _
 | .slice ..,.bool _ | .slice ..,.int .. | .slice ..,.str _ | .slice ..,.ptr _ | .slice ..,.map _ | .slice ..,.func .. | .slice ..,.nilFunc | .slice ..,.iface .. | .slice ..,.nilIface | .slice ..,.agg _ | .slice ..,.tuple _
 | .map _,.bool _ | .map _,.int .. | .map _,.str _ | .map _,.ptr _ | .map _,.slice .. | .map _,.func .. | .map _,.nilFunc | .map _,.iface .. | .map _,.nilIface | .map _,.agg _ | .map _,.tuple _
 | .func ..,.bool _ | .func ..,.int .. | .func ..,.str _ | .func ..,.ptr _ | .func ..,.slice .. | .func ..,.map _ | .func ..,.nilFunc | .func ..,.iface .. | .func ..,.nilIface | .func ..,.agg _ | .func ..,.tuple _
 | .nilFunc,.bool _ | .nilFunc,.int .. | .nilFunc,.str _ | .nilFunc,.ptr _ | .nilFunc,.slice .. | .nilFunc,.map _ | .nilFunc,.func .. | .nilFunc,.iface .. | .nilFunc,.nilIface | .nilFunc,.agg _ | .nilFunc,.tuple _
 | .iface ..,.bool _ | .iface ..,.int .. | .iface ..,.str _ | .iface ..,.ptr _ | .iface ..,.slice .. | .iface ..,.map _ | .iface ..,.func .. | .iface ..,.nilFunc | .iface ..,.nilIface | .iface ..,.agg _ | .iface ..,.tuple _
 | .nilIface,.bool _ | .nilIface,.int .. | .nilIface,.str _ | .nilIface,.ptr _ | .nilIface,.slice .. | .nilIface,.map _ | .nilIface,.func .. | .nilIface,.nilFunc | .nilIface,.iface .. | .nilIface,.agg _ | .nilIface,.tuple _
 | .agg _,.bool _ | .agg _,.int .. | .agg _,.str _ | .agg _,.ptr _ | .agg _,.slice .. | .agg _,.map _ | .agg _,.func .. | .agg _,.nilFunc | .agg _,.iface .. | .agg _,.nilIface | .agg _,.tuple _
 | .tuple _,.bool _ | .tuple _,.int .. | .tuple _,.str _ | .tuple _,.ptr _ | .tuple _,.slice .. | .tuple _,.map _ | .tuple _,.func .. | .tuple _,.nilFunc | .tuple _,.iface .. | .tuple _,.nilIface | .tuple _,.agg _=>simp [AV.same] at h
theorem iy:∀ (a b:List AV),AV.sames a b=true->a=b:=by
 intro a b h
 match a,b with
 | [],[]=>rfl
 | a::x,b::y=>simp [AV.sames] at h;rw [nU _ _ h.1,iy _ _ h.2]
 | [],_::_=>simp [AV.sames] at h
 | _::_,[]=>simp [AV.sames] at h
end
theorem WO {a b:ByteArray} (h:a.data.toList.map (·.toNat)=b.data.toList.map (·.toNat)):a=b:=by
 have h1:a.data.toList=b.data.toList:=by
  have:=congrArg (List.map UInt8.ofNat) h
  simpa [Function.comp_def] using this
 cases a;cases b
 simp only at h1
 congr 1
 exact Array.toList_inj.1 h1
theorem uO {c:AV} {u v:Value} (hc:plainCell c=true) (hu:VR ρ c u) (hv:VR ρ c v):u=v:=by
 cases c with
 | bool b=>cases hu;cases hv;rfl
 | int k n=>cases hu;cases hv;rfl
 | str s =>
  obtain ⟨a,rfl,ha⟩:=hu
  obtain ⟨b,rfl,hb⟩:=hv
  rw [WO (ha.trans hb.symm)]
 | _=>cases hc
theorem sy:∀ {cs:List AV} {us vs:List Value},cs.all plainCell=true->bH ρ cs us->bH ρ cs vs->us=vs
 | [],us,vs,_,hu,hv=>by cases hu;cases hv;rfl
 | c::cs,us,vs,hc,hu,hv=>by
  obtain ⟨u,us,rfl,hu1,hu2⟩:=hu
  obtain ⟨v,vs,rfl,hv1,hv2⟩:=hv
  simp only [List.all_cons,Bool.and_eq_true] at hc
  rw [uO hc.1 hu1 hv1,sy hc.2 hu2 hv2]
theorem AL (s:ByteArray):(s==s)=true:=by
 rw [beq_toListBytes];simp
theorem sx {c:AV} {u:Value} (hc:plainCell c=true) (hu:VR ρ c u) (n:Nat):Instr.sameBits n u u=true:=by
 cases c with
 | bool b=>cases hu;cases n <;> simp [Instr.sameBits]
 | int k n=>cases hu;cases n <;> simp [Instr.sameBits]
 | str s=>obtain ⟨a,rfl,ha⟩:=hu;cases n <;> simp [Instr.sameBits,AL]
 | _=>cases hc
theorem pQ:∀ {cs:List AV} {us:List Value},cs.all plainCell=true->bH ρ cs us->∀ n,(us.zip us).all (fun (x,y)=>Instr.sameBits n x y)=true
 | [],us,_,hu,n=>by cases hu;rfl
 | c::cs,us,hc,hu,n=>by
  obtain ⟨u,us,rfl,hu1,hu2⟩:=hu
  simp only [List.all_cons,Bool.and_eq_true] at hc
  simp only [List.zip_cons_cons,List.all_cons,sx hc.1 hu1,Bool.true_and]
  exact pQ hc.2 hu2 n
theorem JY {t:TypeId} {k:AV} (h:gP P t k=true):plainCell k=true∨∃ cs,k=.agg cs/\cs.all plainCell=true:=by
 unfold gP at h
 cases hu:P.underlying t with
 | none=>rw [hu] at h;cases h
 | some d =>
  rw [hu] at h
  cases d with
  | int _=>exact .inl h
  | string=>exact .inl h
  | bool=>exact .inl h
  | struct fs =>
   simp only at h
   split at h
   ·cases k with
    | agg cs=>simp only [Bool.and_eq_true] at h;exact .inr ⟨cs,rfl,h.2⟩
    | _=>cases h
   ·cases h
  | _=>cases h
theorem JZ {t:TypeId} {k:AV} {a b:Value} (h:gP P t k=true) (ha:VR ρ k a) (hb:VR ρ k b):(Instr.keyThatStays a b).run P w=.ok b w:=by
 rcases JY h with hp|⟨cs,rfl,hp⟩
 ·rw [uO hp ha hb]
  simp [Instr.keyThatStays,sx hp hb]
 ·obtain ⟨cs',rfl,h1⟩:=ha
  obtain ⟨ds',rfl,h2⟩:=hb
  have:cs'=ds':=Array.toList_inj.1 (sy hp h1 h2)
  subst this
  have hs:Instr.sameBits (9999+1) (.agg cs') (.agg cs')=true:=by
   simp only [Instr.sameBits,beq_self_eq_true,Bool.true_and]
   exact pQ hp h1 9999
  unfold Instr.keyThatStays
  rw [show (10000:Nat)=9999+1 from rfl,hs]
  rfl
theorem km.set {es:List aG} {l:List MapEntry}:km ρ es l->∀ (i:Nat) {e:aG} {e':MapEntry},ER ρ e e'->km ρ (es.set i e) (l.set i e'):=by
 induction es generalizing l with
 | nil=>intro hl i e e' _;cases hl;rfl
 | cons x es ih =>
  intro hl i e e' he
  obtain ⟨x',l',rfl,h1,h2⟩:=hl
  cases i with
  | zero=>exact ⟨e',l',rfl,he,h2⟩
  | succ i=>exact ⟨x',l'.set i e',rfl,h1,ih h2 i he⟩
theorem km.eraseIdx {es:List aG} {l:List MapEntry}:km ρ es l->∀ (i:Nat),km ρ (es.eraseIdx i) (l.eraseIdx i):=by
 induction es generalizing l with
 | nil=>intro hl i;cases hl;rfl
 | cons x es ih =>
  intro hl i
  obtain ⟨x',l',rfl,h1,h2⟩:=hl
  cases i with
  | zero=>exact h2
  | succ i=>exact ⟨x',l'.eraseIdx i,rfl,h1,ih h2 i⟩
theorem km.snoc {es:List aG} {l:List MapEntry}:km ρ es l->∀ {e:aG} {e':MapEntry},ER ρ e e'->km ρ (es++[e]) (l++[e']):=by
 induction es generalizing l with
 | nil=>intro hl e e' he;cases hl;exact ⟨e',[],rfl,he,rfl⟩
 | cons x es ih =>
  intro hl e e' he
  obtain ⟨x',l',rfl,h1,h2⟩:=hl
  exact ⟨x',l'++[e'],rfl,h1,ih h2 he⟩
theorem KW {eq:AV->AV->Option Bool} {k v:AV}:∀ {es:List aG} {r:Option (List aG)},xz eq k v es=some r ->
  match r with
  | none=>gn eq k es=some none
  | some l=>∃ i e,es[i]?=some e/\k=e.key/\gn eq k es=some (some e.val)/\eq k e.key=some true/\(∀ j,j<i->∀ e,es[j]?=some e->eq k e.key=some false)/\l=es.set i ⟨k,v,e.born⟩:=by
 intro es
 induction es with
 | nil=>intro r hr;cases hr;rfl
 | cons e es ih =>
  intro r hr
  have hr:(Option.rec (motive:=fun _=>Option (Option (List aG))) none (fun b=>Bool.rec (motive:=fun _=>Option (Option (List aG)))
   (Option.rec (motive:=fun _=>Option (Option (List aG))) none (fun o=>Option.rec (motive:=fun _=>Option (Option (List aG))) (some none) (fun l=>some (some (e::l))) o) (xz eq k v es))
   (aV (AV.same k e.key) (some (some (aG.mk k v e.born::es)))) b) (eq k e.key):Option (Option (List aG)))=some r:=hr
  have hf:gn eq k (e::es)=(Option.rec (motive:=fun _=>Option (Option AV)) none (fun b=>Bool.rec (motive:=fun _=>Option (Option AV)) (gn eq k es) (some (some e.val)) b) (eq k e.key):Option (Option AV)):=rfl
  cases hq:eq k e.key with
  | none=>rw [hq] at hr;cases hr
  | some q =>
   rw [hq] at hr hf
   cases q with
   | true =>
    obtain ⟨h1,h2⟩:=aE.1 hr
    cases h2
    exact ⟨0,e,rfl,nU _ _ h1,hf,hq,fun j hj=>absurd hj (Nat.not_lt_zero _),rfl⟩
   | false =>
    cases hu:xz eq k v es with
    | none=>rw [hu] at hr;cases hr
    | some o =>
     rw [hu] at hr
     have:=ih hu
     cases o with
     | none=>cases hr;exact hf.trans this
     | some l =>
      cases hr
      obtain ⟨i,e1,h1,h2,h3,h4,h5,rfl⟩:=this
      refine ⟨i+1,e1,by simpa using h1,h2,hf.trans h3,h4,fun j hj e0 h0=>?_,rfl⟩
      cases j with
      | zero=>simp at h0;subst h0;exact hq
      | succ j=>exact h5 j (by omega) e0 (by simpa using h0)
theorem JJ {eq:AV->AV->Option Bool} {k:AV}:∀ {es l:List aG},wt eq k es=some l ->
  (gn eq k es=some none/\l=es)∨∃ i e,es[i]?=some e/\gn eq k es=some (some e.val)/\eq k e.key=some true/\(∀ j,j<i->∀ e,es[j]?=some e->eq k e.key=some false)/\l=es.eraseIdx i:=by
 intro es
 induction es with
 | nil=>intro l hl;cases hl;exact .inl ⟨rfl,rfl⟩
 | cons e es ih =>
  intro l hl
  have hl:(Option.rec (motive:=fun _=>Option (List aG)) none (fun b=>Bool.rec (motive:=fun _=>Option (List aG)) (Option.rec (motive:=fun _=>Option (List aG)) none (fun l=>some (e::l)) (wt eq k es)) (some es) b) (eq k e.key):Option (List aG))=some l:=hl
  have hf:gn eq k (e::es)=(Option.rec (motive:=fun _=>Option (Option AV)) none (fun b=>Bool.rec (motive:=fun _=>Option (Option AV)) (gn eq k es) (some (some e.val)) b) (eq k e.key):Option (Option AV)):=rfl
  cases hq:eq k e.key with
  | none=>rw [hq] at hl;cases hl
  | some q =>
   rw [hq] at hl hf
   cases q with
   | true=>cases hl;exact .inr ⟨0,e,rfl,hf,hq,fun j hj=>absurd hj (Nat.not_lt_zero _),rfl⟩
   | false =>
    cases hd:wt eq k es with
    | none=>rw [hd] at hl;cases hl
    | some l' =>
     rw [hd] at hl;cases hl
     rcases ih hd with ⟨h1,rfl⟩|⟨i,e1,h1,h3,h4,h5,rfl⟩
     ·exact .inl ⟨hf.trans h1,rfl⟩
     ·refine .inr ⟨i+1,e1,by simpa using h1,hf.trans h3,h4,fun j hj e0 h0=>?_,rfl⟩
      cases j with
      | zero=>simp at h0;subst h0;exact hq
      | succ j=>exact h5 j (by omega) e0 (by simpa using h0)
theorem yT {q:aG->Option Bool} {es:List aG} {i j:Nat} {e f:aG} (hi:es[i]?=some e) (hj:es[j]?=some f) (he:q e=some true) (hf:q f=some true)
  (bi:∀ k,k<i->∀ e,es[k]?=some e->q e=some false) (bj:∀ k,k<j->∀ e,es[k]?=some e->q e=some false):i=j:=by
 rcases Nat.lt_trichotomy i j with hlt | heq | hlt
 ·have:=bj i hlt e hi;rw [he] at this;cases this
 ·exact heq
 ·have:=bi j hlt f hj;rw [hf] at this;cases this
theorem HR.setMap (hr:HR P keep ρ h w) {bk:Nat} {es es':List aG} {c c':Nat} {l l':Array MapEntry} (hb:h.bs.gt bk=some (.map es c)) {p:Pl} (hp:ρ bk=some p) (h0:p.off=0) (hh:w.heap[p.blk]?=some (.map l c))
  (he:km ρ es' l'.toList):bv P keep ρ h w ρ (h.put bk (.map es' c')) {w with heap:=w.heap.setIfInBounds p.blk (.map l' c') }:=by
 have hlt:=(Array.getElem?_eq_some_iff.1 hh).1
 refine hr.write hb rfl rfl hp rfl rfl (by simp) (fun k hk=>?_) ⟨p,l',hp,h0,?_,he⟩
 ·show (w.heap.setIfInBounds p.blk _)[k]?=_
  rw [Array.getElem?_setIfInBounds,if_neg (fun e=>hk e.symm)]
 ·show (w.heap.setIfInBounds p.blk _)[p.blk]?=_
  rw [Array.getElem?_setIfInBounds,if_pos rfl,if_pos hlt]
theorem tW {α : Type} (a:Array α) (i:Nat) (f:α->α) {x:α} (h:a[i]?=some x):(a.modify i f).toList=a.toList.set i (f x):=by
 apply List.ext_getElem?
 intro j
 rw [Array.getElem?_toList,Array.getElem?_modify,List.getElem?_set]
 by_cases e:i=j
 ·subst e
  have hlt:i<a.toList.length:=by simpa using (Array.getElem?_eq_some_iff.1 h).1
  rw [if_pos rfl,if_pos rfl,if_pos hlt,h];rfl
 ·rw [if_neg e,if_neg e,Array.getElem?_toList]
theorem ww {α : Type} (a:Array α) (i:Nat):(a.eraseIdxIfInBounds i).toList=a.toList.eraseIdx i:=by
 unfold Array.eraseIdxIfInBounds
 split
 ·simp
 ·rename_i hn
  rw [List.eraseIdx_of_length_le (by simpa using hn)]
theorem nI {t:TypeId} {m k v:AV} {q:AV×ac} (hr:HR P keep ρ h w) (hq:gJ P t m k v h=some q) {a b c:Value} (hm:VR ρ m a) (hk:VR ρ k b) (hv:VR ρ v c) :
  q.1=aJ/\CF P keep w ρ h (Instr.mapUpdate t a b c) q.2:=by
 unfold gJ at hq
 cases hu:P.underlying t with
 | none=>rw [hu] at hq;cases hq
 | some d =>
  rw [hu] at hq
  cases d with
  | map kt e =>
   obtain ⟨hok,hq⟩:=aE.1 hq
   cases m with
   | map o =>
    cases o with
    | none=>cases hq
    | some bk =>
     obtain ⟨es,cl,hb,hq⟩:=fy hq
     obtain ⟨p,es',hp,h0,hh,he⟩:=hr.blk _ _ hb
     obtain ⟨p',hp',_,rfl⟩:=hm
     rw [hp] at hp';cases hp'
     cases hup:xz (bV P kt) k v es with
     | none=>rw [hup] at hq;cases hq
     | some o =>
      rw [hup] at hq
      have hs:=KW hup
      cases o with
      | none =>
       cases hq
       obtain ⟨o,g1,g2,_⟩:=dP (w:=w) hok hk hs he
       subst g2
       refine ⟨rfl,ρ,_,?_,hr.setMap (l':=es'.push ⟨b,c,cl⟩) (c':=cl+1) hb hp h0 hh ?_⟩
       ·simp only [Instr.mapUpdate,Sem.run_bind,run_underlying hu,Result.andThen_ok,fk hh,cn hok hk,g1,iw hh]
       ·rw [cj,Array.toList_push]
        exact he.snoc ⟨hk,hv,rfl⟩
      | some l =>
       cases hq
       obtain ⟨i,e1,h1,hke,h3,h4,h5,rfl⟩:=hs
       obtain ⟨o,g1,i',e2,e2',rfl,g3,g4,g5,g6,g7,g8⟩:=dP (w:=w) hok hk h3 he
       obtain rfl:i'=i:=yT (q:=fun e=>bV P kt k e.key) g3 h1 g7 h4 g8 h5
       rw [h1] at g3;cases g3
       have hget:es'[i']?=some e2':=by rw [← Array.getElem?_toList];exact g4
       have hkey:(Instr.keyThatStays e2'.key b).run P w=.ok b w:=JZ hok (by rw [hke];exact g6.1) hk
       refine ⟨rfl,ρ,_,?_,hr.setMap (l':=es'.modify i' fun e=>{e with key:=b,val:=c }) (c':=cl) hb hp h0 hh ?_⟩
       ·simp only [Instr.mapUpdate,Sem.run_bind,run_underlying hu,Result.andThen_ok,fk hh,cn hok hk,g1,hget,Option.map_some,Option.getD_some,hkey,iw hh]
       ·rw [tW _ _ _ hget]
        exact he.set i' ⟨hk,hv,g6.2.2⟩
   | _=>cases hq
  | _=>cases hq
theorem wN {t ty:TypeId} {ts:Array TypeId} {m k:AV} {q:AV×ac} (ht:ts[0]?=some t) (hr:HR P keep ρ h w) (hq:mJ P t m k h=some q) {a b:Value} (hm:VR ρ m a) (hk:VR ρ k b) :
  ve P keep w ρ h (Builtin.delete_ ts ty #[a,b]) q.1 q.2:=by
 unfold mJ at hq
 cases hu:P.underlying t with
 | none=>rw [hu] at hq;cases hq
 | some d =>
  rw [hu] at hq
  cases d with
  | map kt e =>
   obtain ⟨hok,hq⟩:=aE.1 hq
   cases m with
   | map o =>
    cases o with
    | none =>
     cases hq;cases hm
     refine ⟨ρ,_,w,?_,VR.undef ρ,bv.refl hr⟩
     simp only [Builtin.delete_,ht,List.getElem?_toArray,List.getElem?_cons_zero,List.getElem?_cons_succ,Sem.run_bind,run_underlying hu,Result.andThen_ok,cn hok hk,Sem.run_pure]
     rfl
    | some bk =>
     obtain ⟨es,cl,hb,hq⟩:=fy hq
     obtain ⟨p,es',hp,h0,hh,he⟩:=hr.blk _ _ hb
     obtain ⟨p',hp',_,rfl⟩:=hm
     rw [hp] at hp';cases hp'
     cases hd:wt (bV P kt) k es with
     | none=>rw [hd] at hq;cases hq
     | some l =>
      rw [hd] at hq;cases hq
      rcases JJ hd with ⟨hs,rfl⟩|⟨i,e1,h1,h3,h4,h5,rfl⟩
      ·obtain ⟨o,g1,g2,_⟩:=dP (w:=w) hok hk hs he
       subst g2
       refine ⟨ρ,_,_,?_,VR.undef ρ,hr.setMap (l':=es') (c':=cl) hb hp h0 hh he⟩
       simp only [Builtin.delete_,ht,List.getElem?_toArray,List.getElem?_cons_zero,List.getElem?_cons_succ,Sem.run_bind,run_underlying hu,Result.andThen_ok,fk hh,cn hok hk,g1,iw hh,Sem.run_pure]
       rfl
      ·obtain ⟨o,g1,i',e2,e2',rfl,g3,g4,g5,g6,g7,g8⟩:=dP (w:=w) hok hk h3 he
       obtain rfl:i'=i:=yT (q:=fun e=>bV P kt k e.key) g3 h1 g7 h4 g8 h5
       refine ⟨ρ,_,_,?_,VR.undef ρ,hr.setMap (l':=es'.eraseIdxIfInBounds i') (c':=cl) hb hp h0 hh ?_⟩
       ·simp only [Builtin.delete_,ht,List.getElem?_toArray,List.getElem?_cons_zero,List.getElem?_cons_succ,Sem.run_bind,run_underlying hu,Result.andThen_ok,fk hh,cn hok hk,g1,iw hh,Sem.run_pure]
        rfl
       ·rw [ww];exact he.eraseIdx i'
   | _=>cases hq
  | _=>cases hq
theorem ii {id:Nat} (hid:h.next<=id) (x:cX):h.new id x=⟨h.bs.up (some x) id,id+1⟩:=by
 unfold ac.new
 rw [Nat.ble_eq_true_of_le hid]
theorem wY {t:TypeId} {x:AV} {id:Nat} {q:AV×ac} (hid:h.next<=id) (hr:HR P keep ρ h w) (hq:BQ P t x id h=some q) {a:Value} (hx:VR ρ x a):ve P keep w ρ h (Instr.range t a) q.1 q.2:=by
 unfold BQ at hq
 split at hq
 ·rename_i _ s hu
  cases hq
  obtain ⟨sb,rfl,hs⟩:=hx
  refine ⟨ρ.up id ⟨w.heap.size,0,0⟩,_,_,run_range_string w t sb hu,⟨_,aL.up_same _ _ _,rfl⟩,?_⟩
  rw [ii hid]
  refine hr.push (o:=.stringIter sb 0) hid (by omega) rfl rfl rfl ⟨_,sb,aL.up_same _ _ _,rfl,?_,hs⟩
  show (w.heap.push _)[w.heap.size]?=_
  simp
 ·cases hq
theorem zt {ty:TypeId} {it:AV} {q:AV×ac} (hr:HR P keep ρ h w) (hq:SN it h=some q) {a:Value} (hx:VR ρ it a):ve P keep w ρ h (Instr.next a true ty) q.1 q.2:=by
 unfold SN at hq
 split at hq
 ·rename_i b
  obtain ⟨s,pos,hb,hq⟩:=xw hq
  obtain ⟨p,sb,hp,h0,hh,hs⟩:=hr.blk _ _ hb
  obtain ⟨p',hp',rfl⟩:=hx
  rw [hp] at hp';cases hp'
  rw [h0]
  have hlen:sb.size=s.length:=by rw [iB,hs]
  have hlt:=(Array.getElem?_eq_some_iff.1 hh).1
  cases hc:s[pos]? with
  | none =>
   rw [hc] at hq;cases hq
   have hge:s.length<=pos:=List.getElem?_eq_none_iff.1 hc
   exact ⟨ρ,_,w,Lib.run_next_end_at w p.blk sb pos ty hh (by omega),⟨_,rfl,.bool false,[],rfl,rfl,rfl⟩,bv.refl hr⟩
  | some c =>
   rw [hc] at hq
   simp only at hq
   by_cases h128:c<128
   ·rw [if_pos h128] at hq
    cases hq
    have hpos:pos<sb.size:=by rw [hlen];exact (List.getElem?_eq_some_iff.1 hc).1
    have hcv:(sb[pos]'hpos).toNat=c:=by
     rw [← hs] at hc
     simp only [List.getElem?_map,Option.map_eq_some_iff] at hc
     obtain ⟨u,h1,h2⟩:=hc
     rw [Array.getElem?_toList] at h1
     have h3:sb.data[pos]?=some (sb[pos]'hpos):=Array.getElem?_eq_getElem hpos
     rw [h1] at h3;cases h3;exact h2
    refine ⟨ρ,_,_,Lib.run_next_ascii_at w p.blk sb pos ty hh hpos (by omega),?_,?_⟩
    ·exact ⟨_,rfl,_,_,rfl,rfl,_,_,rfl,rfl,_,_,rfl,by rw [hcv];rfl,rfl⟩
    ·refine hr.write hb rfl rfl hp rfl rfl ?_ (fun k hk=>?_) ⟨p,sb,hp,h0,Lib.iterAt_heap w _ sb pos _ hh,hs⟩
     ·simp [World.iterAt]
     ·simp only [World.iterAt]
      rw [Array.getElem?_setIfInBounds,if_neg (fun e=>hk e.symm)]
   ·rw [if_neg h128] at hq;cases hq
 ·cases hq
end
end Go.Am
namespace Go.Am
section
variable {P:Program} {keep:aK} {w:World} {ρ : aL} {h:ac}
theorem Jz {w w2:World} (hw:w2.heap=w.heap) (a:Addr):w2.cell? a=w.cell? a:=by simp only [World.cell?,hw]
theorem pY {size:Nat} {cut:Nat->Nat} {x:AV} {r:List AV×Nat} (hr:HR P keep ρ h w) (hq:cI size cut x h=some r) {a:Value} (hx:VR ρ x a) (hcut:∀ n,cut n<=n) :
  ∃ n cs,(Builtin.lenOf a).run P w=.ok n w/\r.2=cut n/\(∀ w2:World,w2.heap=w.heap->(Builtin.firstCells size (cut n) a).run P w2=.ok cs w2)/\bH ρ r.1 cs.toList:=by
 cases x with
 | str l =>
  cases hq
  obtain ⟨sb,rfl,hs⟩:=hx
  have hlen:bp l=sb.size:=by rw [aO,iB,hs]
  refine ⟨sb.size,_,rfl,by rw [hlen],fun _ _=>rfl,?_⟩
  have:=qV (ρ:=ρ) (sb.extract 0 (cut sb.size))
  rw [ki,hs] at this
  rw [eG,hlen]
  simpa using this
 | slice o n c g =>
  cases o with
  | none =>
   cases hq
   obtain ⟨rfl,_,_,rfl⟩:=hx
   refine ⟨0,#[],rfl,?_,fun _ _=>rfl,rfl⟩
   have:=hcut 0
   show 0=cut 0
   omega
  | some p0 =>
   obtain ⟨bk,off⟩:=p0
   have hq:(Bool.rec (motive:=fun _=>Option (List AV×Nat)) (Option.rec (motive:=fun _=>Option (List AV×Nat)) none (fun vs=>some (vs,cut n)) (h.ld bk off (cut n*size))) (some ([],0)) (Nat.beq n 0):Option (List AV×Nat))=some r:=hq
   by_cases n0:n=0
   ·subst n0
    cases hq
    obtain ⟨p',a',c',hp',rfl,_⟩:=hx
    have h0:cut 0=0:=by have:=hcut 0;omega
    refine ⟨0,#[],rfl,h0.symm,fun _ _=>?_,rfl⟩
    simp only [Builtin.firstCells,h0,Nat.zero_mul];rfl
   rw [show Nat.beq n 0=false from by cases n with | zero=>exact absurd rfl n0 | succ n=>rfl] at hq
   have hq:(Option.rec (motive:=fun _=>Option (List AV×Nat)) none (fun vs=>some (vs,cut n)) (h.ld bk off (cut n*size)):Option (List AV×Nat))=some r:=hq
   cases hl:h.ld bk off (cut n*size) with
   | none=>rw [hl] at hq;cases hq
   | some vs =>
    rw [hl] at hq;cases hq
    obtain ⟨p,cs,hp,hvs,hn,_,hc⟩:=hr.ld hl
    obtain ⟨p',a',c',hp',rfl,hle,_,_,_,ha⟩:=hx
    rw [hp] at hp';cases hp'
    refine ⟨n,cs.toArray,rfl,rfl,fun w2 hw=>?_,by simpa using hvs⟩
    by_cases hc0:c'=0
    ·obtain rfl:n=0:=by omega
     have h0:cut 0=0:=by have:=hcut 0;omega
     rw [h0,Nat.zero_mul] at hn
     have:cs=[]:=List.length_eq_zero_iff.1 hn
     subst this
     simp only [Builtin.firstCells,h0,Nat.zero_mul];rfl
    ·rw [ha hc0]
     exact gz hn (fun j u hj=>by rw [cY,Jz hw];exact hc j u hj)
 | _=>cases hq
theorem qA (a b:Nat):jq a b=Nat.min a b:=by
 unfold jq
 by_cases h:a<=b
 ·rw [Nat.ble_eq_true_of_le h];exact (Nat.min_eq_left h).symm
 ·have:Nat.ble a b=false:=by cases hb:Nat.ble a b with
   | false=>rfl
   | true=>exact absurd (Nat.le_of_ble_eq_true hb) h
  rw [this];show b=Nat.min a b;exact (Nat.min_eq_right (by omega)).symm
theorem yI {t ty:TypeId} {ts:Array TypeId} {d x:AV} {q:AV×ac} (ht:ts[0]?=some t) (hr:HR P keep ρ h w) (hq:kI P t d x h=some q) {a b:Value} (hd:VR ρ d a) (hx:VR ρ x b) :
  ve P keep w ρ h (Builtin.copy_ ts ty #[a,b]) q.1 q.2:=by
 unfold kI at hq
 cases hu:P.underlying t with
 | none=>rw [hu] at hq;cases hq
 | some de =>
  rw [hu] at hq
  cases de with
  | slice e =>
   cases hs:aC P e with
   | none=>simp only [hs] at hq;cases hq
   | some size =>
    simp only [hs] at hq
    obtain ⟨o,len,c,g,e0,hq0⟩:=et hq
    subst e0
    replace hq:=hq0
    cases hsrc:cI size (fun n=>jq n len) x h with
    | none=>rw [hsrc] at hq;cases hq
    | some src =>
     rw [hsrc] at hq
     obtain ⟨n,cs,g1,g2,g3,g4⟩:=pY hr hsrc hx (fun n=>by rw [qA];exact Nat.min_le_left _ _)
     replace g3:=g3 w rfl
     simp only [qA] at g2 g3
     cases o with
     | none =>
      cases hq
      obtain ⟨rfl,_,_,rfl⟩:=hd
      refine ⟨ρ,_,w,?_,by rw [g2];exact rfl,bv.refl hr⟩
      simp only [Builtin.copy_,ht,List.getElem?_toArray,List.getElem?_cons_zero,List.getElem?_cons_succ,Sem.run_bind,run_underlying hu,Result.andThen_ok,g1,bz hs,g3,Sem.run_pure]
      rfl
     | some p0 =>
      obtain ⟨bk,off⟩:=p0
      obtain ⟨h',hst,rfl⟩:=oZ hq
      obtain ⟨p,w',hp,hrun,hpost⟩:=hr.sto hst g4
      obtain ⟨p',a',c',hp',rfl,hle,_,_,_,ha⟩:=hd
      rw [hp] at hp';cases hp'
      have hlen:=g4.length
      by_cases hc0:c'=0
      ·obtain rfl:len=0:=by omega
       have hn0:Nat.min n 0=0:=Nat.min_eq_right (Nat.zero_le _)
       
       have hcs:cs.toList=[]:=by
        rw [hn0] at g3
        have hsz:src.1=[]:=by
         cases x with
         | str l =>
          cases hsrc
          show kz (gC (jq (bp l) 0) l)=[]
          rw [qA,show Nat.min (bp l) 0=0 from Nat.min_eq_right (Nat.zero_le _)];rfl
         | slice o n c g =>
          cases o with
          | none=>cases hsrc;rfl
          | some p1 =>
           have hsrc:(Bool.rec (motive:=fun _=>Option (List AV×Nat)) (Option.rec (motive:=fun _=>Option (List AV×Nat)) none (fun vs=>some (vs,jq n 0)) (h.ld p1.1 p1.2 (jq n 0*size))) (some ([],0)) (Nat.beq n 0):Option (List AV×Nat))=some src:=hsrc
           by_cases n0:n=0
           ·subst n0;cases hsrc;rfl
           rw [show Nat.beq n 0=false from by cases n with | zero=>exact absurd rfl n0 | succ n=>rfl] at hsrc
           have hsrc:(Option.rec (motive:=fun _=>Option (List AV×Nat)) none (fun vs=>some (vs,jq n 0)) (h.ld p1.1 p1.2 (jq n 0*size)):Option (List AV×Nat))=some src:=hsrc
           cases hl:h.ld p1.1 p1.2 (jq n 0*size) with
           | none=>rw [hl] at hsrc;cases hsrc
           | some vs =>
            rw [hl] at hsrc;cases hsrc
            obtain ⟨_,_,_,_,_,_,hv,_⟩:=lT hl
            rw [qA,show Nat.min n 0=0 from Nat.min_eq_right (Nat.zero_le _),Nat.zero_mul] at hv
            exact List.length_eq_zero_iff.1 hv
         | _=>cases hsrc
        rw [hsz] at hlen
        exact List.length_eq_zero_iff.1 hlen.symm
       rw [hcs] at hrun
       cases hrun
       refine ⟨ρ,_,w,?_,by rw [g2];exact rfl,hpost⟩
       simp only [Builtin.copy_,ht,List.getElem?_toArray,List.getElem?_cons_zero,List.getElem?_cons_succ,Sem.run_bind,run_underlying hu,Result.andThen_ok,g1,bz hs,g3,hcs,Sem.run_pure]
       rfl
      ·rw [ha hc0]
       refine ⟨ρ,_,w',?_,by rw [g2];exact rfl,hpost⟩
       simp only [Builtin.copy_,ht,List.getElem?_toArray,List.getElem?_cons_zero,List.getElem?_cons_succ,Sem.run_bind,run_underlying hu,Result.andThen_ok,g1,bz hs,g3,hrun,Sem.run_pure]
       rfl
  | _=>cases hq
theorem ul {zs:List AV} {za:Array Value} (hz:bH ρ zs za.toList) (len:Nat):bH ρ (List.replicate len zs).flatten (Builtin.zeroCells za len).toList:=by
 have hl:za.size=zs.length:=by have:=hz.length;simpa using this.symm
 have:=u9 hz len
 unfold Builtin.zeroCells
 rw [hl]
 rw [hl] at this
 simpa using this
theorem wi {t ty:TypeId} {ts:Array TypeId} {d:AV} {q:AV×ac} (ht:ts[0]?=some t) (hr:HR P keep ρ h w) (hq:oA P t d h=some q) {a:Value} (hd:VR ρ d a) :
  ve P keep w ρ h (Builtin.clear_ ts ty #[a]) q.1 q.2:=by
 unfold oA at hq
 cases hu:P.underlying t with
 | none=>rw [hu] at hq;cases hq
 | some de =>
  rw [hu] at hq
  cases de with
  | slice e =>
   cases hz:cd P e with
   | none=>simp only [hz] at hq;cases hq
   | some z =>
    simp only [hz] at hq
    obtain ⟨o,len,c,g,e0,hq0⟩:=et hq
    subst e0
    replace hq:=hq0
    obtain ⟨zv,rz,vz⟩:=gX (w:=w) (ρ:=ρ) hz
    cases o with
    | none =>
     cases hq
     obtain ⟨rfl,_,_,rfl⟩:=hd
     refine ⟨ρ,_,w,?_,VR.undef ρ,bv.refl hr⟩
     simp only [Builtin.clear_,ht,List.getElem?_toArray,List.getElem?_cons_zero,Sem.run_bind,run_underlying hu,Result.andThen_ok,Sem.run_pure]
     rfl
    | some p0 =>
     obtain ⟨bk,off⟩:=p0
     obtain ⟨h',hst,rfl⟩:=oZ hq
     rw [nP] at hst
     obtain ⟨p,w',hp,hrun,hpost⟩:=hr.sto hst (ul vz.cells len)
     obtain ⟨p',a',c',hp',rfl,hle,_,_,_,ha⟩:=hd
     rw [hp] at hp';cases hp'
     cases len with
     | zero =>
      have h0:(Builtin.zeroCells zv.cells 0).toList=[]:=by simp [Builtin.zeroCells]
      rw [h0] at hrun;cases hrun
      refine ⟨ρ,_,w,?_,VR.undef ρ,hpost⟩
      simp only [Builtin.clear_,ht,List.getElem?_toArray,List.getElem?_cons_zero,Sem.run_bind,run_underlying hu,Result.andThen_ok,Sem.run_pure]
      rfl
     | succ n =>
      have hc0:c'≠0:=by omega
      rw [ha hc0]
      refine ⟨ρ,_,w',?_,VR.undef ρ,hpost⟩
      simp only [Builtin.clear_,ht,List.getElem?_toArray,List.getElem?_cons_zero,Sem.run_bind,run_underlying hu,Result.andThen_ok,rz,hrun,Sem.run_pure]
      rfl
  | map kt e =>
   cases d with
   | map o =>
    cases o with
    | none =>
     cases hq;cases hd
     refine ⟨ρ,_,w,?_,VR.undef ρ,bv.refl hr⟩
     simp only [Builtin.clear_,ht,List.getElem?_toArray,List.getElem?_cons_zero,Sem.run_bind,run_underlying hu,Result.andThen_ok,Sem.run_pure]
     rfl
    | some bk =>
     obtain ⟨es,cl,hb,hq⟩:=fy hq
     cases hq
     obtain ⟨p,es',hp,h0,hh,he⟩:=hr.blk _ _ hb
     obtain ⟨p',hp',_,rfl⟩:=hd
     rw [hp] at hp';cases hp'
     refine ⟨ρ,_,_,?_,VR.undef ρ,hr.setMap (l':=#[]) (c':=cl) hb hp h0 hh rfl⟩
     simp only [Builtin.clear_,ht,List.getElem?_toArray,List.getElem?_cons_zero,Sem.run_bind,run_underlying hu,Result.andThen_ok,fk hh,iw hh,Sem.run_pure]
     rfl
   | _=>cases hq
  | _=>cases hq
end
end Go.Am
namespace Go.Am
section
variable {P:Program} {keep:aK} {w:World} {ρ : aL} {h:ac}
theorem HR.kill (hr:HR P keep ρ h w) {b:Nat} {x:cX} (hb:h.bs.gt b=some x):bv P keep ρ h w ρ (h.put b .dead) w:=by
 refine ⟨aL.le_refl _,⟨hr.dom,fun c z hz=>?_,fun c z hz=>?_,fun c c' z z' q q' hz hz' hd hd' hrw hq hq' hne=>?_⟩,⟨rfl,rfl,Nat.le_refl _,fun _ _ _=>rfl⟩,fun k _ ho=>?_,Nat.le_refl _,fun _ _ h _=>h,fun k _ ho=>?_⟩
 ·rw [bA] at hz
  by_cases e:c=b
  ·subst e;exact hr.has _ _ hb
  ·rw [if_neg e] at hz;exact hr.has _ _ hz
 ·rw [bA] at hz
  by_cases e:c=b
  ·rw [if_pos e] at hz;cases hz;trivial
  ·rw [if_neg e] at hz;exact hr.blk _ _ hz
 ·rw [bA] at hz hz'
  by_cases e:c=b
  ·rw [if_pos e] at hz;cases hz;cases hd
  ·by_cases e':c'=b
   ·rw [if_pos e'] at hz';cases hz';cases hd'
   ·rw [if_neg e] at hz;rw [if_neg e'] at hz'
    exact hr.inj c c' z z' q q' hz hz' hd hd' hrw hq hq' hne
 ·obtain ⟨c,z,q,hz,hzr,hq,rfl⟩:=ho
  rw [bA] at hz
  by_cases e:c=b
  ·rw [if_pos e] at hz;cases hz;cases hzr
  ·rw [if_neg e] at hz;exact ⟨c,z,q,hz,hzr,hq,rfl⟩
 ·obtain ⟨c,z,q,hz,hzr,hq,rfl⟩:=ho
  rw [bA] at hz
  by_cases e:c=b
  ·rw [if_pos e] at hz;cases hz;cases hzr
  ·rw [if_neg e] at hz;exact ⟨c,z,q,hz,hzr,hq,rfl⟩
def Ud (ρ : aL) (y:cX) (N:Nat) (row:Array Value) (o:Nat):Prop :=
 ∃ t z,y=.cells t z N false/\∀ i,i<N->∃ v cv,aR t z i=some v/\v.one=true/\row[o+i]?=some cv/\VR ρ v cv
def qH (y:cX) (e:TypeId):Prop:=∀ t z n ro,y=.cells t z n ro->∀ k x,z=ay k x->e=k/\x=false
theorem qH.ok {t:Tr AV} {z:List AV} {n:Nat} {ro:Bool} {e:TypeId} {p:Pl} (h:qH (.cells t z n ro) e):qL z n p e:=fun k x hz=>by
 obtain ⟨a,b⟩:=h _ _ _ _ rfl k x hz
 exact ⟨a,fun hx=>by rw [b] at hx;cases hx⟩
theorem Cj {k k':Nat} {x x':Bool} (h:ay k x=ay k' x'):k=k'/\x=x':=by
 simp only [ay,List.cons.injEq,AV.tuple.injEq,AV.int.injEq,AV.bool.injEq,and_true,true_and] at h
 exact ⟨Int.ofNat_inj.1 h.1,h.2⟩
theorem uo {t:Tr AV} {n:Nat} {ro:Bool} {e:TypeId}:qH (.cells t (ay e false) n ro) e:=fun t' z n' ro' h k x hz=>by
 cases h
 obtain ⟨a,b⟩:=Cj hz
 exact ⟨a,b.symm⟩
theorem Bs {e k:Nat} {x:Bool} (h:rG e (ay k x)=true):e=k/\x=false:=by
 have h:(Bool.rec (motive:=fun _=>Bool) (Nat.beq k e) false x:Bool)=true:=h
 cases x with
 | true=>cases h
 | false=>exact ⟨(Nat.eq_of_beq_eq_true h).symm,rfl⟩
theorem mW {z:List AV} {k:Nat} {x:Bool} (h:qe z=ay k x):z=ay k x:=by
 unfold qe at h
 cases hm:ic z with
 | none=>rw [hm] at h;cases h
 | some p=>rw [hm] at h;exact h
theorem Ud.of {cs z:List AV} {cvs:List Value} {row:Array Value} {o:Nat} (hv:bH ρ cs cvs) (hone:bO cs=true) (hrow:∀ i,i<cs.length->row[o+i]?=cvs[i]?):Ud ρ (.cells (az cs .leaf 0) z (bp cs) false) cs.length row o:=by
 rw [aO]
 rw [bI,List.all_eq_true] at hone
 refine ⟨_,_,rfl,fun i hi=>?_⟩
 obtain ⟨u,h1,h2⟩:=hv.get i cs[i] (List.getElem?_eq_getElem hi)
 refine ⟨cs[i],u,?_,hone _ (List.getElem_mem hi),by rw [hrow i hi,h1],h2⟩
 unfold aR
 rw [cr,if_pos (by omega),Nat.sub_zero,List.getElem?_eq_getElem hi]
theorem vl (hr:HR P keep ρ h w) {id:Nat} (hid:h.next<=id) {y:cX} {N:Nat} {row:Array Value} {e:TypeId} (hy:Ud ρ y N row 0) (hmk:qH y e) {need cap size:Nat} (hneed:need<=cap) (hN:N<=row.size) (hsz:row.size=cap*size) :
  bv P keep ρ h w (ρ.up id ⟨w.heap.size,0,cap*size⟩) (h.new id y) (w.drew.alloc (.cells row e)) /\
   VR (ρ.up id ⟨w.heap.size,0,cap*size⟩) (.slice (some (id,0)) need need (some size)) (.slice (some ⟨w.heap.size,0,none⟩) need cap):=by
 have f1:=(hr.fresh hid).1
 refine ⟨?_,⟨_,_,_,aL.up_same _ _ _,rfl,hneed,hneed,(fun e=>by cases e),(fun es e=>by cases e;simp),fun _=>by simp⟩⟩
 rw [ii hid]
 obtain ⟨t,z,rfl,hv⟩:=hy
 refine hr.push (w':=w.drew.alloc (.cells row e)) (o:=.cells row e) hid (by omega) rfl rfl rfl ?_
 refine ⟨_,row,e,(0,0),aL.up_same _ _ _,?_,hsz,by simp only [Nat.zero_add];omega,fun i hi=>?_,fun _ i _ hh=>by simp at hh,hmk.ok⟩
 ·show (w.heap.push _)[w.heap.size]?=_
  simp
 ·obtain ⟨v,cv,h1,h2,h3,h4⟩:=hv i hi
  exact ⟨v,cv,h1,h2,h3,h4.mono (aL.le_up f1)⟩
theorem i9 {t u e ty:TypeId} {ts:Array TypeId} {d:TypeDesc} {size:Nat} (ht:ts[0]?=some t) (hu:P.underlying t=some (.slice e)) (hs:aC P e=some size) (ht1:ts[1]?=some u) (hu1:P.underlying u=some d) (hint:∀ k,d≠.int k)
  {base:Option Addr} {sLen sCap n:Nat} {x:Value} {cs:Array Value} (hx:(Builtin.lenOf x).run P w=.ok n w) (hc:(Builtin.firstCells size n x).run P w=.ok cs w) (hle:sLen+n<=sCap)
  {w':World} (hst:match base with | some a=>(storeCells (a.add (sLen*size)) cs.toList).run P w=.ok () w' | none=>w'=w) :
  (Builtin.append_ ts ty #[.slice base sLen sCap,x]).run P w=.ok (.slice base (sLen+n) sCap) w':=by
 simp only [Builtin.append_,ht,ht1,List.getElem?_toArray,List.getElem?_cons_zero,List.getElem?_cons_succ,Sem.run_bind,run_underlying hu,run_underlying hu1,Result.andThen_ok,bz hs,Sem.run_pure]
 simp only [Bool.false_eq_true,if_false,Bool.not_false,if_true,hx,Result.andThen_ok,if_pos hle,Sem.run_bind,hc]
 cases base with
 | none=>simp only at hst;subst hst;rfl
 | some a=>simp only [Sem.run_bind,hst,Result.andThen_ok,Sem.run_pure]
theorem sO {t u e ty:TypeId} {ts:Array TypeId} {d:TypeDesc} {i:TypeInfo} {z:Value} (ht:ts[0]?=some t) (hu:P.underlying t=some (.slice e)) (hi:P.info? e=some i) (hz0:i.zero=some z) (ht1:ts[1]?=some u) (hu1:P.underlying u=some d) (hint:∀ k,d≠.int k)
  {base:Option Addr} {sLen sCap n:Nat} {x:Value} {co cs:Array Value} (hx:(Builtin.lenOf x).run P w=.ok n w) (hc:(Builtin.firstCells i.size n x).run P w.drew=.ok cs w.drew) (ho:(Builtin.firstCells i.size sLen (.slice base sLen sCap)).run P w.drew=.ok co w.drew)
  (hle:¬sLen+n<=sCap) (h63:((sLen+n:Nat):Int)<=9223372036854775807) (hfit:Builtin.nextslicecap (sLen+n) sCap*i.bytes<=281474976710656) :
  (Builtin.append_ ts ty #[.slice base sLen sCap,x]).run P w =
   .ok (.slice (some ⟨w.heap.size,0,none⟩) (sLen+n) (grownCap w (sLen+n) sCap e)) (w.drew.alloc (.cells (co++cs++Builtin.zeroCells z.cells (grownCap w (sLen+n) sCap e - (sLen+n))) e)):=by
 have h63':¬(9223372036854775807<((sLen:Int)+(n:Int))):=by omega
 have h48':¬(281474976710656<Builtin.nextslicecap (sLen+n) sCap*i.bytes):=by omega
 simp [Builtin.append_,ht,ht1,run_underlying hu,run_underlying hu1,sizeOf,typeInfo,zeroValue,hi,hz0,hx,hle,h63',h48',Question.forced,ho,hc,newRow,grownCap]
theorem iL {need old:Nat} {e:TypeId} (h:old<need):need<=grownCap w need old e:=by
 unfold grownCap
 simp only [Question.cut]
 have:=le_nextslicecap h
 omega
theorem kw {size need id:Nat} {cs z:List AV} {q:AV×ac} (hq:dT size need z id h cs=some q):bO cs=true/\q=(.slice (some (id,0)) need need (some size),h.new id (.cells (az cs .leaf 0) z (bp cs) false)):=by
 obtain ⟨h1,h2⟩:=aE.1 hq
 cases h2;exact ⟨h1,rfl⟩
def Ay (y:cX) (tr:Tr AV) (z:List AV) (off L:Nat) (vs:List AV):Prop :=
 ∃ t' z',y=.cells t' z' (L+vs.length) false/\(∀ i,i<L->aR t' z' i=aR tr z (off+i))/\∀ i,i<vs.length->aR t' z' (L+i)=vs[i]?
theorem Ay.row {tr:Tr AV} {z:List AV} {off L m:Nat} {vs old z0:List AV} {ro:Bool} {bk:Nat} (hl:h.ld bk off L=some old) (hb:h.bs.gt bk=some (.cells tr z m ro)):off+L<=m/\old.length=L/\Ay (.cells (az (old++vs) .leaf 0) z0 (bp (old++vs)) false) tr z off L vs:=by
 obtain ⟨tr',z',m',ro',hb',hle,hlen,hv⟩:=lT hl
 rw [hb] at hb';cases hb'
 refine ⟨hle,hlen,?_⟩
 rw [aO]
 refine ⟨az (old++vs) .leaf 0,z0,by rw [List.length_append,hlen],fun i hi=>?_,fun i hi=>?_⟩
 ·rw [hv i hi]
  have hget:(old++vs)[i]?=some old[i]:=by rw [List.getElem?_append_left (by omega)];exact List.getElem?_eq_getElem (by omega)
  unfold aR
  rw [cr,if_pos (by simp only [List.length_append];omega),Nat.sub_zero,hget,List.getElem?_eq_getElem (show i<old.length by omega)]
 ·have hget:(old++vs)[L+i]?=some vs[i]:=by rw [List.getElem?_append_right (by omega),hlen,Nat.add_sub_cancel_left];exact List.getElem?_eq_getElem hi
  unfold aR
  rw [cr,if_pos (by simp only [List.length_append];omega),Nat.sub_zero,hget,List.getElem?_eq_getElem hi]
theorem vk {size need e off len n bk id:Nat} {vs:List AV} {q:AV×ac} (hq:fG size need e off len n vs bk id h=some q) (hn:vs.length=n*size) :
  ∃ tr z m y,h.bs.gt bk=some (.cells tr z m false)/\bO vs=true/\off+len*size<=m/\Ay y tr z off (len*size) vs/\qH y e/\(∀ e0,(∀ k x,z=ay k x->e0=k)->qH y e0)/\q=(.slice (some (id,0)) need need (some size),(h.put bk .dead).new id y):=by
 obtain ⟨tr,z,m,ro,hb,hq1⟩:=df hq
 obtain ⟨h1,hq2⟩:=aE.1 hq1
 clear hq hq1
 simp only [ax,iM,Bool.and_eq_true,Bool.not_eq_true'] at h1
 obtain ⟨⟨rfl,hone⟩,hfit⟩:=h1
 have hfz:∀ k x,z=ay k x->e=k/\x=false:=fun k x hz=>by subst hz;exact Bs hfit
 refine ⟨tr,z,m,?_⟩
 cases hc:bT (Nat.beq off 0) (Nat.beq (len*size) m) with
 | true =>
  have hq:(Bool.rec (motive:=fun _=>Option (AV×ac)) _ (some (.slice (some (id,0)) need need (some size),(h.put bk .dead).new id (.cells (az vs tr m) z (m+n*size) false))) (bT (Nat.beq off 0) (Nat.beq (len*size) m)):Option (AV×ac))=some q:=hq2
  rw [hc] at hq
  simp only [ax,Bool.and_eq_true] at hc
  obtain ⟨h0,hm⟩:=hc
  obtain rfl:=Nat.eq_of_beq_eq_true h0
  have hm:=Nat.eq_of_beq_eq_true hm
  cases hq
  refine ⟨_,hb,hone,by omega,⟨_,_,by rw [hm,hn],fun i hi=>?_,fun i hi=>?_⟩,fun t z' n' ro' hy k x hz=>?_,fun e0 h0 t z' n' ro' hy k x hz=>?_,rfl⟩
  ·unfold aR
   rw [cr,if_neg (by omega),Nat.zero_add]
  ·unfold aR
   rw [cr,if_pos (by omega),show len*size+i - m=i by omega,List.getElem?_eq_getElem hi]
  ·cases hy;exact hfz k x hz
  ·cases hy;exact ⟨h0 k x hz,(hfz k x hz).2⟩
 | false =>
  have hq:(Bool.rec (motive:=fun _=>Option (AV×ac)) (Option.rec (motive:=fun _=>Option (AV×ac)) none (fun old=>dT size need (qe z) id (h.put bk .dead) (dS old vs)) (h.ld bk off (len*size))) _ (bT (Nat.beq off 0) (Nat.beq (len*size) m)):Option (AV×ac))=some q:=hq2
  rw [hc] at hq
  cases hl:h.ld bk off (len*size) with
  | none=>rw [hl] at hq;cases hq
  | some old =>
   rw [hl] at hq
   obtain ⟨_,rfl⟩:=kw hq
   obtain ⟨h2,h3,h4⟩:=Ay.row (vs:=vs) (z0:=qe z) hl hb
   refine ⟨_,hb,hone,h2,h4,fun t z' n' ro' hy k x hz=>?_,fun e0 h0 t z' n' ro' hy k x hz=>?_,by rw [cj]⟩
   ·cases hy;exact hfz k x (mW hz)
   ·cases hy;exact ⟨h0 k x (mW hz),(hfz k x (mW hz)).2⟩
theorem Ay.lies (hr:HR P keep ρ h w) {y:cX} {tr:Tr AV} {z:List AV} {off L m bk:Nat} {vs:List AV} {cvs:List Value} {ro:Bool} (hy:Ay y tr z off L vs) (hb:h.bs.gt bk=some (.cells tr z m ro)) (hle:off+L<=m)
  (hv:bH ρ vs cvs) (hone:bO vs=true) {p:Pl} (hp:ρ bk=some p) {row:Array Value} {o:Nat} (hold:∀ i u,i<L->w.cell? ⟨p.blk,p.off+off+i,none⟩=some u->row[o+i]?=some u) (hnew:∀ i,i<vs.length->row[o+L+i]?=cvs[i]?) :
  Ud ρ y (L+vs.length) row o:=by
 obtain ⟨t',z',rfl,h1,h2⟩:=hy
 rw [bI,List.all_eq_true] at hone
 refine ⟨t',z',rfl,fun i hi=>?_⟩
 by_cases hlt:i<L
 ·obtain ⟨p',v,cv,hp',g1,g2,g3,g4⟩:=hr.cell hb (i:=off+i) (by omega)
  rw [hp] at hp';cases hp'
  refine ⟨v,cv,by rw [h1 i hlt];exact g1,g2,hold i cv hlt (by rw [← g3];congr 2;omega),g4⟩
 ·obtain ⟨j,rfl⟩:∃ j,i=L+j:=⟨i - L,by omega⟩
  have hj:j<vs.length:=by omega
  obtain ⟨u,g1,g2⟩:=hv.get j vs[j] (List.getElem?_eq_getElem hj)
  refine ⟨vs[j],u,by rw [h2 j hj];exact List.getElem?_eq_getElem hj,hone _ (List.getElem_mem hj),by rw [← Nat.add_assoc,hnew j hj,g1],g2⟩
theorem xq (hr:HR P keep ρ h w) {tr:Tr AV} {z:List AV} {off L m bk:Nat} {ro:Bool} (hb:h.bs.gt bk=some (.cells tr z m ro)) (hle:off+L<=m) {p:Pl} (hp:ρ bk=some p) :
  ∃ cs:List Value,cs.length=L/\(loadCells ⟨p.blk,p.off+off,none⟩ L).run P w=.ok cs.toArray w/\∀ i u,i<L->w.cell? ⟨p.blk,p.off+off+i,none⟩=some u->cs[i]?=some u:=by
 obtain ⟨p',c,e,fz,hp',hh,hs,hpm,hv,_⟩:=hr.blk _ _ hb
 rw [hp] at hp';cases hp'
 have hget:∀ i,i<L->(c.extract (p.off+off) (p.off+off+L)).toList[i]?=c[p.off+off+i]?:=fun i hi=>by
  rw [Array.getElem?_toList,Array.getElem?_extract,if_pos (by omega)]
 have hlen:(c.extract (p.off+off) (p.off+off+L)).toList.length=L:=by simp;omega
 refine ⟨(c.extract (p.off+off) (p.off+off+L)).toList,hlen,gz hlen (fun j u hj=>?_),fun i u hi hu=>?_⟩
 ·have hjl:j<L:=by rw [← hlen];exact (List.getElem?_eq_some_iff.1 hj).1
  rw [cY,cD hh,← hget j hjl];exact hj
 ·rw [hget i hi,← cD hh];exact hu
theorem Lq (hr:HR P keep ρ h w) {bk id m:Nat} {tr:Tr AV} {z:List AV} (hb:h.bs.gt bk=some (.cells tr z m false)) {p:Pl} (hp:ρ bk=some p) (hid:h.next<=id) {w':World} {off:Nat} {y:cX} {N:Nat}
  {row c:Array Value} {e:TypeId} {fz:Nat×Nat} (hh:w.heap[p.blk]?=some (.cells c e fz)) (hfz:∀ i,i<p.size->¬(fz.1<=i/\i<fz.2)) (hos:w'.os=w.os) (hout:w'.output=w.output) (hheap:w'.heap=w.heap.setIfInBounds p.blk (.cells row e fz))
  (hsz:row.size=p.size) (hN:p.off+off+N<=p.size) (hy:Ud ρ y N row (p.off+off)) (hmk:qH y e) :
  bv P keep ρ h w (ρ.up id ⟨p.blk,p.off+off,p.size⟩) ((h.put bk .dead).new id y) w':=by
 have hk:=hr.kill hb
 have hlt:p.blk<w.heap.size:=(Array.getElem?_eq_some_iff.1 hh).1
 have hold:∀ k,k≠p.blk->w'.heap[k]?=w.heap[k]?:=fun k hne=>by rw [hheap,Array.getElem?_setIfInBounds,if_neg (fun e=>hne e.symm)]
 have hid':(h.put bk .dead).next<=id:=hid
 obtain ⟨f1,f2⟩:=hk.hr.fresh hid'
 have hother:∀ c z q,(h.put bk .dead).bs.gt c=some z->z.dead?=false->ρ c=some q->q.blk≠p.blk:=fun c z q hz hd hq=>by
  rw [bA] at hz
  by_cases e:c=bk
  ·rw [if_pos e] at hz;cases hz;cases hd
  ·rw [if_neg e] at hz
   exact hr.inj c bk z _ q p hz hb hd rfl (.inr rfl) hq hp e
 have hown:mu ρ h p.blk:=⟨bk,_,p,hb,rfl,hp,rfl⟩
 have hownW:jc ρ h p.blk:=⟨bk,_,p,hb,rfl,hp,rfl⟩
 rw [ii hid']
 obtain ⟨t',z',rfl,hv⟩:=hy
 refine ⟨aL.le_up f1,hk.hr.add f1 f2 (by omega) (by omega) hother (fun c z q hz hd hq=>hold _ (hother c z q hz hd hq)) ?_,⟨hos,hout,by rw [hheap];simp,fun k _ ho=>hold k fun e=>ho (e▸hownW)⟩,fun k _ ho=>?_,by show h.next<=id+1;omega,fun c q hc hlt=>by unfold aL.up at hc;rwa [if_neg (by omega)] at hc,fun k _ ho=>?_⟩
 ·refine ⟨_,row,e,fz,aL.up_same _ _ _,by rw [hheap,Array.getElem?_setIfInBounds,if_pos rfl,if_pos hlt],hsz,hN,fun i hi=>?_,fun _=>hfz,hmk.ok⟩
  obtain ⟨v,cv,h1,h2,h3,h4⟩:=hv i hi
  exact ⟨v,cv,h1,h2,h3,h4.mono (aL.le_up f1)⟩
 ·obtain ⟨c,z,q,hz,hzr,hq,rfl⟩:=ho
  simp only [Tr.gt_up] at hz
  by_cases e:c=id
  ·subst e;rw [aL.up_same] at hq;cases hq;exact hown
  ·rw [if_neg e] at hz
   unfold aL.up at hq;rw [if_neg e] at hq
   exact hk.own _ ‹_› ⟨c,z,q,hz,hzr,hq,rfl⟩
 ·obtain ⟨c,z,q,hz,hzr,hq,rfl⟩:=ho
  simp only [Tr.gt_up] at hz
  by_cases e:c=id
  ·subst e;rw [aL.up_same] at hq;cases hq;exact hownW
  ·rw [if_neg e] at hz
   unfold aL.up at hq;rw [if_neg e] at hq
   exact hk.ownW _ ‹_› ⟨c,z,q,hz,hzr,hq,rfl⟩
theorem sZ {e:TypeId} {s:Nat} (hs:aC P e=some s):∃ i,P.info? e=some i/\i.size=s:=by
 unfold aC at hs
 cases hi:P.info? e with
 | none=>rw [hi] at hs;cases hs
 | some i=>rw [hi] at hs;cases hs;exact ⟨i,rfl,rfl⟩
theorem Ku {bs need c':Nat} (hr:gy bs need=true) (hc:c'<need):((need:Nat):Int)<=9223372036854775807/\Builtin.nextslicecap need c'*bs<=281474976710656:=by
 unfold gy at hr
 simp only [ax,Bool.and_eq_true] at hr
 have h1:=Nat.le_of_ble_eq_true hr.1
 have h2:=Nat.le_of_ble_eq_true hr.2
 have h1:need*bs<=68719476736:=h1
 have h2:need<=68719476736:=h2
 exact ⟨by omega,growslice_fits hc (by omega)⟩
theorem tQ {t u ty:TypeId} {ts:Array TypeId} {du:TypeDesc} {id:Nat} {s x:AV} {q:AV×ac} (ht:ts[0]?=some t) (ht1:ts[1]?=some u) (hu1:P.underlying u=some du) (hint:∀ k,du≠.int k) (hid:h.next<=id)
  (hr:HR P keep ρ h w) (hq:aS P t s x id h=some q) {a b:Value} (hs:VR ρ s a) (hx:VR ρ x b):ve P keep w ρ h (Builtin.append_ ts ty #[a,b]) q.1 q.2:=by
 unfold aS at hq
 cases hu:P.underlying t with
 | none=>rw [hu] at hq;cases hq
 | some d =>
  rw [hu] at hq
  cases d with
  | slice e =>
   cases hsz:aC P e with
   | none=>simp only [hsz] at hq;cases hq
   | some size =>
    cases size with
    | zero=>simp only [hsz] at hq;cases hq
    | succ k =>
     cases hbt:cF P e with
     | none=>simp only [hsz,hbt] at hq;cases hq
     | some bs =>
      cases hz:cd P e with
      | none=>simp only [hsz,hbt,hz,Option.map_none] at hq;cases hq
      | some z =>
       simp only [hsz,hbt,hz,Option.map_some,Option.getD_some] at hq
       cases hzl:Nat.beq (bp z.cells) (k+1) with
       | false=>rw [hzl] at hq;cases hq
       | true =>
        rw [hzl] at hq
        obtain ⟨o,len,c,g,e0,hq0⟩:=et hq
        subst e0
        clear hq
        cases hsrc:cI (k+1) (fun n=>n) x h with
        | none=>rw [hsrc] at hq0;cases hq0
        | some src =>
         rw [hsrc] at hq0
         obtain ⟨hc,hq1⟩:=aE.1 hq0
         clear hq0
         simp only [ax,Bool.and_eq_true] at hc
         obtain ⟨hroom,hlen⟩:=hc
         have hlen:src.1.length=src.2*(k+1):=by have:=Nat.eq_of_beq_eq_true hlen;rw [aO] at this;exact this
         have hzl:z.cells.length=k+1:=by have:=Nat.eq_of_beq_eq_true hzl;rwa [aO] at this
         obtain ⟨n,cs,g1,g2,g3,g4⟩:=pY hr hsrc hx (fun n=>Nat.le_refl _)
         have g3':=g3 w.drew rfl
         replace g3:=g3 w rfl
         rw [g2] at hlen hroom hq1
         have hcl:=g4.length
         obtain ⟨inf,hi,his⟩:=sZ hsz
         have hzv:∃ zv,inf.zero=some zv/\VR ρ z zv:=by
          unfold cd at hz
          rw [hi] at hz
          simp only [Option.bind_some] at hz
          cases hiz:inf.zero with
          | none=>rw [hiz] at hz;cases hz
          | some zv=>rw [hiz] at hz;exact ⟨zv,rfl,VR.const ρ _ _ hz⟩
         obtain ⟨zv,hiz,vz⟩:=hzv
         have hib:inf.bytes=bs:=by unfold cF at hbt;rw [hi] at hbt;simpa using hbt
         have hzc:zv.cells.size=k+1:=by have:=vz.cells.length;rw [hzl] at this;simpa using this.symm
         have hout:∀ {base:Option Addr} {c':Nat} {co:Array Value},(Builtin.firstCells (k+1) len (.slice base len c')).run P w.drew=.ok co w.drew->c'<len+n ->
           (Builtin.append_ ts ty #[.slice base len c',b]).run P w =
            .ok (.slice (some ⟨w.heap.size,0,none⟩) (len+n) (grownCap w (len+n) c' e)) (w.drew.alloc (.cells (co++cs++Builtin.zeroCells zv.cells (grownCap w (len+n) c' e - (len+n))) e)):=by
          intro base c' co ho hlt
          obtain ⟨r1,r2⟩:=Ku hroom hlt
          exact sO ht hu hi hiz ht1 hu1 hint g1 (by rw [his];exact g3') (by rw [his];exact ho) (by omega) r1 (by rw [hib];exact r2)
         have hcs:cs.size=n*(k+1):=by rw [← hlen];simpa using hcl.symm
         have hrowsz:∀ {co:Array Value} {c':Nat},co.size=len*(k+1)->c'<len+n->(co++cs++Builtin.zeroCells zv.cells (grownCap w (len+n) c' e - (len+n))).size=grownCap w (len+n) c' e*(k+1):=by
          intro co c' hco hlt
          have:=iL (w:=w) (e:=e) hlt
          simp only [Array.size_append,hco,hcs,Builtin.zeroCells,Array.size_map,Array.size_range,hzc]
          rw [← Nat.add_mul,← Nat.add_mul]
          congr 1;omega
         cases n with
         | zero =>
          cases hq1
          rw [Nat.zero_mul] at hcs
          have hnil:cs.toList=[]:=by simpa using hcs
          have hin:∀ {base:Option Addr} {c':Nat},len<=c'->(Builtin.append_ ts ty #[.slice base len c',b]).run P w=.ok (.slice base len c') w:=by
           intro base c' hle
           refine i9 ht hu hsz ht1 hu1 hint g1 g3 (by omega) ?_
           cases base with
           | none=>rfl
           | some a=>rw [hnil];rfl
          refine ⟨ρ,a,w,?_,hs,bv.refl hr⟩
          cases o with
          | none=>obtain ⟨rfl,rfl,_,rfl⟩:=hs;exact hin (Nat.le_refl _)
          | some p0=>obtain ⟨p,a',c',_,rfl,h1,_⟩:=hs;exact hin h1
         | succ n =>
          have hq2:je (k+1) e o len c g id h src.1 (n+1)=some q:=hq1
          clear hq1
          cases o with
          | none =>
           obtain ⟨rfl,rfl,_,rfl⟩:=hs
           obtain ⟨_,hq3⟩:=aE.1 (show aV (Nat.beq 0 0) (dT (k+1) (n+1) (ay e false) id h src.1)=some q from hq2)
           obtain ⟨hone,rfl⟩:=kw hq3
           have hgc:=iL (w:=w) (e:=e) (show 0<0+(n+1) by omega)
           obtain ⟨hpost,hval⟩:=vl (e:=e) hr hid (y:=.cells (az src.1 .leaf 0) (ay e false) (bp src.1) false) (N:=src.1.length) (row:=#[]++cs++Builtin.zeroCells zv.cells (grownCap w (0+(n+1)) 0 e - (0+(n+1)))) (need:=0+(n+1)) (cap:=grownCap w (0+(n+1)) 0 e) (size:=k+1)
            (Ud.of g4 hone fun i hi=>by
             have:i<cs.size:=by have:=hcl;simp at this;omega
             simp only [Array.empty_append,Nat.zero_add,Array.getElem?_append_left this,Array.getElem?_toList]) uo hgc (by simp only [Array.size_append,hcs,hlen];simp) (hrowsz (by simp) (by omega))
           refine ⟨_,_,_,hout rfl (by omega),?_,hpost⟩
           simpa using hval
          | some p0 =>
           obtain ⟨bk,off⟩:=p0
           obtain ⟨p,a',c',hp,rfl,hle,hcle,hg,hes,ha⟩:=hs
           have hold:∀ {tr:Tr AV} {zz:List AV} {m:Nat} {ro:Bool},h.bs.gt bk=some (.cells tr zz m ro)->off+len*(k+1)<=m ->
             ∃ co:Array Value,(Builtin.firstCells (k+1) len (.slice (some a') len c')).run P w.drew=.ok co w.drew/\co.size=len*(k+1)/\∀ i u,i<len*(k+1)->w.cell? ⟨p.blk,p.off+off+i,none⟩=some u->co[i]?=some u:=by
            intro tr zz m ro hb hm
            obtain ⟨co,o1,o2,o3⟩:=xq (w:=w.drew) hr.drew hb hm hp
            refine ⟨co.toArray,?_,by simpa using o1,fun i u hi hu=>by simpa using o3 i u hi hu⟩
            by_cases hc0:c'=0
            ·obtain rfl:len=0:=by omega
             rw [Nat.zero_mul] at o1
             obtain rfl:co=[]:=List.length_eq_zero_iff.1 o1
             simp only [Builtin.firstCells,Nat.zero_mul];rfl
            ·rw [ha hc0];exact o2
           have hnewrow:∀ (co rest:Array Value) (i:Nat),co.size=len*(k+1)->i<src.1.length->(co++cs++rest)[0+len*(k+1)+i]?=cs.toList[i]?:=by
            intro co rest i hco hi
            have:i<cs.size:=by omega
            rw [Array.getElem?_append_left (by simp only [Array.size_append];omega),Array.getElem?_append_right (by omega),Array.getElem?_toList]
            congr 1;omega
           have holdrow:∀ (co rest:Array Value) (i:Nat) (u:Value),co.size=len*(k+1)->i<len*(k+1)->co[i]?=some u->(co++cs++rest)[0+i]?=some u:=by
            intro co rest i u hco hi hu
            rw [Array.getElem?_append_left (by simp only [Array.size_append];omega),Array.getElem?_append_left (by omega),Nat.zero_add]
            exact hu
           have hmul:(len+(n+1))*(k+1)=len*(k+1)+(n+1)*(k+1):=Nat.add_mul _ _ _
           have hq2:(Bool.rec (motive:=fun _=>Option (AV×ac))
             (Option.rec (motive:=fun _=>Option (AV×ac))
              (Option.rec (motive:=fun _=>Option (AV×ac)) none (fun old=>dT (k+1) (len+(n+1)) (ay e false) id h (dS old src.1)) (h.ld bk off (len*(k+1))))
              (fun es=>aV (Nat.beq es (k+1)) (fG (k+1) (len+(n+1)) e off len (n+1) src.1 bk id h)) g)
             (ju (.slice (some (bk,off)) (len+(n+1)) c g) (h.sto bk (off+len*(k+1)) src.1)) (Nat.ble (len+(n+1)) c):Option (AV×ac))=some q:=hq2
           cases hbl:Nat.ble (len+(n+1)) c with
           | true =>
            rw [hbl] at hq2
            obtain ⟨h',hst,rfl⟩:=oZ hq2
            have hle2:=Nat.le_of_ble_eq_true hbl
            obtain ⟨p',w',hp',hrun,hpost⟩:=hr.sto hst g4
            rw [hp] at hp';cases hp'
            have ha':=ha (by omega)
            subst ha'
            refine ⟨ρ,_,w',i9 ht hu hsz ht1 hu1 hint g1 g3 (by omega) (w':=w') ?_,⟨p,_,c',hp,rfl,by omega,hcle,hg,hes,ha⟩,hpost⟩
            simp only [cY]
            rw [Nat.add_assoc];exact hrun
           | false =>
            rw [hbl] at hq2
            cases g with
            | none =>
             have hcc:=hg rfl
             have hlt:c'<len+(n+1):=by
              rcases Nat.lt_or_ge c' (len+(n+1)) with h1 | h1
              ·exact h1
              ·rw [hcc] at h1;rw [Nat.ble_eq_true_of_le h1] at hbl;cases hbl
             cases hl:h.ld bk off (len*(k+1)) with
             | none=>rw [hl] at hq2;cases hq2
             | some old =>
              rw [hl] at hq2
              obtain ⟨hone2,rfl⟩:=kw hq2
              obtain ⟨tr,zz,m,ro,hb,_⟩:=lT hl
              obtain ⟨hm,hol,honto⟩:=Ay.row (vs:=src.1) (z0:=ay e false) hl hb
              obtain ⟨co,o1,o2,o3⟩:=hold hb hm
              have hone:bO src.1=true:=by
               rw [bI,cj,List.all_append,Bool.and_eq_true] at hone2
               rw [bI];exact hone2.2
              have hrow:Ud ρ (.cells (az (old++src.1) .leaf 0) (ay e false) (bp (old++src.1)) false) (len*(k+1)+src.1.length) (co++cs++Builtin.zeroCells zv.cells (grownCap w (len+(n+1)) c' e - (len+(n+1)))) 0 :=
               honto.lies hr hb hm g4 hone hp (fun i u hi hu=>holdrow co _ i u o2 hi (o3 i u hi hu)) (fun i hi=>hnewrow co _ i o2 hi)
              obtain ⟨hpost,hval⟩:=vl (e:=e) hr hid hrow uo (need:=len+(n+1)) (cap:=grownCap w (len+(n+1)) c' e) (size:=k+1) (iL hlt)
               (by simp only [Array.size_append,o2,hcs,hlen];omega) (hrowsz o2 hlt)
              refine ⟨_,_,_,hout o1 hlt,hval,?_⟩
              rw [cj];exact hpost
            | some es =>
             obtain ⟨he,hq3⟩:=aE.1 (show aV (Nat.beq es (k+1)) (fG (k+1) (len+(n+1)) e off len (n+1) src.1 bk id h)=some q from hq2)
             obtain rfl:=Nat.eq_of_beq_eq_true he
             obtain ⟨tr,zz,m,y,hb,hone,hm,honto,hbm,hbm0,rfl⟩:=vk hq3 hlen
             have hcap:=hes _ rfl
             by_cases hin:len+(n+1)<=c'
             ·obtain ⟨p',ca,ce,fz,hp',hh,hsz',hpm,hval,hfz⟩:=hr.blk _ _ hb
              rw [hp] at hp';cases hp'
              have ha':=ha (by omega)
              subst ha'
              have hmul2:(len+(n+1))*(k+1)<=c'*(k+1):=Nat.mul_le_mul_right _ hin
              have hone':∀ u∈cs.toList,u.oneCell'=true:=fun u hu=>by
               obtain ⟨i,hi⟩:=List.getElem?_of_mem hu
               have hlt:i<src.1.length:=by rw [hcl];exact (List.getElem?_eq_some_iff.1 hi).1
               obtain ⟨u',h1,h2⟩:=g4.get i src.1[i] (List.getElem?_eq_getElem hlt)
               rw [hi] at h1;cases h1
               rw [bI,List.all_eq_true] at hone
               exact h2.one (hone _ (List.getElem_mem hlt))
              obtain ⟨w',hrun,hos,hou,hheap⟩:=jS P (k:=p.blk) (base:=p.off+off+len*(k+1)) cs.toList 0 w ca hh (by rw [← hcl,hlen,hsz'];omega) hone' (by rw [hsz'];exact hfz.1 rfl)
              rw [Nat.add_zero] at hheap
              have hsum:p.off+off+len*(k+1)+cs.toList.length<=ca.size:=by rw [← hcl,hlen,hsz'];omega
              have hrow:Ud ρ y (len*(k+1)+src.1.length) (ip ca (p.off+off+len*(k+1)) cs.toList) (p.off+off):=by
               refine honto.lies hr hb hm g4 hone hp (fun i u hi hu=>?_) (fun i hi=>?_)
               ·rw [iq _ _ _ _ hsum,if_neg (by omega),← cD hh];exact hu
               ·rw [iq _ _ _ _ hsum,if_pos (by omega)]
                congr 1;omega
              refine ⟨_,_,w',i9 ht hu hsz ht1 hu1 hint g1 g3 hin (w':=w') ?_,?_,Lq hr hb hp hid hh (hfz.1 rfl) hos hou hheap (by rw [kZ,hsz']) (by rw [hlen];omega) hrow (hbm0 _ fun k x hz=>(hfz.2 k x hz).1)⟩
              ·simp only [cY];exact hrun
              ·exact ⟨_,_,c',aL.up_same _ _ _,rfl,hin,hin,(fun e=>by cases e),(fun es e=>by cases e;exact hcap),fun _=>rfl⟩
             ·have hlt:c'<len+(n+1):=by omega
              obtain ⟨co,o1,o2,o3⟩:=hold hb hm
              have hk:=hr.kill hb
              have hrow:Ud ρ y (len*(k+1)+src.1.length) (co++cs++Builtin.zeroCells zv.cells (grownCap w (len+(n+1)) c' e - (len+(n+1)))) 0 :=
               honto.lies hr hb hm g4 hone hp (fun i u hi hu=>holdrow co _ i u o2 hi (o3 i u hi hu)) (fun i hi=>hnewrow co _ i o2 hi)
              obtain ⟨hpost,hval⟩:=vl (e:=e) hk.hr (id:=id) hid hrow hbm (need:=len+(n+1)) (cap:=grownCap w (len+(n+1)) c' e) (size:=k+1) (iL hlt)
               (by simp only [Array.size_append,o2,hcs,hlen];omega) (hrowsz o2 hlt)
              exact ⟨_,_,_,hout o1 hlt,hval,hk.trans hpost⟩
  | _=>cases hq
end
end Go.Am
namespace Go.Am
section
variable {P:Program} {keep:aK} {w:World} {ρ : aL} {h:ac}
theorem pO {z:List AV} {t:Nat} {x:Bool} (hz:ic z=some (t,x)):z=ay t x:=by
 unfold ic at hz
 split at hz
 ·cases hz;rfl
 ·cases hz
theorem qk {v r:AV} {a:Value} {ts:Array TypeId} {ty:TypeId} (hr:oX v=some r) (hv:VR ρ v a):bU P w ρ (Builtin.unsafeSliceData_ ts ty #[a]) r:=by
 cases v with
 | slice o n c g =>
  cases o with
  | none =>
   cases hr
   obtain ⟨rfl,rfl,_,rfl⟩:=hv
   exact ⟨_,rfl,rfl⟩
  | some p0 =>
   obtain ⟨b,o⟩:=p0
   simp only [oX] at hr
   split at hr
   ·cases hr
   ·rename_i hne
    cases hr
    obtain ⟨p,a',c',hp,rfl,h1,h2,_,_,h5⟩:=hv
    have hc:c'≠0:=by omega
    refine ⟨_,Lib.run_unsafeSliceData_row w ts ty a' n c' hc,p,hp,?_⟩
    rw [h5 hc]
 | _=>cases hr
theorem HR.freeze (hr:HR P keep ρ h w) {b:Nat} {t:Tr AV} {z:List AV} {m:Nat} {ro:Bool} (hb:h.bs.gt b=some (.cells t z m ro)) (hmk:(ic z).isNone=false) {p:Pl} (hp:ρ b=some p) (o n:Nat) :
  bv P keep ρ h w ρ (h.put b (.cells t z m true)) (w.freeze ⟨p.blk,o,none⟩ n):=by
 have hos:(w.freeze ⟨p.blk,o,none⟩ n).os=w.os:=by unfold World.freeze;split <;> rfl
 have hout:(w.freeze ⟨p.blk,o,none⟩ n).output=w.output:=by unfold World.freeze;split <;> rfl
 have hsz:(w.freeze ⟨p.blk,o,none⟩ n).heap.size=w.heap.size:=by unfold World.freeze;split <;> simp
 have hsame:∀ k,k≠p.blk->(w.freeze ⟨p.blk,o,none⟩ n).heap[k]?=w.heap[k]?:=fun k hk=>by
  unfold World.freeze
  split
  ·rfl
  ·simp only [Array.getElem?_modify]
   rw [if_neg (fun e=>hk e.symm)]
 have hcells:∀ c e fz,w.heap[p.blk]?=some (.cells c e fz)->∃ fz',(w.freeze ⟨p.blk,o,none⟩ n).heap[p.blk]?=some (.cells c e fz'):=fun c e fz hc=>by
  unfold World.freeze
  split
  ·exact ⟨fz,hc⟩
  ·refine ⟨if fz.1==fz.2 then (o,o+n) else (min fz.1 o,max fz.2 (o+n)),?_⟩
   simp only [Array.getElem?_modify,if_pos,hc,Option.map_some]
 have hget:∀ c,(h.put b (.cells t z m true)).bs.gt c=if c=b then some (.cells t z m true) else h.bs.gt c:=fun c=>Tr.gt_up _ _ _ _
 have hbr:=hr.blk _ _ hb
 obtain ⟨p0,c,e,fz,hp0,hc,hcs,hn,hv,hf⟩:=hbr
 rw [hp] at hp0;cases hp0
 have hlt:p.blk<w.heap.size:=(Array.getElem?_eq_some_iff.1 hc).1
 have hown:mu ρ h p.blk:=⟨b,_,p,hb,rfl,hp,rfl⟩
 have hfx:∀ r,(cX.cells t z m r).fixed=false:=fun r=>by show (r&&(ic z).isNone)=false;rw [hmk,Bool.and_false]
 have hownW:jc ρ h p.blk:=⟨b,_,p,hb,hfx _,hp,rfl⟩
 refine ⟨aL.le_refl _,⟨hr.dom,fun c' x hx=>?_,fun c' x hx=>?_,fun c1 c2 x1 x2 q1 q2 h1 h2 d1 d2 hro hq1 hq2 hne=>?_⟩,⟨hos,hout,by omega,fun k _ ho=>hsame k fun e=>ho (e▸hownW)⟩,fun k _ ho=>?_,Nat.le_refl _,fun _ _ h _=>h,fun k _ ho=>?_⟩
 ·rw [hget] at hx
  by_cases e:c'=b
  ·subst e;exact hr.has _ _ hb
  ·rw [if_neg e] at hx;exact hr.has _ _ hx
 ·rw [hget] at hx
  by_cases e1:c'=b
  ·subst e1
   rw [if_pos rfl] at hx;cases hx
   obtain ⟨fz',hfz'⟩:=hcells c e fz hc
   exact ⟨p,c,e,fz',hp,hfz',hcs,hn,hv,(fun e=>by cases e),hf.2⟩
  ·rw [if_neg e1] at hx
   by_cases hq:∃ q,ρ c'=some q/\q.blk=p.blk/\x.dead?=false
   ·obtain ⟨q,hq1,hq2,hq3⟩:=hq
    
    have hxro:x.ro=true:=by
     cases hx2:x.ro with
     | true=>rfl
     | false=>exact absurd hq2 (hr.inj c' b x _ q p hx hb hq3 rfl (.inl hx2) hq1 hp e1)
    have hbx:=hr.blk _ _ hx
    cases x with
    | cells t1 z1 m1 ro1 =>
     obtain ⟨p1,c1,e1',fz1,hp1,hc1,g1,g2,g3,g4⟩:=hbx
     rw [hq1] at hp1;cases hp1
     rw [hq2,hc] at hc1;cases hc1
     obtain ⟨fz',hfz'⟩:=hcells c e fz hc
     exact ⟨q,c,e,fz',hq1,by rw [hq2];exact hfz',g1,g2,g3,(fun e=>by cases (show ro1=true from hxro).symm.trans e),g4.2⟩
    | dead=>cases hq3
    | map _ _=>cases hxro
    | siter _ _=>cases hxro
    | loop _=>cases hxro
   ·exact (hr.blk _ _ hx).frame fun q hd hqq=>hsame _ fun e=>hq ⟨q,hqq,e,hd⟩
 ·have fix:∀ c0 x0,(h.put b (.cells t z m true)).bs.gt c0=some x0->x0.dead?=false->∃ x',h.bs.gt c0=some x'/\x'.dead?=false/\(x0.ro=false->x'.ro=false):=by
   intro c0 x0 hx0 hd0
   rw [hget] at hx0
   by_cases e:c0=b
   ·subst e;rw [if_pos rfl] at hx0;cases hx0;exact ⟨_,hb,rfl,fun e=>by cases e⟩
   ·rw [if_neg e] at hx0;exact ⟨x0,hx0,hd0,id⟩
  obtain ⟨y1,a1,a2,a3⟩:=fix _ _ h1 d1
  obtain ⟨y2,b1,b2,b3⟩:=fix _ _ h2 d2
  exact hr.inj c1 c2 y1 y2 q1 q2 a1 b1 a2 b2 (hro.imp a3 b3) hq1 hq2 hne
 ·obtain ⟨c0,x0,q,hx,hd,hq,rfl⟩:=ho
  rw [hget] at hx
  by_cases e:c0=b
  ·subst e;rw [hp] at hq;cases hq;exact hown
  ·rw [if_neg e] at hx;exact ⟨c0,x0,q,hx,hd,hq,rfl⟩
 ·obtain ⟨c0,x0,q,hx,hd,hq,rfl⟩:=ho
  rw [hget] at hx
  by_cases e:c0=b
  ·subst e;rw [hp] at hq;cases hq;exact hownW
  ·rw [if_neg e] at hx;exact ⟨c0,x0,q,hx,hd,hq,rfl⟩
theorem Kw {fits:TypeId->Bool} {d e count off n:Nat} (hc:P.cellsOf e=1) (hf:fits e=true) (hn:off+n<=count):Go.rowAt P fits (d+1) e count off n=true:=by
 simp only [Go.rowAt,hc]
 simp [hf,Nat.mod_one,hn]
theorem BA {e count off n:Nat} (hc:P.cellsOf e=1) (hn:off+n<=count):liesAt P P.depth e count off e n=true:=by
 have hd:P.depth=(2*(P.types.size+Made.depth)+1)+1:=rfl
 rw [hd]
 simp only [liesAt,Bool.or_eq_true]
 left
 rw [hd]
 exact Kw hc (by simp [sameLayout]) hn
theorem CM {v:AV} {c:Nat} (hv:iU v=some c):v=.int .u8 (Int.ofNat c)/\c<=255:=by
 obtain ⟨k,n,rfl,h1⟩:=aP hv
 obtain ⟨h2,h3⟩:=aE.1 h1
 have hk:k=.u8:=by cases k <;> first | rfl | cases h2
 subst hk
 cases n with
 | ofNat m =>
  obtain ⟨h4,h5⟩:=aE.1 (show aV (Nat.ble m 255) (some m)=some c from h3)
  cases h5
  exact ⟨rfl,Nat.le_of_ble_eq_true h4⟩
 | negSucc m=>cases h3
theorem nj:∀ {vs:List AV} {l:List Nat},f9 vs=some l->∃ bs:List UInt8,l=bs.map (·.toNat)/\vs=bs.map fun b=>.int .u8 (b.toNat:Int)
 | [],l,h=>by cases h;exact ⟨[],rfl,rfl⟩
 | v::vs,l,h=>by
  have h:ob (iU v) (fun c=>ob (f9 vs) fun l=>some (c::l))=some l:=h
  obtain ⟨c,h1,h2⟩:=af.1 h
  obtain ⟨l',h3,h4⟩:=af.1 h2
  cases h4
  obtain ⟨rfl,hc⟩:=CM h1
  obtain ⟨bs,rfl,rfl⟩:=nj h3
  refine ⟨UInt8.ofNat c::bs,?_,?_⟩
  ·simp only [List.map_cons,List.cons.injEq,and_true]
   rw [UInt8.toNat_ofNat'];omega
  ·simp only [List.map_cons,List.cons.injEq,and_true]
   rw [UInt8.toNat_ofNat',Nat.mod_eq_of_lt (by omega)];rfl
theorem z7 {t e ty:TypeId} {ts:Array TypeId} (ht:ts[0]?=some t) (hu:P.underlying t=some (.pointer e)) (hs:aC P e=some 1) (hr:HR P keep ρ h w) {x n:AV} {q:AV×ac} (hq:zaQ e h x n=some q) {a b:Value} (hx:VR ρ x a) (hn:VR ρ n b) :
  ve P keep w ρ h (Builtin.unsafeString_ ts ty #[a,b]) q.1 q.2:=by
 obtain ⟨k,n,rfl,h1⟩:=aP hq
 cases hn
 have hmax:IntKind.i64.max=9223372036854775807:=rfl
 have hdef:∀ (p:Option Addr) (n:Int),(Builtin.unsafeString_ ts ty #[.pointer p,.int k n]) =
   (do
    let n ← asInt (.int k n)
    let some pt:=ts[0]? | stuck "unsafe.String: no argument types"
    if n<0 then runtimePanic (.error "unsafe.String: len out of range")
    if n > IntKind.i64.max then unsupported (.unsafePointer "String: a length above the largest int")
    match p with
    | none =>
     if n=0 then pure (.string .empty)
     else runtimePanic (.error "unsafe.String: ptr is nil and len is not zero")
    | some a =>
     if n=0 then pure (.string .empty)
     else if ← variablesAt a (← elemOf pt) n.toNat then do
      let s ← loadBytes a .empty n.toNat
      freeze a n.toNat
      pure (.string s)
     else unsupported (.unsafePointer "String: not so many bytes at ptr")):=fun p n=>rfl
 cases n with
 | negSucc n=>cases h1
 | ofNat n =>
  cases n with
  | zero =>
   cases x with
   | ptr p =>
    cases h1
    have:∃ p',a=.pointer p':=by
     cases p with
     | none=>cases hx;exact ⟨_,rfl⟩
     | some p=>obtain ⟨b0,o0⟩:=p;obtain ⟨p',_,rfl⟩:=hx;exact ⟨_,rfl⟩
    obtain ⟨p',rfl⟩:=this
    refine ⟨ρ,.string .empty,w,?_,⟨.empty,rfl,rfl⟩,bv.refl hr⟩
    rw [hdef]
    cases p' <;> simp [asInt,asIntOf,hmax,ht]
   | _=>cases h1
  | succ n =>
   obtain ⟨bk,o,rfl,h2⟩:=dO h1
   obtain ⟨h3,h4⟩:=aE.1 h2
   have h3:n+1<=1099511627776:=Nat.le_of_ble_eq_true h3
   obtain ⟨tr,z,m,ro,hb,h5⟩:=df h4
   cases hmk:ic z with
   | none=>simp only [hmk] at h5;cases h5
   | some ex =>
    obtain ⟨e',x'⟩:=ex
    simp only [hmk] at h5
    split at h5
    ·rename_i he
     subst he
     obtain ⟨h6,h7⟩:=aE.1 h5
     have h6:=Nat.le_of_ble_eq_true h6
     have h6:o+(n+1)<=m:=h6
     obtain ⟨vs,h8,h9⟩:=af.1 h7
     obtain ⟨l,h10,h11⟩:=af.1 h9
     cases h11
     obtain ⟨bs,rfl,rfl⟩:=nj h10
     obtain ⟨hlen,hget⟩:=mG h8
     rw [List.length_map] at hlen
     obtain ⟨p,hp,rfl⟩:=hx
     obtain ⟨p0,c,e0,fz,hp0,hc,hcs,hpm,hval,hf⟩:=hr.blk _ _ hb
     rw [hp] at hp0;cases hp0
     obtain ⟨rfl,_⟩:=hf.2 _ _ (pO hmk)
     have hcell:∀ j (x:UInt8),bs[j]?=some x->w.cell? ((⟨p.blk,p.off+o,none⟩:Addr).add j)=some (.int .u8 x.toNat):=fun j x hj=>by
      have hjl:j<bs.length:=(List.getElem?_eq_some_iff.1 hj).1
      obtain ⟨v,cv,g1,g2,g3,g4⟩:=hval (o+j) (by omega)
      rw [hget j (by omega),List.getElem?_map,hj] at g1
      cases g1
      rw [cY,cD hc,Nat.add_assoc,g3]
      exact congrArg some g4
     have hsh:w.shape? p.blk=some (e0,p.size):=by simp [World.shape?,hc,hcs]
     have hce:P.cellsOf e0=1:=by
      unfold aC at hs
      simp only [Program.cellsOf]
      cases hi:P.info? e0 with
      | none=>rw [hi] at hs;cases hs
      | some i=>rw [hi] at hs;simpa using hs
     have hlies:=BA (P:=P) (e:=e0) (count:=p.size / P.cellsOf e0) (off:=p.off+o) (n:=n+1) hce (by rw [hce,Nat.div_one];omega)
     have hno:o+(n+1)<=p.size - p.off:=by omega
     have hlb:=Lib.run_loadBytes (P:=P) w bs ⟨p.blk,p.off+o,none⟩ .empty hcell
     rw [hlen] at hlb
     refine ⟨ρ,.string ⟨bs.toArray⟩,w.freeze ⟨p.blk,p.off+o,none⟩ (n+1),?_,⟨_,rfl,by simp⟩,hr.freeze hb (by rw [hmk];rfl) hp _ _⟩
     rw [hdef]
     have hneg:¬(Int.ofNat (n+1))<0:=by simp only [Int.ofNat_eq_natCast];omega
     have h63:¬(9223372036854775807:Int)<Int.ofNat (n+1):=by simp only [Int.ofNat_eq_natCast];omega
     have hne:¬(Int.ofNat (n+1))=0:=by simp only [Int.ofNat_eq_natCast];omega
     have ht':(Int.ofNat (n+1)).toNat=n+1:=rfl
     simp only [asInt,asIntOf,Sem.run_bind,Sem.run_pure,Result.andThen_ok,ht,hmax,hneg,h63,hne,if_false,ht',variablesAt,elemOf,run_underlying hu]
     simp [hsh,hlies,hlb]
    ·cases h5
theorem tu {s d t:TypeId} (hsu:P.underlying s=some (.pointer t)) (hdu:P.underlying d=some .unsafePointer) (hr:HR P keep ρ h w) {v r:AV} (hf:tq P t h v=some r) {a:Value} (hv:VR ρ v a):bU P w ρ (convert s d a) r:=by
 unfold tq at hf
 split at hf
 ·rename_i n b o hsz
  obtain ⟨tr,z,m,ro,hb,h1⟩:=df hf
  obtain ⟨h2,h3⟩:=aE.1 h1
  cases h3
  have h2:o<m:=Nat.le_of_ble_eq_true h2
  have hv':=hv
  obtain ⟨p,hp,rfl⟩:=hv
  obtain ⟨p0,c,e0,fz,hp0,hc,hcs,hpm,hval,hf⟩:=hr.blk _ _ hb
  rw [hp] at hp0;cases hp0
  obtain ⟨i,hi,his⟩:=sZ hsz
  exact ⟨_,Lib.run_to_unsafe w ⟨p.blk,p.off+o,none⟩ hsu hdu hi (by omega) (e:=e0) (cells:=p.size) (by simp [World.shape?,hc,hcs]) (by show p.off+o<p.size;omega),hv'⟩
 ·rename_i n hsz
  cases hf
  cases hv
  refine ⟨.pointer none,?_,rfl⟩
  simp [convert,run_underlying hsu,run_underlying hdu,Conv.unsafePointer]
 ·cases hf
theorem oJ {s d u:TypeId} (hsu:P.underlying s=some .unsafePointer) (hdu:P.underlying d=some (.pointer u)) (hr:HR P keep ρ h w) {v r:AV} (hf:mC P u h v=some r) {a:Value} (hv:VR ρ v a):bU P w ρ (convert s d a) r:=by
 unfold mC at hf
 split at hf
 ·cases hf
  cases hv
  refine ⟨.pointer none,?_,rfl⟩
  simp [convert,run_underlying hsu,run_underlying hdu,Conv.unsafePointer]
 ·rename_i b o
  obtain ⟨tr,z,m,ro,hb,h1⟩:=df hf
  split at h1
  ·rename_i e hmk
   split at h1
   ·rename_i hl
    cases h1
    rw [Bool.and_eq_true] at hl
    have hv':=hv
    obtain ⟨p,hp,rfl⟩:=hv
    obtain ⟨p0,c,e0,fz,hp0,hc,hcs,hpm,hval,hf⟩:=hr.blk _ _ hb
    rw [hp] at hp0;cases hp0
    obtain ⟨rfl,hx⟩:=hf.2 _ _ (pO hmk)
    obtain ⟨h0,hsz⟩:=hx rfl
    cases hi:P.info? u with
    | none=>rw [hi] at hl;cases hl.1
    | some i =>
     refine ⟨_,Lib.run_from_unsafe w ⟨p.blk,p.off+o,none⟩ hsu hdu hi (e:=e0) (cells:=p.size) (by simp [World.shape?,hc,hcs]) ?_,hv'⟩
     show liesAt P P.depth e0 (p.size / P.cellsOf e0) (p.off+o) u 1=true
     rw [h0,hsz,Nat.zero_add];exact hl.2
   ·cases h1
  ·cases h1
 ·cases hf
theorem tT (fn:Func) (h:fn.name = "internal/abi.NoEscape") (ho:fn.origin = ""):Extern.findNext fn=none/\Extern.find fn=some Extern.AbiNoEscape.same:=by
 cases fn
 simp only at h ho
 subst h ho
 exact ⟨by kernel_rfl,by kernel_rfl⟩
theorem rF (fn:Func) (h:fn.name = "internal/bytealg.IndexByteString") (ho:fn.origin = ""):Extern.findNext fn=none/\Extern.find fn=some Extern.BytealgIndexByte.indexByte:=by
 cases fn
 simp only at h ho
 subst h ho
 exact ⟨by kernel_rfl,by kernel_rfl⟩
end
end Go.Am
namespace Go.Am
def gZ (find:Nat->Option bN) (loc:List AV) (vs tm:Tr AV) (ρ : aL) (a:Act):Prop :=
 ∀ t x v,find t=some x->x.get loc vs tm=some v->VR ρ v (a.tmps.getD t undef)
section
variable {P:Program} {keep:aK} {w:World} {ρ : aL} {h:ac} {find:Nat->Option bN} {loc:List AV} {vs tm:Tr AV} {a:Act}
theorem aM (he:gZ find loc vs tm ρ a) {x:Operand} {o:bN} {v:AV} (hx:Am.resolve find x=some o) (hg:o.get loc vs tm=some v):VR ρ v (a.eval x):=by
 cases x with
 | tmp t=>exact he t o v hx hg
 | const c =>
  simp only [Am.resolve,Option.map_eq_some_iff] at hx
  obtain ⟨u,h1,rfl⟩:=hx
  cases hg
  exact VR.const ρ _ _ h1
 | global g=>cases hx
 | func f=>cases hx;cases hg;exact ⟨_,_,_,rfl,rfl,rfl,rfl⟩
theorem lS (x:bN) (xs:List bN):be (x::xs) loc vs tm=ob (x.get loc vs tm) fun v=>ob (be xs loc vs tm) fun us=>some (v::us):=rfl
theorem cP (he:gZ find loc vs tm ρ a):∀ {xs:List Operand} {os:List bN} {us:List AV},aN find xs=some os->be os loc vs tm=some us->bH ρ us (xs.map a.eval)
 | [],os,us,hx,hg=>by cases hx;cases hg;rfl
 | x::xs,os,us,hx,hg=>by
  simp only [aN] at hx
  split at hx
  ·rename_i o os' h1 h2
   cases hx
   rw [lS] at hg
   obtain ⟨v,g1,g2⟩:=af.1 hg
   obtain ⟨us',g3,g4⟩:=af.1 g2
   cases g4
   exact ⟨_,_,rfl,aM he h1 g1,cP he h2 g3⟩
  ·cases hx
def ei (P:Program) (w:World) (ρ : aL) (s:Sem Next) (r:AV):Prop:=∃ v,s.run P w=.ok (.value v) w/\VR ρ r v
def Aw (P:Program) (keep:aK) (w:World) (ρ : aL) (s:Sem Next) (r:cX×(Nat->AV)):Prop :=
 ∃ o sz v w',s.run P w=.ok (.value v) w'/\w'.os=w.os/\w'.output=w.output/\w'.heap=w.heap.push o /\
  ∀ id,ρ id=none->BR P keep (ρ.up id ⟨w.heap.size,0,sz⟩) id r.1 w'/\VR (ρ.up id ⟨w.heap.size,0,sz⟩) (r.2 id) v
def pr (P:Program) (keep:aK) (w:World) (ρ : aL) (h:ac) (s:Sem Next) (r:AV) (h':ac):Prop :=
 ∃ ρ' nx v w',s.run P w=.ok nx w'/\(nx=.value v∨nx=.skip/\v=undef)/\VR ρ' r v/\bv P keep ρ h w ρ' h' w'
theorem dD {s:Sem Value} {r:AV} (hg:bU P w ρ s r):ei P w ρ (do pure (.value (← s))) r:=by
 obtain ⟨v,h1,h2⟩:=hg
 exact ⟨v,by rw [bR h1];rfl,h2⟩
theorem mI {s:Sem Value} {r:cX×(Nat->AV)} (hg:fS P keep w ρ s r):Aw P keep w ρ (do pure (.value (← s))) r:=by
 obtain ⟨o,sz,v,w',h1,h2⟩:=hg
 exact ⟨o,sz,v,w',by rw [bR h1];rfl,h2⟩
theorem Sb {s:Sem Value} {r:AV} {h':ac} (hg:ve P keep w ρ h s r h'):pr P keep w ρ h (do pure (.value (← s))) r h':=by
 obtain ⟨ρ',v,w',h1,h2⟩:=hg
 exact ⟨ρ',_,v,w',by rw [bR h1];rfl,.inl rfl,h2⟩
theorem HZ {s:Sem Unit} {h':ac} (hg:CF P keep w ρ h s h'):pr P keep w ρ h (do s;pure .skip) aJ h':=by
 obtain ⟨ρ',w',h1,h2⟩:=hg
 exact ⟨ρ',_,undef,w',by rw [bR h1];rfl,.inr ⟨rfl,rfl⟩,VR.undef _,h2⟩
def qJ (P:Program) (keep:aK) (find:Nat->Option bN) (o:Oper) (i:kn):Prop :=
 match i with
 | .cl g xs=>∃ g0 args ts,o.op=.call ⟨.value g0,args,ts⟩/\Am.resolve find g0=some g/\aN find args.toList=some xs
 | .bad=>True
 | i=>∀ loc vs tm ρ h w a,HR P keep ρ h w->gZ find loc vs tm ρ a ->
  match i with
  | .mv x=>∀ v,x.get loc vs tm=some v->ei P w ρ (execOp a.eval o) v
  | .p1 f x=>∀ v r,x.get loc vs tm=some v->f v=some r->ei P w ρ (execOp a.eval o) r
  | .p2 f x y=>∀ v u r,x.get loc vs tm=some v->y.get loc vs tm=some u->f v u=some r->ei P w ρ (execOp a.eval o) r
  | .pick c x y=>∀ t r,c.get loc vs tm=some (.bool t)->(if t then x.get loc vs tm else y.get loc vs tm)=some r->ei P w ρ (execOp a.eval o) r
  | .pn f xs=>∀ us r,be xs loc vs tm=some us->f us=some r->ei P w ρ (execOp a.eval o) r
  | .ld1 x=>∀ v r,x.get loc vs tm=some v->am h v=some r->ei P w ρ (execOp a.eval o) r
  | .ldn s x=>∀ v r,x.get loc vs tm=some v->di s h v=some r->ei P w ρ (execOp a.eval o) r
  | .rd f xs=>∀ us r,be xs loc vs tm=some us->f us h=some r->ei P w ρ (execOp a.eval o) r
  | .al f xs=>∀ us r,be xs loc vs tm=some us->f us=some r->Aw P keep w ρ (execOp a.eval o) r
  | .st1 x y=>∀ p v q,x.get loc vs tm=some p->y.get loc vs tm=some v->aW h p v=some q->pr P keep w ρ h (execOp a.eval o) q.1 q.2
  | .ef f xs=>∀ us id q,h.next<=id->be xs loc vs tm=some us->f us id h=some q->pr P keep w ρ h (execOp a.eval o) q.1 q.2
  | _=>True
theorem c7 {β : Type} {f:AV->Option β} {us:List AV} {r:β} (hl:l1 f us=some r):∃ u,us=[u]/\f u=some r:=by
 match us with
 | []=>cases hl
 | [u]=>exact ⟨u,rfl,hl⟩
 | u::v::t=>cases hl
theorem fg {β : Type} {f:AV->AV->Option β} {us:List AV} {r:β} (hl:l2 f us=some r):∃ u v,us=[u,v]/\f u v=some r:=by
 match us with
 | []=>cases hl
 | u::t=>obtain ⟨v,rfl,h⟩:=c7 (show l1 (f u) t=some r from hl);exact ⟨u,v,rfl,h⟩
theorem nG {β : Type} {f:AV->AV->AV->Option β} {us:List AV} {r:β} (hl:l3 f us=some r):∃ u v x,us=[u,v,x]/\f u v x=some r:=by
 match us with
 | []=>cases hl
 | u::t=>obtain ⟨v,x,rfl,h⟩:=fg (show l2 (f u) t=some r from hl);exact ⟨u,v,x,rfl,h⟩
theorem Vw {β : Type} {f:AV->AV->AV->AV->Option β} {us:List AV} {r:β} (hl:l4 f us=some r):∃ u v x y,us=[u,v,x,y]/\f u v x y=some r:=by
 match us with
 | []=>cases hl
 | u::t=>obtain ⟨v,x,y,rfl,h⟩:=nG (show l3 (f u) t=some r from hl);exact ⟨u,v,x,y,rfl,h⟩
theorem bH.one {u:AV} {l:List Value} (hv:bH ρ [u] l):∃ v,l=[v]/\VR ρ u v:=by obtain ⟨v,t,rfl,h1,rfl⟩:=hv;exact ⟨v,rfl,h1⟩
theorem bH.two {u u':AV} {l:List Value} (hv:bH ρ [u,u'] l):∃ v v',l=[v,v']/\VR ρ u v/\VR ρ u' v':=by
 obtain ⟨v,t,rfl,h1,h2⟩:=hv;obtain ⟨v',rfl,h3⟩:=bH.one h2;exact ⟨v,v',rfl,h1,h3⟩
theorem hY {o:Oper} {f:AV->Option AV} {x:Operand} (hs:∀ (w:World) (ρ : aL) (a:Act) (v r:AV),VR ρ v (a.eval x)->f v=some r->ei P w ρ (execOp a.eval o) r):qJ P keep find o (on1 f (Am.resolve find x)):=by
 cases hx:Am.resolve find x with
 | none=>trivial
 | some y=>intro loc vs tm ρ h w a hr he v r hv hf;exact hs w ρ a v r (aM he hx hv) hf
theorem rM {o:Oper} {f:AV->AV->Option AV} {x y:Operand} (hs:∀ (w:World) (ρ : aL) (a:Act) (v u r:AV),VR ρ v (a.eval x)->VR ρ u (a.eval y)->f v u=some r->ei P w ρ (execOp a.eval o) r):qJ P keep find o (on2 f (Am.resolve find x) (Am.resolve find y)):=by
 cases hx:Am.resolve find x with
 | none=>trivial
 | some x' =>
  cases hy:Am.resolve find y with
  | none=>trivial
  | some y'=>intro loc vs tm ρ h w a hr he v u r hv hu hf;exact hs w ρ a v u r (aM he hx hv) (aM he hy hu) hf
theorem gf {o:Oper} {f:List AV->Option AV} {xs:List Operand} (hs:∀ (w:World) (ρ : aL) (a:Act) (us:List AV) (r:AV),bH ρ us (xs.map a.eval)->f us=some r->ei P w ρ (execOp a.eval o) r):qJ P keep find o (mf (.pn f) (aN find xs)):=by
 cases hx:aN find xs with
 | none=>trivial
 | some y=>intro loc vs tm ρ h w a hr he us r hv hf;exact hs w ρ a us r (cP he hx hv) hf
theorem nE {o:Oper} {f:List AV->ac->Option AV} {xs:List Operand} (hs:∀ (w:World) (ρ : aL) (h:ac) (a:Act) (us:List AV) (r:AV),HR P keep ρ h w->bH ρ us (xs.map a.eval)->f us h=some r->ei P w ρ (execOp a.eval o) r):qJ P keep find o (mf (.rd f) (aN find xs)):=by
 cases hx:aN find xs with
 | none=>trivial
 | some y=>intro loc vs tm ρ h w a hr he us r hv hf;exact hs w ρ h a us r hr (cP he hx hv) hf
theorem nD {o:Oper} {f:List AV->Option (cX×(Nat->AV))} {xs:List Operand} (hs:∀ (w:World) (ρ : aL) (a:Act) (us:List AV) (r:cX×(Nat->AV)),bH ρ us (xs.map a.eval)->f us=some r->Aw P keep w ρ (execOp a.eval o) r):qJ P keep find o (mf (.al f) (aN find xs)):=by
 cases hx:aN find xs with
 | none=>trivial
 | some y=>intro loc vs tm ρ h w a hr he us r hv hf;exact hs w ρ a us r (cP he hx hv) hf
theorem gR {o:Oper} {f:List AV->Nat->ac->Option (AV×ac)} {xs:List Operand} (hs:∀ (w:World) (ρ : aL) (h:ac) (a:Act) (us:List AV) (id:Nat) (q:AV×ac),HR P keep ρ h w->h.next<=id->bH ρ us (xs.map a.eval)->f us id h=some q->pr P keep w ρ h (execOp a.eval o) q.1 q.2):qJ P keep find o (mf (.ef f) (aN find xs)):=by
 cases hx:aN find xs with
 | none=>trivial
 | some y=>intro loc vs tm ρ h w a hr he us id q hid hv hf;exact hs w ρ h a us id q hr hid (cP he hx hv) hf
theorem wR {dst:Option Tmp} {ty:TypeId} {pos:String} {after:Array Edge} {guard:Option (Nat×Bool)} {x:Operand} {v r:AV} (hv:VR ρ v (a.eval x)) (hn:aj v=some r):ei P w ρ (execOp a.eval ⟨dst,.nilCheck x,ty,pos,after,guard⟩) r:=by
 cases v with
 | ptr o =>
  cases o with
  | none=>cases hn
  | some p =>
   cases hn
   have hv':=hv
   obtain ⟨p',hp,e⟩:=hv
   exact ⟨a.eval x,by simp only [execOp,e,Sem.run_pure],hv'⟩
 | func f b c =>
  have hv':=hv
  obtain ⟨fn',a',b',e,hf,ha,hb⟩:=hv
  cases f with
  | func g=>cases hn;cases hf;exact ⟨a.eval x,by simp only [execOp,e,Sem.run_pure],hv'⟩
  | yield l=>cases hn;obtain ⟨p,_,_,rfl⟩:=hf;exact ⟨a.eval x,by simp only [execOp,e,Sem.run_pure],hv'⟩
  | _=>cases hn
 | slice o n c g =>
  cases hn
  have hv':=hv
  cases o with
  | none=>obtain ⟨_,_,_,e⟩:=hv;exact ⟨a.eval x,by simp only [execOp,e,Sem.run_pure],hv'⟩
  | some p=>obtain ⟨_,_,_,_,e,_⟩:=hv;exact ⟨a.eval x,by simp only [execOp,e,Sem.run_pure],hv'⟩
 | map o =>
  cases hn
  have hv':=hv
  cases o with
  | none=>exact ⟨a.eval x,by simp only [execOp,show a.eval x=_ from hv,Sem.run_pure],hv'⟩
  | some p=>obtain ⟨_,_,_,e⟩:=hv;exact ⟨a.eval x,by simp only [execOp,e,Sem.run_pure],hv'⟩
 | _=>cases hn
end
end Go.Am
namespace Go.Am
section
variable {P:Program} {keep:aK} {find:Nat->Option bN}
theorem kd (parts:Array (Nat×Operand)) (g:Operand->Value):((parts.map fun (i,x)=>(i,g x)).toList.map (·.1))=parts.toList.map (·.1)/\((parts.map fun (i,x)=>(i,g x)).toList.map (·.2))=(parts.toList.map (·.2)).map g:=by
 constructor <;> simp [Function.comp_def]
theorem jg {args:Array Operand} {a:Act} {v:Value} (h:args.toList.map a.eval=[v]):args.map a.eval=#[v]:=by
 apply Array.toList_inj.1;simpa using h
theorem kx {args:Array Operand} {a:Act} {v u:Value} (h:args.toList.map a.eval=[v,u]):args.map a.eval=#[v,u]:=by
 apply Array.toList_inj.1;simpa using h
theorem vx {dst:Option Tmp} {ty:TypeId} {pos:String} {after:Array Edge} {guard:Option (Nat×Bool)} (b:Builtin) (args:Array Operand) (ts:Array TypeId) :
  qJ P keep find ⟨dst,.call ⟨.builtin b,args,ts⟩,ty,pos,after,guard⟩ (R8 P find b args ts):=by
 unfold R8
 simp only
 cases ht:ts[0]? with
 | none=>trivial
 | some t =>
  simp only
  have hex:∀ (a:Act),execOp a.eval ⟨dst,.call ⟨.builtin b,args,ts⟩,ty,pos,after,guard⟩=(do let d ← (pure {target:=.builtin b ts ty (args.map fun | .const _=>true | _=>false),args:=args.map a.eval }:Sem Deferred);invoke d.target d.args):=fun a=>rfl
  have run:∀ {w:World} {a:Act} {s:Sem Value},builtin b ts ty (args.map fun | .const _=>true | _=>false) (args.map a.eval)=(do pure (.value (← s)))->(execOp a.eval ⟨dst,.call ⟨.builtin b,args,ts⟩,ty,pos,after,guard⟩).run P w=(do pure (.value (← s)):Sem Next).run P w:=by
   intro w a s hs
   rw [hex,Sem.run_bind,Sem.run_pure,Result.andThen_ok]
   exact congrArg (fun s=>s.run P w) hs
  have gv:∀ {w:World} {ρ : aL} {a:Act} {s:Sem Value} {r:AV},builtin b ts ty (args.map fun | .const _=>true | _=>false) (args.map a.eval)=(do pure (.value (← s)))->bU P w ρ s r->ei P w ρ (execOp a.eval ⟨dst,.call ⟨.builtin b,args,ts⟩,ty,pos,after,guard⟩) r:=by
   intro w ρ a s r hs hg
   obtain ⟨v,h1,h2⟩:=dD hg
   exact ⟨v,by rw [run hs];exact h1,h2⟩
  have dv:∀ {w:World} {ρ : aL} {h:ac} {a:Act} {s:Sem Value} {r:AV} {h':ac},builtin b ts ty (args.map fun | .const _=>true | _=>false) (args.map a.eval)=(do pure (.value (← s)))->ve P keep w ρ h s r h'->pr P keep w ρ h (execOp a.eval ⟨dst,.call ⟨.builtin b,args,ts⟩,ty,pos,after,guard⟩) r h':=by
   intro w ρ h a s r h' hs hg
   obtain ⟨ρ',nx,v,w',h1,h2⟩:=Sb hg
   exact ⟨ρ',nx,v,w',by rw [run hs];exact h1,h2⟩
  cases b with
  | len =>
   simp only
   split
   ·rename_i k e hu
    exact nE fun w ρ h a us r hr hv hf=>by
     obtain ⟨u,rfl,h1⟩:=c7 hf
     obtain ⟨v,e1,h2⟩:=hv.one
     exact gv (s:=Builtin.len_ ts ty #[v]) (by rw [jg e1];rfl) (wM hu ht hr h1 h2)
   ·exact gf fun w ρ a us r hv hf=>by
     obtain ⟨u,rfl,h1⟩:=c7 hf
     obtain ⟨v,e1,h2⟩:=hv.one
     exact gv (s:=Builtin.len_ ts ty #[v]) (by rw [jg e1];rfl) (By h1 h2 ht)
  | cap =>
   exact gf fun w ρ a us r hv hf=>by
    obtain ⟨u,rfl,h1⟩:=c7 hf
    obtain ⟨v,e1,h2⟩:=hv.one
    exact gv (s:=Builtin.cap_ ts ty #[v]) (by rw [jg e1];rfl) (Bl h1 h2 ht)
  | max =>
   exact gf fun w ρ a us r hv hf=>by
    refine gv (s:=Builtin.max_ ts ty (args.map a.eval)) rfl ?_
    have:=Ka (P:=P) (ts:=ts) (ty:=ty) (w:=w) hf hv
    rw [show (args.toList.map a.eval).toArray=args.map a.eval from by apply Array.toList_inj.1;simp] at this
    exact this
  | min =>
   exact gf fun w ρ a us r hv hf=>by
    refine gv (s:=Builtin.min_ ts ty (args.map a.eval)) rfl ?_
    have:=Kb (P:=P) (ts:=ts) (ty:=ty) (w:=w) hf hv
    rw [show (args.toList.map a.eval).toArray=args.map a.eval from by apply Array.toList_inj.1;simp] at this
    exact this
  | append =>
   simp only
   split
   ·rename_i u hu1
    have key:∀ {d:TypeDesc},P.underlying u=some d->(∀ k,d≠.int k)->qJ P keep find ⟨dst,.call ⟨.builtin .append,args,ts⟩,ty,pos,after,guard⟩ (mf (.ef fun vs id h=>l2 (fun s x=>aS P t s x id h) vs) (aN find args.toList)):=by
     intro d hud hint
     exact gR fun w ρ h a us id q hr hid hv hf=>by
      obtain ⟨s,x,rfl,h1⟩:=fg hf
      obtain ⟨v,v',e1,h2,h3⟩:=hv.two
      exact dv (s:=Builtin.append_ ts ty #[v,v']) (by rw [kx e1];rfl) (tQ ht hu1 hud hint hid hr h1 h2 h3)
    split
    ·rename_i hud;exact key hud (by intro k e;cases e)
    ·rename_i hud;exact key hud (by intro k e;cases e)
    ·trivial
   ·trivial
  | copy =>
   exact gR fun w ρ h a us id q hr hid hv hf=>by
    obtain ⟨s,x,rfl,h1⟩:=fg hf
    obtain ⟨v,v',e1,h2,h3⟩:=hv.two
    exact dv (s:=Builtin.copy_ ts ty #[v,v']) (by rw [kx e1];rfl) (yI ht hr h1 h2 h3)
  | delete =>
   exact gR fun w ρ h a us id q hr hid hv hf=>by
    obtain ⟨s,x,rfl,h1⟩:=fg hf
    obtain ⟨v,v',e1,h2,h3⟩:=hv.two
    exact dv (s:=Builtin.delete_ ts ty #[v,v']) (by rw [kx e1];rfl) (wN ht hr h1 h2 h3)
  | unsafeSliceData =>
   exact gf fun w ρ a us r hv hf=>by
    obtain ⟨u,rfl,h1⟩:=c7 hf
    obtain ⟨v,e1,h2⟩:=hv.one
    exact gv (s:=Builtin.unsafeSliceData_ ts ty #[v]) (by rw [jg e1];rfl) (qk h1 h2)
  | unsafeString =>
   simp only
   split
   ·rename_i e hu
    split
    ·rename_i hu8 hs1
     exact gR fun w ρ h a us id q hr hid hv hf=>by
      obtain ⟨s,x,rfl,h1⟩:=fg hf
      obtain ⟨v,v',e1,h2,h3⟩:=hv.two
      exact dv (s:=Builtin.unsafeString_ ts ty #[v,v']) (by rw [kx e1];rfl) (z7 ht hu hs1 hr h1 h2 h3)
    ·trivial
   ·trivial
  | clear =>
   exact gR fun w ρ h a us id q hr hid hv hf=>by
    obtain ⟨s,rfl,h1⟩:=c7 hf
    obtain ⟨v,e1,h2⟩:=hv.one
    exact dv (s:=Builtin.clear_ ts ty #[v]) (by rw [jg e1];rfl) (wi ht hr h1 h2)
  | _=>trivial
end
end Go.Am
namespace Go.Am
section
variable {P:Program} {keep:aK} {find:Nat->Option bN}
theorem bH.cons_inv {ρ : aL} {u:AV} {us:List AV} {l:List Value} (hv:bH ρ (u::us) l):∃ v t,l=v::t/\VR ρ u v/\bH ρ us t:=hv
theorem I4 {w:World} {k:FuncId} {fn:Func} {args:Array Value} {e:Array Value->Sem Value} (hf:P.funcs[k]?=some fn) (hb:fn.body=none) (hn:(fn.name == "runtime.NumGoroutine")=false) (h1:Extern.findNext fn=none) (h2:Extern.find fn=some e) {v:Value} (hr:(e args).run P w=.ok v w) :
  (callFunc k args).run P w=.ok (.value v) w:=by
 unfold callFunc
 simp only [program,Sem.run_bind]
 show ((match P.funcs[k]? with
  | none=>stuck "call: no such function"
  | some fn=>_:Sem Next)).run P w=_
 rw [hf]
 simp only [hn,hb,Option.isNone_none,Bool.false_eq_true,if_false,if_true,Sem.run_bind,h1,h2]
 show Result.andThen (Sem.run P (mark (Mark.extern k)) w) _=_
 simp [mark,Sem.run,hr]
theorem UI {k:FuncId} (h:yO P k=1):∃ fn,P.funcs[k]?=some fn/\fn.body=none/\fn.name = "internal/abi.NoEscape" /\ fn.origin = "" := by
 unfold yO at h
 split at h
 ·rename_i fn hf
  split at h
  ·rename_i hb
   rw [Bool.and_eq_true,Option.isNone_iff_eq_none,decide_eq_true_eq] at hb
   split at h
   ·exact ⟨fn,hf,hb.1,‹_›,hb.2⟩
   ·split at h <;> cases h
  ·cases h
 ·cases h
theorem UJ {k:FuncId} (h:yO P k=2):∃ fn,P.funcs[k]?=some fn/\fn.body=none/\fn.name = "internal/bytealg.IndexByteString" /\ fn.origin = "" := by
 unfold yO at h
 split at h
 ·rename_i fn hf
  split at h
  ·rename_i hb
   rw [Bool.and_eq_true,Option.isNone_iff_eq_none,decide_eq_true_eq] at hb
   split at h
   ·cases h
   ·split at h
    ·exact ⟨fn,hf,hb.1,‹_›,hb.2⟩
    ·cases h
  ·cases h
 ·cases h
theorem jI (c:UInt8):∀ (l:List UInt8),-1<=Lib.indexByte l c
 | []=>by simp [Lib.indexByte]
 | x::l=>by
  have:=jI c l
  unfold Lib.indexByte
  split
  ·decide
  ·split
   ·decide
   ·omega
theorem yP (c:UInt8):∀ (l:List UInt8) (i:Nat),Sj c.toNat (l.map (·.toNat)) i=.int .i64 (if Lib.indexByte l c==-1 then -1 else (i:Int)+Lib.indexByte l c)
 | [],i=>rfl
 | x::l,i=>by
  have ih:=yP c l (i+1)
  have hlo:=jI c l
  show (Bool.rec (motive:=fun _=>AV) (Sj c.toNat (l.map (·.toNat)) (i+1)) (.int .i64 (Int.ofNat i)) (Nat.beq x.toNat c.toNat):AV)=_
  rw [dC]
  unfold Lib.indexByte
  by_cases h:x.toNat=c.toNat
  ·have hx:x=c:=UInt8.toNat_inj.1 h
   subst hx
   simp
  ·rw [if_neg h,ih]
   have hx:¬x=c:=fun e=>h (by rw [e])
   have h0:(x==c)=false:=by simpa using hx
   simp only [h0,Bool.false_eq_true,if_false]
   by_cases h2:Lib.indexByte l c==-1
   ·simp [h2]
   ·have h2':¬Lib.indexByte l c=-1:=by simpa using h2
    have h3:¬(Lib.indexByte l c+1==-1)=true:=by simp;omega
    rw [if_neg h2,if_neg h2,if_neg h3]
    congr 1;push_cast;omega
theorem oL {w:World} {ρ : aL} {s c r:AV} {a b:Value} (hf:rO s c=some r) (hs:VR ρ s a) (hc:VR ρ c b):∃ v,(Extern.BytealgIndexByte.indexByte #[a,b]).run P w=.ok v w/\VR ρ r v:=by
 obtain ⟨l,rfl,h1⟩:=cL hf
 obtain ⟨k,h2,h3⟩:=af.1 h1
 cases h3
 obtain ⟨rfl,hk⟩:=CM h2
 obtain ⟨sb,rfl,rfl⟩:=hs
 cases hc
 refine ⟨_,Lib.run_indexByteString sb _ w,?_⟩
 have hk':(UInt8.ofNat k).toNat=k:=by rw [UInt8.toNat_ofNat'];omega
 have:=yP (UInt8.ofNat k) sb.data.toList 0
 rw [hk'] at this
 rw [this]
 have e:(Int.ofNat k).toNat.toUInt8=UInt8.ofNat k:=rfl
 rw [e]
 show Value.int .i64 _=Value.int .i64 _
 congr 1
 have hlo:=jI (UInt8.ofNat k) sb.data.toList
 split
 ·rename_i h;simpa using h
 ·simp
theorem kH (o:Oper):qJ P keep find o (dw P find o.op):=by
 obtain ⟨dst,op,ty,pos,after,guard⟩:=o
 cases op with
 | move x =>
  simp only [dw]
  cases hx:Am.resolve find x with
  | none=>trivial
  | some y=>intro loc vs tm ρ h w a hr he v hv;exact ⟨a.eval x,rfl,aM he hx hv⟩
 | assign x =>
  simp only [dw]
  cases hx:Am.resolve find x with
  | none=>trivial
  | some y=>intro loc vs tm ρ h w a hr he v hv;exact ⟨a.eval x,rfl,aM he hx hv⟩
 | pick c x y =>
  simp only [dw]
  cases hc:Am.resolve find c with
  | none=>trivial
  | some c' =>
   cases hx:Am.resolve find x with
   | none=>trivial
   | some x' =>
    cases hy:Am.resolve find y with
    | none=>trivial
    | some y' =>
     intro loc vs tm ρ h w a hr he t r h1 h2
     have e1:=VR.bool (aM he hc h1)
     cases t with
     | true =>
      simp only [if_true] at h2
      refine ⟨a.eval x,?_,aM he hx h2⟩
      simp only [execOp,e1,asBool,Sem.run_bind,Sem.run_pure,Result.andThen_ok,if_true]
     | false =>
      simp only [Bool.false_eq_true,if_false] at h2
      refine ⟨a.eval y,?_,aM he hy h2⟩
      simp only [execOp,e1,asBool,Sem.run_bind,Sem.run_pure,Result.andThen_ok,Bool.false_eq_true,if_false]
 | alloc t =>
  intro loc vs tm ρ h w a hr he us r _ hf
  exact mI (vj hf)
 | box t x =>
  exact nD fun w ρ a us r hv hf=>by
   obtain ⟨u,rfl,h1⟩:=c7 hf
   obtain ⟨v,e1,h2⟩:=hv.one
   simp only [List.map_cons,List.map_nil,List.cons.injEq,and_true] at e1
   subst e1
   exact mI (AJ h1 h2)
 | build t ps =>
  exact gf fun w ρ a us r hv hf=>by
   have e:=kd ps a.eval
   exact dD (vw (ps:=ps.map fun (i,x)=>(i,a.eval x)) (by rw [e.1];exact hf) (by rw [e.2];exact hv))
 | buildSlice t n ps =>
  exact nD fun w ρ a us r hv hf=>by
   have e:=kd ps a.eval
   have hb:fS P keep w ρ (Instr.buildSlice t n (ps.map fun (i,x)=>(i,a.eval x))) r:=by
    apply ni
    ·rw [e.1];exact hf
    ·rw [e.2];exact hv
   have hm:=mI hb
   exact hm
 | insert t m k x =>
  exact gR fun w ρ h a us id q hr hid hv hf=>by
   obtain ⟨u1,u2,u3,rfl,h1⟩:=nG hf
   obtain ⟨v1,t1,e1,h2,h3⟩:=hv.cons_inv
   obtain ⟨v2,t2,e2,h4,h5⟩:=h3.cons_inv
   obtain ⟨v3,e3,h6⟩:=h5.one
   subst e3 e2
   simp only [List.map_cons,List.map_nil,List.cons.injEq,and_true] at e1
   obtain ⟨rfl,rfl,rfl⟩:=e1
   obtain ⟨h7,h8⟩:=nI hr h1 h2 h4 h6
   rw [h7];exact HZ h8
 | load t x =>
  simp only [dw]
  cases hx:Am.resolve find x with
  | none=>trivial
  | some y =>
   cases hs:aC P t with
   | none=>trivial
   | some s =>
    cases hg:gB P t with
    | none=>trivial
    | some g =>
     cases g with
     | false=>intro loc vs tm ρ h w a hr he v r hv hf;exact dD (pN hg hr hf (aM he hx hv))
     | true=>intro loc vs tm ρ h w a hr he v r hv hf;exact dD (zi hs hg hr hf (aM he hx hv))
 | store t x y =>
  simp only [dw]
  cases hx:Am.resolve find x with
  | none=>trivial
  | some x' =>
   cases hy:Am.resolve find y with
   | none=>trivial
   | some y' =>
    cases hs:aC P t with
    | none=>trivial
    | some s =>
     cases hg:gB P t with
     | none=>match s with | 0 | 1 | _+2=>trivial
     | some g =>
      have many:∀ loc vs tm ρ h w a,HR P keep ρ h w->gZ find loc vs tm ρ a->∀ us (id:Nat) q,h.next<=id->be [x',y'] loc vs tm=some us->l2 (eV s h) us=some q->pr P keep w ρ h (execOp a.eval ⟨dst,.store t x y,ty,pos,after,guard⟩) q.1 q.2:=by
       intro loc vs tm ρ h w a hr he us id q _ hg hf
       obtain ⟨u1,u2,rfl,h1⟩:=fg hf
       rw [lS] at hg
       obtain ⟨v,g1,g2⟩:=af.1 hg
       obtain ⟨us',g3,g4⟩:=af.1 g2
       rw [lS] at g3
       obtain ⟨v',g5,g6⟩:=af.1 g3
       cases g6;cases g4
       obtain ⟨h7,h8⟩:=oc hs hr h1 (aM he hx g1) (aM he hy g5)
       rw [h7];exact HZ h8
      match s,g with
      | 1,false =>
       intro loc vs tm ρ h w a hr he p v q hp hv hf
       obtain ⟨h7,h8⟩:=xt hs hr hf (aM he hx hp) (aM he hy hv)
       rw [h7];exact HZ h8
      | 0,false=>trivial
      | _+2,false=>trivial
      | 0,true=>exact many
      | 1,true=>exact many
      | _+2,true=>exact many
 | nilCheck x=>exact hY fun w ρ a v r hv hf=>wR hv hf
 | binOp op t x y u =>
  exact rM fun w ρ a v u r hv hu hf=>dD (AI hf hv hu)
 | unOp op t x=>exact hY fun w ρ a v r hv hf=>dD (KV hf hv)
 | convert s d x =>
  simp only [dw]
  split
  ·rename_i e hs hd
   exact nD fun w ρ a us r hv hf=>by
    obtain ⟨u,rfl,h1⟩:=c7 hf
    obtain ⟨v,e1,h2⟩:=hv.one
    simp only [List.map_cons,List.map_nil,List.cons.injEq,and_true] at e1
    subst e1
    exact mI (tp hs hd h1 h2)
  ·rename_i e hs hd
   exact nE fun w ρ h a us r hr hv hf=>by
    obtain ⟨u,rfl,h1⟩:=c7 hf
    obtain ⟨v,e1,h2⟩:=hv.one
    simp only [List.map_cons,List.map_nil,List.cons.injEq,and_true] at e1
    subst e1
    exact dD (sf hr hs hd h1 h2)
  ·rename_i t hs hd
   exact nE fun w ρ h a us r hr hv hf=>by
    obtain ⟨u,rfl,h1⟩:=c7 hf
    obtain ⟨v,e1,h2⟩:=hv.one
    simp only [List.map_cons,List.map_nil,List.cons.injEq,and_true] at e1
    subst e1
    exact dD (tu hs hd hr h1 h2)
  ·rename_i u hs hd
   exact nE fun w ρ h a us r hr hv hf=>by
    obtain ⟨u,rfl,h1⟩:=c7 hf
    obtain ⟨v,e1,h2⟩:=hv.one
    simp only [List.map_cons,List.map_nil,List.cons.injEq,and_true] at e1
    subst e1
    exact dD (oJ hs hd hr h1 h2)
  ·exact hY fun w ρ a v r hv hf=>dD (yH hf hv)
 | makeInterface t x=>exact hY fun w ρ a v r hv hf=>dD (uh hf hv)
 | makeFunc fn first cap =>
  exact gf fun w ρ a us r hv hf=>dD (wP (first:=first.map a.eval) (cap:=cap.map a.eval) hf (by simp) (by simpa using hv))
 | makeMap t r0 =>
  cases r0 with
  | none =>
   intro loc vs tm ρ h w a hr he us r _ hf
   exact mI (rT hf)
  | some x =>
   exact nD fun w ρ a us r hv hf=>by
    obtain ⟨u,rfl,h1⟩:=c7 hf
    obtain ⟨v,e1,h2⟩:=hv.one
    simp only [List.map_cons,List.map_nil,List.cons.injEq,and_true] at e1
    subst e1
    exact mI (rU h1 h2)
 | makeSlice t l c =>
  exact nD fun w ρ a us r hv hf=>by
   obtain ⟨u,u',rfl,h1⟩:=fg hf
   obtain ⟨v,v',e1,h2,h3⟩:=hv.two
   simp only [List.map_cons,List.map_nil,List.cons.injEq,and_true] at e1
   obtain ⟨rfl,rfl⟩:=e1
   exact mI (oP h1 h2 h3)
 | slice t x lo hi mx =>
  exact gf fun w ρ a us r hv hf=>by
   obtain ⟨u,us',e0,hv1,hv2⟩:∃ u us',us=u::us'/\VR ρ u (a.eval x)/\bH ρ us' ((lo.toList++(hi.toList++mx.toList)).map a.eval):=by
    cases us with
    | nil=>cases hv
    | cons u us' =>
     obtain ⟨v,t1,e1,h2,h3⟩:=hv.cons_inv
     simp only [List.map_cons,List.cons.injEq] at e1
     obtain ⟨rfl,rfl⟩:=e1
     exact ⟨u,us',rfl,h2,h3⟩
   subst e0
   refine dD (?_:bU P w ρ (Instr.sliceAt t (a.eval x) (lo.map a.eval) (hi.map a.eval) (mx.map a.eval)) r)
   have hnone:OR ρ none ((none:Option Operand).map a.eval):=rfl
   have hsome:∀ {u:AV} {y:Operand},VR ρ u (a.eval y)->OR ρ (some u) ((some y).map a.eval):=fun h=>⟨_,rfl,h⟩
   unfold aU at hf
   cases lo <;> cases hi <;> cases mx <;> simp only [Option.isSome_none,Option.isSome_some] at hf
   ·obtain ⟨_,e,h1⟩:=c7 hf
    cases e
    exact eR h1 hv1 hnone hnone hnone
   ·cases hf
   ·obtain ⟨_,b,e,h1⟩:=fg hf
    cases e
    obtain ⟨v,e1,h2⟩:=hv2.one
    simp at e1;subst e1
    exact eR h1 hv1 hnone (hsome h2) hnone
   ·obtain ⟨_,b,c,e,h1⟩:=nG hf
    cases e
    obtain ⟨v,v',e1,h2,h3⟩:=hv2.two
    simp at e1;obtain ⟨rfl,rfl⟩:=e1
    exact eR h1 hv1 hnone (hsome h2) (hsome h3)
   ·obtain ⟨_,b,e,h1⟩:=fg hf
    cases e
    obtain ⟨v,e1,h2⟩:=hv2.one
    simp at e1;subst e1
    exact eR h1 hv1 (hsome h2) hnone hnone
   ·cases hf
   ·obtain ⟨_,b,c,e,h1⟩:=nG hf
    cases e
    obtain ⟨v,v',e1,h2,h3⟩:=hv2.two
    simp at e1;obtain ⟨rfl,rfl⟩:=e1
    exact eR h1 hv1 (hsome h2) (hsome h3) hnone
   ·obtain ⟨_,b,c,d,e,h1⟩:=Vw hf
    cases e
    obtain ⟨v,t1,e1,h2,h3⟩:=hv2.cons_inv
    obtain ⟨v',v'',e2,h4,h5⟩:=h3.two
    subst e2
    simp at e1;obtain ⟨rfl,rfl,rfl⟩:=e1
    exact eR h1 hv1 (hsome h2) (hsome h4) (hsome h5)
 | fieldAddr t x f=>exact hY fun w ρ a v r hv hf=>dD (oG hf hv)
 | field t x f=>exact hY fun w ρ a v r hv hf=>dD (wy hf hv)
 | indexAddr t x i=>exact rM fun w ρ a v u r hv hu hf=>dD (oK hf hv hu)
 | index t x i=>exact rM fun w ρ a v u r hv hu hf=>dD (wE hf hv hu)
 | lookup t m k ok =>
  exact nE fun w ρ h a us r hr hv hf=>by
   obtain ⟨u,u',rfl,h1⟩:=fg hf
   obtain ⟨v,v',e1,h2,h3⟩:=hv.two
   simp only [List.map_cons,List.map_nil,List.cons.injEq,and_true] at e1
   obtain ⟨rfl,rfl⟩:=e1
   exact dD (tU hr h1 h2 h3)
 | mapUpdate t m k x =>
  exact gR fun w ρ h a us id q hr hid hv hf=>by
   obtain ⟨u1,u2,u3,rfl,h1⟩:=nG hf
   obtain ⟨v1,t1,e1,h2,h3⟩:=hv.cons_inv
   obtain ⟨v2,t2,e2,h4,h5⟩:=h3.cons_inv
   obtain ⟨v3,e3,h6⟩:=h5.one
   subst e3 e2
   simp only [List.map_cons,List.map_nil,List.cons.injEq,and_true] at e1
   obtain ⟨rfl,rfl,rfl⟩:=e1
   obtain ⟨h7,h8⟩:=nI hr h1 h2 h4 h6
   rw [h7];exact HZ h8
 | range t x =>
  exact gR fun w ρ h a us id q hr hid hv hf=>by
   obtain ⟨u,rfl,h1⟩:=c7 hf
   obtain ⟨v,e1,h2⟩:=hv.one
   simp only [List.map_cons,List.map_nil,List.cons.injEq,and_true] at e1
   subst e1
   exact Sb (wY hid hr h1 h2)
 | next it isString =>
  cases isString with
  | false=>trivial
  | true =>
   exact gR fun w ρ h a us id q hr hid hv hf=>by
    obtain ⟨u,rfl,h1⟩:=c7 hf
    obtain ⟨v,e1,h2⟩:=hv.one
    simp only [List.map_cons,List.map_nil,List.cons.injEq,and_true] at e1
    subst e1
    exact Sb (zt hr h1 h2)
 | extract t i=>exact hY fun w ρ a v r hv hf=>dD (rZ hf hv)
 | call c =>
  obtain ⟨callee,args,ts⟩:=c
  cases callee with
  | builtin b=>exact vx b args ts
  | invoke r m=>trivial
  | value f =>
   have generic:qJ P keep find ⟨dst,.call ⟨.value f,args,ts⟩,ty,pos,after,guard⟩ (match Am.resolve find f,aN find args.toList with | some g,some xs=>.cl g xs | _,_=>.bad):=by
    cases hf:Am.resolve find f with
    | none=>trivial
    | some g =>
     cases hx:aN find args.toList with
     | none=>trivial
     | some xs=>exact ⟨f,args,ts,rfl,hf,hx⟩
   cases f with
   | func k =>
    simp only [dw]
    split
    ·rename_i hk
     obtain ⟨fn,h1,h2,h3,h4⟩:=UI hk
     obtain ⟨h5,h6⟩:=tT fn h3 h4
     exact gf fun w ρ a us r hv hf=>by
      obtain ⟨u,rfl,h7⟩:=c7 hf
      cases h7
      obtain ⟨v,e1,h8⟩:=hv.one
      refine ⟨v,?_,h8⟩
      have e2:=jg e1
      simp only [execOp,Go.resolve,Act.eval,Deferred.ofValue,Sem.run_bind,Sem.run_pure,Result.andThen_ok,invoke]
      rw [e2]
      simp only [Array.append_empty,Array.empty_append]
      exact I4 h1 h2 (by rw [h3];decide) h5 h6 rfl
    ·rename_i hk
     obtain ⟨fn,h1,h2,h3,h4⟩:=UJ hk
     obtain ⟨h5,h6⟩:=rF fn h3 h4
     exact gf fun w ρ a us r hv hf=>by
      obtain ⟨u,u',rfl,h7⟩:=fg hf
      obtain ⟨v,v',e1,h8,h9⟩:=hv.two
      obtain ⟨x,h10,h11⟩:=oL (P:=P) (w:=w) h7 h8 h9
      refine ⟨x,?_,h11⟩
      have e2:=kx e1
      simp only [execOp,Go.resolve,Act.eval,Deferred.ofValue,Sem.run_bind,Sem.run_pure,Result.andThen_ok,invoke]
      rw [e2]
      simp only [Array.append_empty,Array.empty_append]
      exact I4 h1 h2 (by rw [h3];decide) h5 h6 h10
    ·cases hx:aN find args.toList with
     | none=>trivial
     | some xs=>exact ⟨.func k,args,ts,rfl,rfl,hx⟩
   | tmp t =>
   simp only [dw]
   exact generic
   | const t =>
   simp only [dw]
   exact generic
   | global t =>
   simp only [dw]
   exact generic
 | _=>trivial
end
end Go.Am
namespace Go.Am
def dM (ro:Option Nat):Fence:={Fence.wide with round:=ro }
section
variable {P:Program} {keep:aK} {w:World} {ρ : aL} {h:ac}
def Xi (P:Program) (keep:aK) (ρ : aL) (h:ac) (w:World) (r:AV×ac):Ending->World->Prop
 | .returned v,w'=>∃ ρ',VR ρ' r.1 v/\bv P keep ρ h w ρ' r.2 w'
 | _,_=>False
def dR (P:Program) (keep:aK) (call:an):Prop:=∀ t args h r,call t args h=some r->∀ ρ w avs,HR P keep ρ h w->bH ρ args avs ->
 match t with
 | .fn f=>(∃ fn c,P.funcs[f]?=some fn/\fn.body=some c)/\CallsIn (dM none) 0 P f avs.toArray w (Xi P keep ρ h w r)
 | .loop l=>∀ p,ρ l=some p->∃ f tmps assign body,(Instr.yield p.blk avs.toArray).run P w=.ok (.round p.blk f tmps assign body) w/\RoundIn (dM none) 0 P p.blk f tmps assign body w (Xi P keep ρ h w r)
def BJ (fn:Func):Bool:=fn.body.isNone||!(fn.name == "runtime.NumGoroutine")
def NamesOk (P:Program):Prop:=P.funcs.all BJ=true
theorem eQ (hn:NamesOk P) {f:FuncId} {fn:Func} {c:Code} {args:Array Value} (hf:P.funcs[f]?=some fn) (hb:fn.body=some c):(callFunc f args).run P w=.ok (.enter f args) w:=by
 have h1:BJ fn=true:=by
  unfold NamesOk at hn
  rw [Array.all_eq_true'] at hn
  exact hn fn (Array.mem_of_getElem? hf)
 simp only [BJ,hb,Option.isNone_some,Bool.false_or,Bool.not_eq_true'] at h1
 have h2:fn.name ≠ "runtime.NumGoroutine" := by simpa using h1
 simp [callFunc,hf,h2,hb]
theorem jT {call:an} {find:Nat->Option bN} {loc:List AV} {vs tm:Tr AV} {a:Act} {o:Oper} {id:Nat} {r:AV×ac} {ro:Option Nat} {next:Act->World->Prop} {Q:Exit->Act->World->Prop}
  (hn:NamesOk P) (hc:dR P keep call) (hr:HR P keep ρ h w) (he:gZ find loc vs tm ρ a) (hid:h.next<=id) (hi:(dw P find o.op).ev loc vs tm call id h=some r)
  (hnext:∀ ρ' v w',VR ρ' r.1 v->bv P keep ρ h w ρ' r.2 w'->next (a.put o.dst v) w'):o.wpIn (dM ro) 0 P a w next Q:=by
 refine ⟨fun _ _=>trivial,?_⟩
 have hnd:∀ c,o.op≠.defer c:=by
  intro c e
  rw [e] at hi
  cases hi
 rw [Oper.semAt_eq _ _ _ hnd]
 have hg:=kH (P:=P) (keep:=keep) (find:=find) o
 have give:∀ {v:AV},ei P w ρ (execOp a.eval o) v->some r=some (v,h)->o.uponIn (dM ro) 0 P a next Q ((execOp a.eval o).run P w):=by
  intro v hv e
  cases e
  obtain ⟨cv,h1,h2⟩:=hv
  rw [h1]
  exact hnext ρ cv w h2 (bv.refl hr)
 have does:pr P keep w ρ h (execOp a.eval o) r.1 r.2->o.uponIn (dM ro) 0 P a next Q ((execOp a.eval o).run P w):=by
  intro hd
  obtain ⟨ρ',nx,v,w',h1,h2,h3,h4⟩:=hd
  rw [h1]
  rcases h2 with rfl|⟨rfl,rfl⟩
  ·exact hnext ρ' v w' h3 h4
  ·exact hnext ρ' undef w' h3 h4
 cases hco:dw P find o.op with
 | bad=>rw [hco] at hi;cases hi
 | mv x =>
  rw [hco] at hi hg
  obtain ⟨v,h1,h2⟩:=af.1 (show ob (x.get loc vs tm) (fun v=>some (v,h))=some r from hi)
  exact give (hg loc vs tm ρ h w a hr he v h1) h2.symm
 | p1 f x =>
  rw [hco] at hi hg
  obtain ⟨v,h1,h2⟩:=af.1 (show ob (x.get loc vs tm) (fun v=>ob (f v) fun r=>some (r,h))=some r from hi)
  obtain ⟨u,h3,h4⟩:=af.1 h2
  exact give (hg loc vs tm ρ h w a hr he v u h1 h3) h4.symm
 | p2 f x y =>
  rw [hco] at hi hg
  obtain ⟨v,h1,h2⟩:=af.1 (show ob (x.get loc vs tm) (fun v=>ob (y.get loc vs tm) fun u=>ob (f v u) fun r=>some (r,h))=some r from hi)
  obtain ⟨u,h3,h4⟩:=af.1 h2
  obtain ⟨s,h5,h6⟩:=af.1 h4
  exact give (hg loc vs tm ρ h w a hr he v u s h1 h3 h5) h6.symm
 | pick c x y =>
  rw [hco] at hi hg
  obtain ⟨v,h1,h2⟩:=af.1 (show ob (c.get loc vs tm) (fun v=>cH (fun t=>ob (Bool.rec (motive:=fun _=>Option AV) (y.get loc vs tm) (x.get loc vs tm) t) fun r=>some (r,h)) v)=some r from hi)
  obtain ⟨t,e,h3⟩:=fV h2
  subst e
  obtain ⟨s,h5,h6⟩:=af.1 h3
  refine give (hg loc vs tm ρ h w a hr he t s h1 ?_) h6.symm
  cases t <;> exact h5
 | pn f xs =>
  rw [hco] at hi hg
  obtain ⟨v,h1,h2⟩:=af.1 (show ob (be xs loc vs tm) (fun v=>ob (f v) fun r=>some (r,h))=some r from hi)
  obtain ⟨u,h3,h4⟩:=af.1 h2
  exact give (hg loc vs tm ρ h w a hr he v u h1 h3) h4.symm
 | ld1 x =>
  rw [hco] at hi hg
  obtain ⟨v,h1,h2⟩:=af.1 (show ob (x.get loc vs tm) (fun v=>ob (am h v) fun r=>some (r,h))=some r from hi)
  obtain ⟨u,h3,h4⟩:=af.1 h2
  exact give (hg loc vs tm ρ h w a hr he v u h1 h3) h4.symm
 | ldn s x =>
  rw [hco] at hi hg
  obtain ⟨v,h1,h2⟩:=af.1 (show ob (x.get loc vs tm) (fun v=>ob (di s h v) fun r=>some (r,h))=some r from hi)
  obtain ⟨u,h3,h4⟩:=af.1 h2
  exact give (hg loc vs tm ρ h w a hr he v u h1 h3) h4.symm
 | rd f xs =>
  rw [hco] at hi hg
  obtain ⟨v,h1,h2⟩:=af.1 (show ob (be xs loc vs tm) (fun v=>ob (f v h) fun r=>some (r,h))=some r from hi)
  obtain ⟨u,h3,h4⟩:=af.1 h2
  exact give (hg loc vs tm ρ h w a hr he v u h1 h3) h4.symm
 | al f xs =>
  rw [hco] at hi hg
  obtain ⟨v,h1,h2⟩:=af.1 (show ob (be xs loc vs tm) (fun v=>ob (f v) fun r=>some (r.2 id,h.new id r.1))=some r from hi)
  obtain ⟨u,h3,h4⟩:=af.1 h2
  cases h4
  obtain ⟨SP,sz,cv,w',g1,g2,g3,g4,g5⟩:=hg loc vs tm ρ h w a hr he v u h1 h3
  have f1:=(hr.fresh hid).1
  obtain ⟨g6,g7⟩:=g5 id f1
  refine does ⟨_,_,cv,w',g1,.inl rfl,g7,?_⟩
  rw [ii hid]
  exact hr.push hid (by omega) g2 g3 g4 g6
 | st1 x y =>
  rw [hco] at hi hg
  obtain ⟨v,h1,h2⟩:=af.1 (show ob (x.get loc vs tm) (fun p=>ob (y.get loc vs tm) fun v=>aW h p v)=some r from hi)
  obtain ⟨u,h3,h4⟩:=af.1 h2
  exact does (hg loc vs tm ρ h w a hr he v u r h1 h3 h4)
 | ef f xs =>
  rw [hco] at hi hg
  obtain ⟨v,h1,h2⟩:=af.1 (show ob (be xs loc vs tm) (fun v=>f v id h)=some r from hi)
  exact does (hg loc vs tm ρ h w a hr he v id r hid h1 h2)
 | cl g xs =>
  rw [hco] at hi hg
  obtain ⟨g0,args,ts,hop,hg0,hxs⟩:=hg
  obtain ⟨fv,h1,h2⟩:=af.1 (show ob (g.get loc vs tm) (fun f=>ob (be xs loc vs tm) fun us=>gF call us h f)=some r from hi)
  obtain ⟨us,h3,h4⟩:=af.1 h2
  have vf:=aM he hg0 h1
  have va:=cP he hxs h3
  obtain ⟨fn,first,cap,e,h5⟩:=ry (show yM _ fv=some r from h4)
  subst e
  obtain ⟨fn',a',b',e2,hf,ha,hb⟩:=vf
  have hex:execOp a.eval o=(do let d ← Deferred.ofValue (a.eval g0) (args.map a.eval);invoke d.target d.args):=by
   obtain ⟨dst,op,ty,pos,after,guard⟩:=o
   simp only at hop
   subst hop
   rfl
  have hargs:(args.toList.map a.eval)=(args.map a.eval).toList:=by simp
  rw [hargs] at va
  cases fn with
  | func f =>
   cases hf
   have h6:call (.fn f) (dS first (dS us cap)) h=some r:=h5
   obtain ⟨⟨fn,c,hfn,hbody⟩,hcall⟩:=hc _ _ _ _ h6 ρ w ((a'++args.map a.eval++b').toList) hr (by
    rw [cj,cj]
    simp only [Array.toList_append,List.append_assoc]
    exact ha.append (va.append hb))
   have hrun:(execOp a.eval o).run P w=.ok (.enter f (a'++args.map a.eval++b')) w:=by
    rw [hex,e2]
    simp only [Deferred.ofValue,Sem.run_bind,Sem.run_pure,Result.andThen_ok,invoke]
    exact eQ hn hfn hbody
   rw [hrun,Oper.uponIn_enter]
   refine ⟨fun hd=>(by cases hd),?_⟩
   rw [Array.toArray_toList] at hcall
   refine CallsIn.mono (F:=dM none) hcall (fun e w' hR=>?_)
   cases e with
   | returned v=>obtain ⟨ρ',h7,h8⟩:=hR;exact hnext ρ' v w' h7 h8
   | panicked chain=>exact hR.elim
   | outgrown=>exact hR.elim
  | yield l =>
   obtain ⟨p,hp,h0,rfl⟩:=hf
   have h6:call (.loop l) (dS first us) h=some r:=h5
   obtain ⟨f,tmps,assign,body,hy,hcall⟩:=hc _ _ _ _ h6 ρ w ((a'++args.map a.eval).toList) hr (by
    rw [cj]
    simp only [Array.toList_append]
    exact ha.append va) p hp
   have hrun:(execOp a.eval o).run P w=.ok (.round p.blk f tmps assign body) w:=by
    rw [hex,e2]
    simp only [Deferred.ofValue,Sem.run_bind,Sem.run_pure,Result.andThen_ok,invoke]
    rw [Array.toArray_toList] at hy
    exact hy
   rw [hrun,Oper.uponIn_round]
   refine ⟨fun hd=>(by cases hd),?_⟩
   refine RoundIn.mono (F:=dM none) hcall (fun e w' hR=>?_)
   cases e with
   | returned v=>obtain ⟨ρ',h7,h8⟩:=hR;exact hnext ρ' v w' h7 h8
   | panicked chain=>exact hR.elim
   | outgrown=>exact hR.elim
  | _=>cases hf
end
end Go.Am
namespace Go.Am
section
variable {P:Program} {keep:aK} {w:World} {ρ : aL} {h:ac}
theorem oe {find:Nat->Option bN} {loc:List AV} {vs tm:Tr AV} {a:Act} (he:gZ find loc vs tm ρ a) {ops:Array Oper} {o:Oper} {j d:Nat} {want:Bool} {c:bN} {v:AV}
  (hg:o.guard=some (j,want)) (hd:(ops[j]?).bind (·.dst)=some d) (hc:find d=some c) (hv:c.get loc vs tm=some v):Region.wanted o (yielded ops a.tmps)=wanted want v:=by
 have h1:=he d c v hc hv
 simp only [Region.wanted,hg]
 have key:∀ (x:Value),a.tmps.getD d undef=x->(∀ b,x≠.bool b)->yielded ops a.tmps j=none:=by
  intro x hx hne
  simp only [yielded,hd,Option.bind_some]
  cases hq:a.tmps[d]? with
  | none=>rfl
  | some y =>
   have:a.tmps.getD d undef=y:=by rw [Array.getD_eq_getD_getElem?,hq];rfl
   rw [this] at hx
   subst hx
   cases y with
   | bool b=>exact absurd rfl (hne b)
   | _=>rfl
 cases v with
 | bool b =>
  have h2:a.tmps.getD d undef=.bool b:=h1
  have h3:a.tmps[d]?=some (.bool b):=by
   rw [Array.getD_eq_getD_getElem?] at h2
   cases hq:a.tmps[d]? with
   | none=>rw [hq] at h2;cases h2
   | some x=>rw [hq] at h2;simp at h2;rw [h2]
  have h4:yielded ops a.tmps j=some b:=by simp only [yielded,hd,Option.bind_some,h3]
  rw [h4]
  show (some b==some want)=eqB b want
  rw [zbA]
  cases b <;> cases want <;> rfl
 | int k n=>rw [key _ h1 (by intro b e;cases e)];rfl
 | str s=>obtain ⟨b,e,_⟩:=h1;rw [key _ e (by intro b e;cases e)];rfl
 | ptr o =>
  cases o with
  | none=>rw [key _ h1 (by intro b e;cases e)];rfl
  | some p=>obtain ⟨_,_,e⟩:=h1;rw [key _ e (by intro b e;cases e)];rfl
 | slice o n c g =>
  cases o with
  | none=>obtain ⟨_,_,_,e⟩:=h1;rw [key _ e (by intro b e;cases e)];rfl
  | some p=>obtain ⟨_,_,_,_,e,_⟩:=h1;rw [key _ e (by intro b e;cases e)];rfl
 | map o =>
  cases o with
  | none=>rw [key _ h1 (by intro b e;cases e)];rfl
  | some p=>obtain ⟨_,_,_,e⟩:=h1;rw [key _ e (by intro b e;cases e)];rfl
 | func f x y=>obtain ⟨_,_,_,e,_⟩:=h1;rw [key _ e (by intro b e;cases e)];rfl
 | nilFunc=>rw [key _ h1 (by intro b e;cases e)];rfl
 | iface t x=>obtain ⟨_,e,_⟩:=h1;rw [key _ e (by intro b e;cases e)];rfl
 | nilIface=>rw [key _ h1 (by intro b e;cases e)];rfl
 | agg cs=>obtain ⟨_,e,_⟩:=h1;rw [key _ e (by intro b e;cases e)];rfl
 | tuple cs=>obtain ⟨_,e,_⟩:=h1;rw [key _ e (by intro b e;cases e)];rfl
theorem yF {find:Nat->Option bN} {ops:Array Oper} {g:Option (Nat×Bool)} {i:kn} {loc:List AV} {vs tm:Tr AV} {call:an} {id:Nat} {r:AV×ac} (he:(re find ops g i).ev loc vs tm call id h=some r) :
  (g=none/\i.ev loc vs tm call id h=some r) ∨
  ∃ j want d c v,g=some (j,want)/\(ops[j]?).bind (·.dst)=some d/\find d=some c/\c.get loc vs tm=some v/\((wanted want v=true/\i.ev loc vs tm call id h=some r)∨(wanted want v=false/\r=(aJ,h))):=by
 cases g with
 | none=>exact .inl ⟨rfl,he⟩
 | some jw =>
  obtain ⟨j,want⟩:=jw
  right
  simp only [re] at he
  cases hd:(ops[j]?).bind (·.dst) with
  | none=>rw [hd] at he;cases he
  | some d =>
   rw [hd] at he
   simp only at he
   cases hc:find d with
   | none=>rw [hc] at he;cases he
   | some c =>
    rw [hc] at he
    have he:ob (c.get loc vs tm) (fun v=>Bool.rec (motive:=fun _=>dA) (some (aJ,h)) (i.ev loc vs tm call id h) (wanted want v))=some r:=he
    obtain ⟨v,h1,h2⟩:=af.1 he
    refine ⟨j,want,d,c,v,rfl,hd,hc,h1,?_⟩
    cases hw:wanted want v with
    | true=>rw [hw] at h2;exact .inl ⟨rfl,h2⟩
    | false=>rw [hw] at h2;cases h2;exact .inr ⟨rfl,rfl⟩
theorem yZ {call:an} {find:Nat->Option bN} {loc:List AV} {vs tm:Tr AV} {a:Act} {ops:Array Oper} {o:Oper} {i id:Nat} {r:AV×ac} {ro:Option Nat} {rest:List Nat} {Q:Exit->Act->World->Prop}
  (hn:NamesOk P) (hc:dR P keep call) (hr:HR P keep ρ h w) (he:gZ find loc vs tm ρ a) (hid:h.next<=id) (ho:ops[i]?=some o) (hi:(re find ops o.guard (dw P find o.op)).ev loc vs tm call id h=some r)
  (hnext:∀ ρ' v w',VR ρ' r.1 v->bv P keep ρ h w ρ' r.2 w'->wpOpsIn (dM ro) 0 P ops Q rest (a.put o.dst v) w'):wpOpsIn (dM ro) 0 P ops Q (i::rest) a w:=by
 simp only [wpOpsIn,ho]
 rcases yF hi with ⟨hg,h1⟩|⟨j,want,d,c,v,hg,hd,hc',hv,h1⟩
 ·have hw:Region.wanted o (yielded ops a.tmps)=true:=by simp [Region.wanted,hg]
  rw [if_pos hw]
  exact jT hn hc hr he hid h1 hnext
 ·have hw:=oe he hg hd hc' hv
  rcases h1 with ⟨h2,h3⟩|⟨h2,h3⟩
  ·rw [h2] at hw
   rw [if_pos hw]
   exact jT hn hc hr he hid h3 hnext
  ·rw [h2] at hw
   rw [if_neg (by rw [hw];simp)]
   subst h3
   exact ⟨fun _ _=>trivial,hnext ρ undef w (VR.undef ρ) (bv.refl hr)⟩
theorem lh {a:Act} {d t:Nat} {v:Value} (hd:d<a.tmps.size):(a.put (some d) v).tmps.getD t undef=if t=d then v else a.tmps.getD t undef:=by
 simp only [Act.put,Array.getD_eq_getD_getElem?,Array.getElem?_setIfInBounds]
 by_cases e:d=t
 ·subst e;simp [hd]
 ·rw [if_neg e,if_neg (fun h=>e h.symm)]
theorem cC (a:Act) (d:Option Tmp) (v:Value):(a.put d v).tmps.size=a.tmps.size:=by cases d <;> simp [Act.put]
theorem ba (a:Act) (d:Option Tmp) (v:Value):(a.put d v).defers=a.defers:=by cases d <;> rfl
structure lG (kp:Nat->Bool) (nt sz:Nat) (tm:Tr AV) (n:Nat) (env:List (Nat×bN)) (loc:List AV) (ρ : aL) (a:Act):Prop where
 ok:gZ (cE kp env n) loc .leaf tm ρ a
 len:loc.length=n
 locs:∀ t p,(t,bN.loc p)∈env->p<n
 dsts:∀ t x,(t,x)∈env->t<nt
 size:a.tmps.size=sz
 nt:nt<=sz
theorem lU {t:Nat} {x:bN}:∀ {env:List (Nat×bN)},eX t env=some x->(t,x)∈env
 | [],h=>by cases h
 | y::env,h=>by
  simp only [eX] at h
  split at h
  ·rename_i e
   cases h
   subst e
   exact List.mem_cons_self ..
  ·exact List.mem_cons_of_mem _ (lU h)
theorem Kr {loc:List AV} {tm:Tr AV} {r:AV} {n:Nat} {x:bN} (hx:∀ p,x=.loc p->p<n):(lu (n+1) x).get (r::loc) .leaf tm=(lu n x).get loc .leaf tm:=by
 cases x with
 | loc p =>
  have:=hx p rfl
  show SO (r::loc) (n+1 - 1 - p)=SO loc (n - 1 - p)
  rw [mK,mK,show n+1 - 1 - p=(n - 1 - p)+1 by omega];simp
 | opi j=>rfl
 | tmp t=>rfl
 | cst v=>rfl
theorem kV {nt:Nat} {d:Nat} (h:kh nt (some d)=true):d<nt:=Nat.le_of_ble_eq_true h
theorem lG.next {kp:Nat->Bool} {nt sz n:Nat} {tm:Tr AV} {env:List (Nat×bN)} {loc:List AV} {a:Act} {σ : aL} {dst:Option Nat} {r:AV} {v:Value}
  (hi:lG kp nt sz tm n env loc ρ a) (hl:ρ.le σ):kh nt dst=true->VR σ r v->lG kp nt sz tm (n+1) ((match dst with | some d=>[(d,.loc n)] | none=>[])++env) (r::loc) σ (a.put dst v):=by
 intro hd hv
 have hold:∀ t x u,eX t env=some x∨(eX t env=none/\x=.tmp t/\kp t=true)->(lu (n+1) x).get (r::loc) .leaf tm=some u->VR σ u (a.tmps.getD t undef):=by
  intro t x u hx hg
  have hlt:∀ p,x=.loc p->p<n:=by
   intro p e
   rcases hx with h1|⟨_,e2,_⟩
   ·subst e;exact hi.locs t p (lU h1)
   ·rw [e] at e2;cases e2
  rw [Kr hlt] at hg
  refine (hi.ok t (lu n x) u ?_ hg).mono hl
  unfold cE eK
  rcases hx with h1|⟨h1,e2,h3⟩
  ·rw [h1];rfl
  ·rw [h1,if_pos h3,e2];rfl
 have hfind:∀ (e:List (Nat×bN)) t y u,cE kp e (n+1) t=some y->y.get (r::loc) .leaf tm=some u->∃ x,(eX t e=some x∨(eX t e=none/\x=.tmp t/\kp t=true))/\(lu (n+1) x).get (r::loc) .leaf tm=some u:=by
  intro e t y u hy hg
  unfold cE eK at hy
  cases hq:eX t e with
  | some x=>rw [hq] at hy;cases hy;exact ⟨x,.inl rfl,hg⟩
  | none =>
   rw [hq] at hy
   simp only at hy
   by_cases hk:kp t=true
   ·rw [if_pos hk] at hy;cases hy;exact ⟨.tmp t,.inr ⟨rfl,rfl,hk⟩,hg⟩
   ·rw [if_neg hk] at hy;cases hy
 cases dst with
 | none =>
  refine ⟨fun t y u hy hg=>?_,by simp [hi.len],fun t p hm=>Nat.lt_succ_of_lt (hi.locs t p hm),hi.dsts,hi.size,hi.nt⟩
  obtain ⟨x,h1,h2⟩:=hfind _ t y u hy hg
  exact hold t x u h1 h2
 | some d =>
  have hdn:=kV hd
  have hds:d<a.tmps.size:=by rw [hi.size];exact Nat.lt_of_lt_of_le hdn hi.nt
  refine ⟨fun t y u hy hg=>?_,by simp [hi.len],fun t p hm=>?_,fun t x hm=>?_,by rw [cC];exact hi.size,hi.nt⟩
  ·rw [lh hds]
   obtain ⟨x,h1,h2⟩:=hfind _ t y u hy hg
   simp only [List.cons_append,List.nil_append,eX] at h1
   by_cases e:d=t
   ·subst e
    rw [if_pos rfl]
    rw [if_pos rfl] at h1
    rcases h1 with h1|⟨h1,_⟩
    ·cases h1
     have h2:SO (r::loc) (n+1 - 1 - n)=some u:=h2
     rw [mK,show n+1 - 1 - n=0 by omega] at h2
     cases h2;exact hv
    ·cases h1
   ·rw [if_neg (fun h=>e h.symm)]
    rw [if_neg e] at h1
    exact hold t x u h1 h2
  ·rcases List.mem_cons.1 hm with e | hm
   ·cases e;omega
   ·exact Nat.lt_succ_of_lt (hi.locs t p hm)
  ·rcases List.mem_cons.1 hm with e | hm
   ·cases e;exact hdn
   ·exact hi.dsts t x hm
theorem zI {kp:Nat->Bool} {env:List (Nat×bN)} {n:Nat} {x:Operand} {a:bN} (hx:Am.resolve (eK kp env) x=some a):Am.resolve (cE kp env n) x=some (lu n a):=by
 cases x with
 | tmp t=>simp only [Am.resolve] at hx ⊢;unfold cE;rw [hx];rfl
 | const v =>
  simp only [Am.resolve,Option.map_eq_some_iff] at hx ⊢
  obtain ⟨u,h1,rfl⟩:=hx
  exact ⟨u,h1,rfl⟩
 | global g=>cases hx
 | func f=>cases hx;rfl
theorem lG.alias {kp:Nat->Bool} {nt sz n d:Nat} {tm:Tr AV} {env:List (Nat×bN)} {loc:List AV} {a:Act} {x:Operand} {y:bN}
  (hi:lG kp nt sz tm n env loc ρ a) (hd:kh nt (some d)=true) (hx:Am.resolve (eK kp env) x=some y):lG kp nt sz tm n ((d,y)::env) loc ρ (a.put (some d) (a.eval x)):=by
 have hdn:=kV hd
 have hds:d<a.tmps.size:=by rw [hi.size];exact Nat.lt_of_lt_of_le hdn hi.nt
 refine ⟨fun t z u hz hg=>?_,hi.len,fun t p hm=>?_,fun t z hm=>?_,by rw [cC];exact hi.size,hi.nt⟩
 ·rw [lh hds]
  by_cases e:d=t
  ·subst e
   rw [if_pos rfl]
   have:cE kp ((d,y)::env) n d=some (lu n y):=by simp [cE,eK,eX]
   rw [this] at hz;cases hz
   exact aM hi.ok (zI hx) hg
  ·rw [if_neg (fun h=>e h.symm)]
   have:cE kp ((d,y)::env) n t=cE kp env n t:=by simp only [cE,eK,eX,if_neg e]
   rw [this] at hz
   exact hi.ok t z u hz hg
 ·rcases List.mem_cons.1 hm with e | hm
  ·cases e
   cases x with
   | tmp s =>
    simp only [Am.resolve,eK] at hx
    cases hq:eX s env with
    | some q=>rw [hq] at hx;cases hx;exact hi.locs s p (lU hq)
    | none=>rw [hq] at hx;simp only at hx;split at hx <;> cases hx
   | const v=>simp only [Am.resolve,Option.map_eq_some_iff] at hx;obtain ⟨_,_,e⟩:=hx;cases e
   | global g=>cases hx
   | func f=>cases hx
  ·exact hi.locs t p hm
 ·rcases List.mem_cons.1 hm with e | hm
  ·cases e;exact hdn
  ·exact hi.dsts t z hm
theorem ir (g:aw) (gs:List aw) (tm:Tr AV) (call:an) (loc:List AV) (h:ac):aT (g::gs) tm call loc h=ob (g.ev loc .leaf tm call h.next h) fun r=>aT gs tm call (r.1::loc) r.2:=rfl
theorem zo {o:Oper} {x:Operand} {d:Nat} (hm:rW o=some (x,d)):o.guard=none/\o.dst=some d/\(o.op=.move x∨o.op=.assign x):=by
 obtain ⟨dst,op,ty,pos,after,guard⟩:=o
 unfold rW at hm
 simp only at hm
 split at hm
 ·rename_i h1 h2;cases hm;exact ⟨rfl,rfl,.inl rfl⟩
 ·rename_i h1 h2;cases hm;exact ⟨rfl,rfl,.inr rfl⟩
 ·cases hm
end
end Go.Am