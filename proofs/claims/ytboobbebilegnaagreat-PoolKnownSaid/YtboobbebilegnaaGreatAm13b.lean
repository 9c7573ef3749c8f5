/-
  AM, 13b: unsafe.String and its kin; a pointer made unsafe and back; functions without a Go text.
-/
import Derived.Test.YtboobbebilegnaaGreatAm13
import Derived.Lib.UnsafeStr
import Derived.Lib.Builder
import Derived.Lib.Bytealg
import Derived.KernelRfl
namespace Go.Am
section
variable {P : Program} {keep : Keeps} {w : World} {ρ : Pls} {h : Heap}

theorem markOf_some {z : List AV} {t : Nat} {x : Bool} (hz : markOf z = some (t, x)) : z = tyMark t x := by
  unfold markOf at hz
  split at hz
  · cases hz; rfl
  · cases hz

theorem sliceData_sound {v r : AV} {a : Value} {ts : Array TypeId} {ty : TypeId} (hr : sliceData v = some r) (hv : VR ρ v a) : Gives P w ρ (Builtin.unsafeSliceData_ ts ty #[a]) r := by
  cases v with
  | slice o n c g =>
    cases o with
    | none =>
      cases hr
      obtain ⟨rfl, rfl, _, rfl⟩ := hv
      exact ⟨_, rfl, rfl⟩
    | some p0 =>
      obtain ⟨b, o⟩ := p0
      simp only [sliceData] at hr
      split at hr
      · cases hr
      · rename_i hne
        cases hr
        obtain ⟨p, a', c', hp, rfl, h1, h2, _, _, h5⟩ := hv
        have hc : c' ≠ 0 := by omega
        refine ⟨_, Lib.run_unsafeSliceData_row w ts ty a' n c' hc, p, hp, ?_⟩
        rw [h5 hc]
  | _ => cases hr

/-- the model marks cells as ones that stay -/
theorem HR.freeze (hr : HR P keep ρ h w) {b : Nat} {t : Tr AV} {z : List AV} {m : Nat} {ro : Bool} (hb : h.bs.gt b = some (.cells t z m ro)) {p : Pl} (hp : ρ b = some p) (o n : Nat) :
    Post P keep ρ h w ρ (h.put b (.cells t z m true)) (w.freeze ⟨p.blk, o, none⟩ n) := by
  have hos : (w.freeze ⟨p.blk, o, none⟩ n).os = w.os := by unfold World.freeze; split <;> rfl
  have hout : (w.freeze ⟨p.blk, o, none⟩ n).output = w.output := by unfold World.freeze; split <;> rfl
  have hsz : (w.freeze ⟨p.blk, o, none⟩ n).heap.size = w.heap.size := by unfold World.freeze; split <;> simp
  have hsame : ∀ k, k ≠ p.blk → (w.freeze ⟨p.blk, o, none⟩ n).heap[k]? = w.heap[k]? := fun k hk => by
    unfold World.freeze
    split
    · rfl
    · simp only [Array.getElem?_modify]
      rw [if_neg (fun e => hk e.symm)]
  have hcells : ∀ c e fz, w.heap[p.blk]? = some (.cells c e fz) → ∃ fz', (w.freeze ⟨p.blk, o, none⟩ n).heap[p.blk]? = some (.cells c e fz') := fun c e fz hc => by
    unfold World.freeze
    split
    · exact ⟨fz, hc⟩
    · refine ⟨if fz.1 == fz.2 then (o, o + n) else (min fz.1 o, max fz.2 (o + n)), ?_⟩
      simp only [Array.getElem?_modify, if_pos, hc, Option.map_some]
  have hget : ∀ c, (h.put b (.cells t z m true)).bs.gt c = if c = b then some (.cells t z m true) else h.bs.gt c := fun c => Tr.gt_up _ _ _ _
  have hbr := hr.blk _ _ hb
  obtain ⟨p0, c, e, fz, hp0, hc, hcs, hn, hv, hf⟩ := hbr
  rw [hp] at hp0; cases hp0
  have hlt : p.blk < w.heap.size := (Array.getElem?_eq_some_iff.1 hc).1
  have hown : Own ρ h p.blk := ⟨b, _, p, hb, rfl, hp, rfl⟩
  refine ⟨Pls.le_refl _, ⟨hr.dom, fun c' x hx => ?_, fun c' x hx => ?_, fun c1 c2 x1 x2 q1 q2 h1 h2 d1 d2 hro hq1 hq2 hne => ?_⟩, ⟨hos, hout, by omega, fun k _ ho => hsame k fun e => ho (e ▸ hown)⟩, fun k _ ho => ?_, Nat.le_refl _, fun _ _ h _ => h⟩
  · rw [hget] at hx
    by_cases e : c' = b
    · subst e; exact hr.has _ _ hb
    · rw [if_neg e] at hx; exact hr.has _ _ hx
  · rw [hget] at hx
    by_cases e1 : c' = b
    · subst e1
      rw [if_pos rfl] at hx; cases hx
      obtain ⟨fz', hfz'⟩ := hcells c e fz hc
      exact ⟨p, c, e, fz', hp, hfz', hcs, hn, hv, (fun e => by cases e), hf.2⟩
    · rw [if_neg e1] at hx
      by_cases hq : ∃ q, ρ c' = some q ∧ q.blk = p.blk ∧ x.dead? = false
      · obtain ⟨q, hq1, hq2, hq3⟩ := hq
        -- another block at the same place: both may be read only
        have hxro : x.ro = true := by
          cases hx2 : x.ro with
          | true => rfl
          | false => exact absurd hq2 (hr.inj c' b x _ q p hx hb hq3 rfl (.inl hx2) hq1 hp e1)
        have hbx := hr.blk _ _ hx
        cases x with
        | cells t1 z1 m1 ro1 =>
          obtain ⟨p1, c1, e1', fz1, hp1, hc1, g1, g2, g3, g4⟩ := hbx
          rw [hq1] at hp1; cases hp1
          rw [hq2, hc] at hc1; cases hc1
          obtain ⟨fz', hfz'⟩ := hcells c e fz hc
          exact ⟨q, c, e, fz', hq1, by rw [hq2]; exact hfz', g1, g2, g3, (fun e => by cases (show ro1 = true from hxro).symm.trans e), g4.2⟩
        | dead => cases hq3
        | map _ _ => cases hxro
        | siter _ _ => cases hxro
        | loop _ => cases hxro
      · exact (hr.blk _ _ hx).frame fun q hd hqq => hsame _ fun e => hq ⟨q, hqq, e, hd⟩
  · have fix : ∀ c0 x0, (h.put b (.cells t z m true)).bs.gt c0 = some x0 → x0.dead? = false → ∃ x', h.bs.gt c0 = some x' ∧ x'.dead? = false ∧ (x0.ro = false → x'.ro = false) := by
      intro c0 x0 hx0 hd0
      rw [hget] at hx0
      by_cases e : c0 = b
      · subst e; rw [if_pos rfl] at hx0; cases hx0; exact ⟨_, hb, rfl, fun e => by cases e⟩
      · rw [if_neg e] at hx0; exact ⟨x0, hx0, hd0, id⟩
    obtain ⟨y1, a1, a2, a3⟩ := fix _ _ h1 d1
    obtain ⟨y2, b1, b2, b3⟩ := fix _ _ h2 d2
    exact hr.inj c1 c2 y1 y2 q1 q2 a1 b1 a2 b2 (hro.imp a3 b3) hq1 hq2 hne
  · obtain ⟨c0, x0, q, hx, hd, hq, rfl⟩ := ho
    rw [hget] at hx
    by_cases e : c0 = b
    · subst e; rw [hp] at hq; cases hq; exact hown
    · rw [if_neg e] at hx; exact ⟨c0, x0, q, hx, hd, hq, rfl⟩

theorem rowAt_off {fits : TypeId → Bool} {d e count off n : Nat} (hc : P.cellsOf e = 1) (hf : fits e = true) (hn : off + n ≤ count) : Go.rowAt P fits (d + 1) e count off n = true := by
  simp only [Go.rowAt, hc]
  simp [hf, Nat.mod_one, hn]
theorem liesAt_off {e count off n : Nat} (hc : P.cellsOf e = 1) (hn : off + n ≤ count) : liesAt P P.depth e count off e n = true := by
  have hd : P.depth = (2 * (P.types.size + Made.depth) + 1) + 1 := rfl
  rw [hd]
  simp only [liesAt, Bool.or_eq_true]
  left
  rw [hd]
  exact rowAt_off hc (by simp [sameLayout]) hn

theorem byteVal {v : AV} {c : Nat} (hv : theByte v = some c) : v = .int .u8 (Int.ofNat c) ∧ c ≤ 255 := by
  obtain ⟨k, n, rfl, h1⟩ := eInt_some hv
  obtain ⟨h2, h3⟩ := iff'_some.1 h1
  have hk : k = .u8 := by cases k <;> first | rfl | cases h2
  subst hk
  cases n with
  | ofNat m =>
    obtain ⟨h4, h5⟩ := iff'_some.1 (show iff' (Nat.ble m 255) (some m) = some c from h3)
    cases h5
    exact ⟨rfl, Nat.le_of_ble_eq_true h4⟩
  | negSucc m => cases h3
theorem bytesOf_some : ∀ {vs : List AV} {l : List Nat}, bytesOf vs = some l → ∃ bs : List UInt8, l = bs.map (·.toNat) ∧ vs = bs.map fun b => .int .u8 (b.toNat : Int)
  | [], l, h => by cases h; exact ⟨[], rfl, rfl⟩
  | v :: vs, l, h => by
    have h : ob (theByte v) (fun c => ob (bytesOf vs) fun l => some (c :: l)) = some l := h
    obtain ⟨c, h1, h2⟩ := ob_some.1 h
    obtain ⟨l', h3, h4⟩ := ob_some.1 h2
    cases h4
    obtain ⟨rfl, hc⟩ := byteVal h1
    obtain ⟨bs, rfl, rfl⟩ := bytesOf_some h3
    refine ⟨UInt8.ofNat c :: bs, ?_, ?_⟩
    · simp only [List.map_cons, List.cons.injEq, and_true]
      rw [UInt8.toNat_ofNat']; omega
    · simp only [List.map_cons, List.cons.injEq, and_true]
      rw [UInt8.toNat_ofNat', Nat.mod_eq_of_lt (by omega)]; rfl

theorem strAt_sound {t e ty : TypeId} {ts : Array TypeId} (ht : ts[0]? = some t) (hu : P.underlying t = some (.pointer e)) (hs : tSize P e = some 1) (hr : HR P keep ρ h w) {x n : AV} {q : AV × Heap} (hq : strAt e h x n = some q) {a b : Value} (hx : VR ρ x a) (hn : VR ρ n b) :
    Does P keep w ρ h (Builtin.unsafeString_ ts ty #[a, b]) q.1 q.2 := by
  obtain ⟨k, n, rfl, h1⟩ := eInt_some hq
  cases hn
  have hmax : IntKind.i64.max = 9223372036854775807 := rfl
  have hdef : ∀ (p : Option Addr) (n : Int), (Builtin.unsafeString_ ts ty #[.pointer p, .int k n]) =
      (do
        let n ← asInt (.int k n)
        let some pt := ts[0]? | stuck "unsafe.String: no argument types"
        if n < 0 then runtimePanic (.error "unsafe.String: len out of range")
        if n > IntKind.i64.max then unsupported (.unsafePointer "String: a length above the largest int")
        match p with
        | none =>
          if n = 0 then pure (.string .empty)
          else runtimePanic (.error "unsafe.String: ptr is nil and len is not zero")
        | some a =>
          if n = 0 then pure (.string .empty)
          else if ← variablesAt a (← elemOf pt) n.toNat then do
            let s ← loadBytes a .empty n.toNat
            freeze a n.toNat
            pure (.string s)
          else unsupported (.unsafePointer "String: not so many bytes at ptr")) := fun p n => rfl
  cases n with
  | negSucc n => cases h1
  | ofNat n =>
    cases n with
    | zero =>
      cases x with
      | ptr p =>
        cases h1
        have : ∃ p', a = .pointer p' := by
          cases p with
          | none => cases hx; exact ⟨_, rfl⟩
          | some p => obtain ⟨b0, o0⟩ := p; obtain ⟨p', _, rfl⟩ := hx; exact ⟨_, rfl⟩
        obtain ⟨p', rfl⟩ := this
        refine ⟨ρ, .string .empty, w, ?_, ⟨.empty, rfl, rfl⟩, Post.refl hr⟩
        rw [hdef]
        cases p' <;> simp [asInt, asIntOf, hmax, ht]
      | _ => cases h1
    | succ n =>
      obtain ⟨bk, o, rfl, h2⟩ := ePtr_some h1
      obtain ⟨h3, h4⟩ := iff'_some.1 h2
      have h3 : n + 1 ≤ 1099511627776 := Nat.le_of_ble_eq_true h3
      obtain ⟨tr, z, m, ro, hb, h5⟩ := cells_some h4
      cases hmk : markOf z with
      | none => simp only [hmk] at h5; cases h5
      | some ex =>
        obtain ⟨e', x'⟩ := ex
        simp only [hmk] at h5
        split at h5
        · rename_i he
          subst he
          obtain ⟨h6, h7⟩ := iff'_some.1 h5
          have h6 := Nat.le_of_ble_eq_true h6
          have h6 : o + (n + 1) ≤ m := h6
          obtain ⟨vs, h8, h9⟩ := ob_some.1 h7
          obtain ⟨l, h10, h11⟩ := ob_some.1 h9
          cases h11
          obtain ⟨bs, rfl, rfl⟩ := bytesOf_some h10
          obtain ⟨hlen, hget⟩ := loadC_some h8
          rw [List.length_map] at hlen
          obtain ⟨p, hp, rfl⟩ := hx
          obtain ⟨p0, c, e0, fz, hp0, hc, hcs, hpm, hval, hf⟩ := hr.blk _ _ hb
          rw [hp] at hp0; cases hp0
          obtain ⟨rfl, _⟩ := hf.2 _ _ (markOf_some hmk)
          have hcell : ∀ j (x : UInt8), bs[j]? = some x → w.cell? ((⟨p.blk, p.off + o, none⟩ : Addr).add j) = some (.int .u8 x.toNat) := fun j x hj => by
            have hjl : j < bs.length := (List.getElem?_eq_some_iff.1 hj).1
            obtain ⟨v, cv, g1, g2, g3, g4⟩ := hval (o + j) (by omega)
            rw [hget j (by omega), List.getElem?_map, hj] at g1
            cases g1
            rw [add_addr, cell_of_heap hc, Nat.add_assoc, g3]
            exact congrArg some g4
          have hsh : w.shape? p.blk = some (e0, p.size) := by simp [World.shape?, hc, hcs]
          have hce : P.cellsOf e0 = 1 := by
            unfold tSize at hs
            simp only [Program.cellsOf]
            cases hi : P.info? e0 with
            | none => rw [hi] at hs; cases hs
            | some i => rw [hi] at hs; simpa using hs
          have hlies := liesAt_off (P := P) (e := e0) (count := p.size / P.cellsOf e0) (off := p.off + o) (n := n + 1) hce (by rw [hce, Nat.div_one]; omega)
          have hno : o + (n + 1) ≤ p.size - p.off := by omega
          have hlb := Lib.run_loadBytes (P := P) w bs ⟨p.blk, p.off + o, none⟩ .empty hcell
          rw [hlen] at hlb
          refine ⟨ρ, .string ⟨bs.toArray⟩, w.freeze ⟨p.blk, p.off + o, none⟩ (n + 1), ?_, ⟨_, rfl, by simp⟩, hr.freeze hb hp _ _⟩
          rw [hdef]
          have hneg : ¬ (Int.ofNat (n + 1)) < 0 := by simp only [Int.ofNat_eq_natCast]; omega
          have h63 : ¬ (9223372036854775807 : Int) < Int.ofNat (n + 1) := by simp only [Int.ofNat_eq_natCast]; omega
          have hne : ¬ (Int.ofNat (n + 1)) = 0 := by simp only [Int.ofNat_eq_natCast]; omega
          have ht' : (Int.ofNat (n + 1)).toNat = n + 1 := rfl
          simp only [asInt, asIntOf, Sem.run_bind, Sem.run_pure, Result.andThen_ok, ht, hmax, hneg, h63, hne, if_false, ht', variablesAt, elemOf, run_underlying hu]
          simp [hsh, hlies, hlb]
        · cases h5

/-! ### Pointers made unsafe and back -/
theorem toUnsafe_sound {s d t : TypeId} (hsu : P.underlying s = some (.pointer t)) (hdu : P.underlying d = some .unsafePointer) (hr : HR P keep ρ h w) {v r : AV} (hf : toUnsafe P t h v = some r) {a : Value} (hv : VR ρ v a) : Gives P w ρ (convert s d a) r := by
  unfold toUnsafe at hf
  split at hf
  · rename_i n b o hsz
    obtain ⟨tr, z, m, ro, hb, h1⟩ := cells_some hf
    obtain ⟨h2, h3⟩ := iff'_some.1 h1
    cases h3
    have h2 : o < m := Nat.le_of_ble_eq_true h2
    have hv' := hv
    obtain ⟨p, hp, rfl⟩ := hv
    obtain ⟨p0, c, e0, fz, hp0, hc, hcs, hpm, hval, hf⟩ := hr.blk _ _ hb
    rw [hp] at hp0; cases hp0
    obtain ⟨i, hi, his⟩ := tSize_info hsz
    exact ⟨_, Lib.run_to_unsafe w ⟨p.blk, p.off + o, none⟩ hsu hdu hi (by omega) (e := e0) (cells := p.size) (by simp [World.shape?, hc, hcs]) (by show p.off + o < p.size; omega), hv'⟩
  · rename_i n hsz
    cases hf
    cases hv
    refine ⟨.pointer none, ?_, rfl⟩
    simp [convert, run_underlying hsu, run_underlying hdu, Conv.unsafePointer]
  · cases hf

theorem fromUnsafe_sound {s d u : TypeId} (hsu : P.underlying s = some .unsafePointer) (hdu : P.underlying d = some (.pointer u)) (hr : HR P keep ρ h w) {v r : AV} (hf : fromUnsafe P u h v = some r) {a : Value} (hv : VR ρ v a) : Gives P w ρ (convert s d a) r := by
  unfold fromUnsafe at hf
  split at hf
  · cases hf
    cases hv
    refine ⟨.pointer none, ?_, rfl⟩
    simp [convert, run_underlying hsu, run_underlying hdu, Conv.unsafePointer]
  · rename_i b o
    obtain ⟨tr, z, m, ro, hb, h1⟩ := cells_some hf
    split at h1
    · rename_i e hmk
      split at h1
      · rename_i hl
        cases h1
        rw [Bool.and_eq_true] at hl
        have hv' := hv
        obtain ⟨p, hp, rfl⟩ := hv
        obtain ⟨p0, c, e0, fz, hp0, hc, hcs, hpm, hval, hf⟩ := hr.blk _ _ hb
        rw [hp] at hp0; cases hp0
        obtain ⟨rfl, hx⟩ := hf.2 _ _ (markOf_some hmk)
        obtain ⟨h0, hsz⟩ := hx rfl
        cases hi : P.info? u with
        | none => rw [hi] at hl; cases hl.1
        | some i =>
          refine ⟨_, Lib.run_from_unsafe w ⟨p.blk, p.off + o, none⟩ hsu hdu hi (e := e0) (cells := p.size) (by simp [World.shape?, hc, hcs]) ?_, hv'⟩
          show liesAt P P.depth e0 (p.size / P.cellsOf e0) (p.off + o) u 1 = true
          rw [h0, hsz, Nat.zero_add]; exact hl.2
      · cases h1
    · cases h1
  · cases hf

/-! ### Functions without a Go text -/
theorem find_noEscape (fn : Func) (h : fn.name = "internal/abi.NoEscape") (ho : fn.origin = "") : Extern.findNext fn = none ∧ Extern.find fn = some Extern.AbiNoEscape.same := by
  cases fn
  simp only at h ho
  subst h ho
  exact ⟨by kernel_rfl, by kernel_rfl⟩
theorem find_indexByte (fn : Func) (h : fn.name = "internal/bytealg.IndexByteString") (ho : fn.origin = "") : Extern.findNext fn = none ∧ Extern.find fn = some Extern.BytealgIndexByte.indexByte := by
  cases fn
  simp only at h ho
  subst h ho
  exact ⟨by kernel_rfl, by kernel_rfl⟩
end
end Go.Am
