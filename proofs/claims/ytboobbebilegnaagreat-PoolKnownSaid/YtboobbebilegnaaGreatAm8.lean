/-
  AM, 8: slice expressions; new blocks; what is read.
-/
import Derived.Test.YtboobbebilegnaaGreatAm7
namespace Go.Am
section
variable {P : Program} {keep : Keeps} {w : World} {ρ : Pls} {h : Heap}

def OR (ρ : Pls) : Option AV → Option Value → Prop
  | none, v => v = none
  | some x, v => ∃ u, v = some u ∧ VR ρ x u

theorem boundV_some {d y : Nat} {x : Option AV} {x' : Option Value} {f : Nat → Option AV} {r : AV} (h : boundV d y x f = some r) (hx : OR ρ x x') :
    ∃ n, f n = some r ∧ ((x' = none ∧ x = none ∧ n = d) ∨ ∃ k, x' = some (.int k n) ∧ n ≤ y) := by
  cases x with
  | none => exact ⟨d, h, .inl ⟨hx, rfl, rfl⟩⟩
  | some v =>
    obtain ⟨u, rfl, hu⟩ := hx
    obtain ⟨k, i, rfl, g⟩ := eInt_some h
    cases i with
    | negSucc i => cases g
    | ofNat n =>
      obtain ⟨g1, g2⟩ := boolRec_some.1 g
      cases hu
      exact ⟨n, g2, .inr ⟨k, rfl, Nat.le_of_ble_eq_true g1⟩⟩

theorem run_bound {k : IntKind} {n y : Nat} {c : BoundsCode} (hn : n ≤ y) : (Instr.sliceBound (.int k n) y c).run P w = .ok n w := by
  have : (0 : Int) ≤ n ∧ (n : Int) ≤ y := by omega
  simp [Instr.sliceBound, asIntOf, hn]

/-- no third index -/
theorem run_bounds2 {isSlice : Bool} {len cap l hh : Nat} {lo hi : Option Value} (hhi : (hi = none ∧ hh = len) ∨ ∃ k, hi = some (.int k hh) ∧ hh ≤ cap)
    (hlo : (lo = none ∧ l = 0) ∨ ∃ k, lo = some (.int k l) ∧ l ≤ hh) : (Instr.sliceBounds isSlice len cap lo hi none).run P w = .ok (l, hh, cap) w := by
  rcases hhi with ⟨rfl, rfl⟩ | ⟨k, rfl, h1⟩ <;> rcases hlo with ⟨rfl, rfl⟩ | ⟨k', rfl, h2⟩
  · simp [Instr.sliceBounds]
  · simp [Instr.sliceBounds, run_bound h2]
  · simp [Instr.sliceBounds, run_bound h1]
  · simp [Instr.sliceBounds, run_bound h1, run_bound h2]
theorem run_bounds3 {len cap l hh m : Nat} {k k1 : IntKind} {lo : Option Value} (hm : m ≤ cap) (hhi : hh ≤ m)
    (hlo : (lo = none ∧ l = 0) ∨ ∃ k, lo = some (.int k l) ∧ l ≤ hh) : (Instr.sliceBounds true len cap lo (some (.int k hh)) (some (.int k1 m))).run P w = .ok (l, hh, m) w := by
  rcases hlo with ⟨rfl, rfl⟩ | ⟨k', rfl, h2⟩
  · simp [Instr.sliceBounds, run_bound hm, run_bound hhi]
  · simp [Instr.sliceBounds, run_bound hm, run_bound hhi, run_bound h2]

theorem run_slice_str {t : TypeId} {s : ByteArray} {lo hi : Option Value} {l hh m : Nat} (hu : P.underlying t = some .string) (hb : (Instr.sliceBounds false s.size s.size lo hi none).run P w = .ok (l, hh, m) w) :
    (Instr.sliceAt t (.string s) lo hi none).run P w = .ok (.string (s.extract l hh)) w := by
  simp [Instr.sliceAt, Instr.slice, run_underlying hu, hb]
theorem run_slice_sl {t e : TypeId} {size n c' l hh m : Nat} {a : Option Addr} {lo hi mx : Option Value} (hu : P.underlying t = some (.slice e)) (hs : tSize P e = some size)
    (hb : (Instr.sliceBounds true n c' lo hi mx).run P w = .ok (l, hh, m) w) : (Instr.sliceAt t (.slice a n c') lo hi mx).run P w = .ok (.slice (if m = l then a else a.map (·.add (l * size))) (hh - l) (m - l)) w := by
  simp [Instr.sliceAt, Instr.slice, run_underlying hu, hb, run_sizeT hs]
theorem run_slice_arr {t e : TypeId} {size n l hh m : Nat} {a : Addr} {lo hi mx : Option Value} (hu : P.underlying t = some (.array n e)) (hs : tSize P e = some size)
    (hb : (Instr.sliceBounds false n n lo hi mx).run P w = .ok (l, hh, m) w) : (Instr.sliceAt t (.pointer (some a)) lo hi mx).run P w = .ok (.slice (some (if m = l then a else a.add (l * size))) (hh - l) (m - l)) w := by
  simp [Instr.sliceAt, Instr.sureAddr, run_underlying hu, hb, run_sizeT hs]
theorem run_slice_ptr {t arr e : TypeId} {size n l hh m : Nat} {a : Addr} {lo hi mx : Option Value} (hu : P.underlying t = some (.pointer arr)) (hv : P.underlying arr = some (.array n e)) (hs : tSize P e = some size)
    (hb : (Instr.sliceBounds false n n lo hi mx).run P w = .ok (l, hh, m) w) : (Instr.sliceAt t (.pointer (some a)) lo hi mx).run P w = .ok (.slice (some (if m = l then a else a.add (l * size))) (hh - l) (m - l)) w := by
  simp [Instr.sliceAt, Instr.slice, asAddr, run_underlying hu, run_underlying hv, hb, run_sizeT hs]

theorem take_drop_bytes (s : ByteArray) (l hh : Nat) : ((s.extract l hh).data.toList.map (·.toNat)) = ((s.data.toList.map (·.toNat)).drop l).take (hh - l) := by
  rw [show (s.extract l hh).data = s.data.extract l hh from ByteArray.data_extract, Array.toList_extract, List.extract_eq_take_drop, List.map_take, List.map_drop]

theorem slice_str {t : TypeId} {x r : AV} {a : Value} {lo hi : Option AV} {lo' hi' : Option Value} (hu : P.underlying t = some .string)
    (h : eStr (fun s => boundV (len' s) (len' s) hi fun h => boundV 0 h lo fun l => some (.str (take' (Nat.sub h l) (drop' l s)))) x = some r) (hx : VR ρ x a) (hlo : OR ρ lo lo') (hhi : OR ρ hi hi') : Gives P w ρ (Instr.sliceAt t a lo' hi' none) r := by
  obtain ⟨s, rfl, g1⟩ := eStr_some h
  obtain ⟨s', rfl, rfl⟩ := hx
  obtain ⟨hh, g2, q1⟩ := boundV_some g1 hhi
  obtain ⟨l, g3, q2⟩ := boundV_some g2 hlo
  cases g3
  rw [len'_eq, ← size_bytes] at q1
  refine ⟨.string (s'.extract l hh), run_slice_str hu (run_bounds2 (q1.imp (fun q => ⟨q.1, q.2.2⟩) id) (q2.imp (fun q => ⟨q.1, q.2.2⟩) id)), _, rfl, ?_⟩
  rw [take'_eq, drop'_eq, take_drop_bytes]; rfl

theorem slice_sl2 {t e : TypeId} {size : Nat} {q : Option (Nat × Nat)} {n c : Nat} {g : Option Nat} {r : AV} {a : Value} {lo hi : Option AV} {lo' hi' : Option Value} (hu : P.underlying t = some (.slice e)) (hs : tSize P e = some size)
    (h : iff' (gOk g size) (boundV n c hi fun h => boundV 0 h lo fun l => some (.slice (q.map fun p => (p.1, p.2 + l * size)) (h - l) (c - l) g)) = some r)
    (hx : VR ρ (.slice q n c g) a) (hlo : OR ρ lo lo') (hhi : OR ρ hi hi') : Gives P w ρ (Instr.sliceAt t a lo' hi' none) r := by
  obtain ⟨gg, g1⟩ := iff'_some.1 h
  obtain ⟨hh, g2, q1⟩ := boundV_some g1 hhi
  obtain ⟨l, g3, q2⟩ := boundV_some g2 hlo
  have r1 : ∀ {c' : Nat}, n ≤ c' → c ≤ c' → (Instr.sliceBounds true n c' lo' hi' none).run P w = .ok (l, hh, c') w ∧ l ≤ hh ∧ hh ≤ c' := by
    intro c' h1 h2
    have hhc : hh ≤ c' := by rcases q1 with ⟨_, _, rfl⟩ | ⟨k, _, h⟩ <;> omega
    have hl : l ≤ hh := by rcases q2 with ⟨_, _, rfl⟩ | ⟨k, _, h⟩ <;> omega
    exact ⟨run_bounds2 (q1.imp (fun q => ⟨q.1, q.2.2⟩) fun ⟨k, e, h⟩ => ⟨k, e, by omega⟩) (q2.imp (fun q => ⟨q.1, q.2.2⟩) id), hl, hhc⟩
  cases q with
  | none =>
    obtain ⟨rfl, rfl, rfl, rfl⟩ := hx
    obtain ⟨r1, h1, h2⟩ := r1 (Nat.le_refl 0) (Nat.le_refl 0)
    obtain rfl : hh = 0 := by omega
    obtain rfl : l = 0 := by omega
    cases g3
    exact ⟨.slice none 0 0, run_slice_sl hu hs r1, rfl, rfl, rfl, rfl⟩
  | some q =>
    obtain ⟨b, o⟩ := q
    obtain ⟨p, a', c', hp, rfl, hn, hc, he, hes, ha⟩ := hx
    obtain ⟨r1, h1, h2⟩ := r1 hn hc
    cases g3
    refine ⟨.slice (some (if c' = l then a' else a'.add (l * size))) (hh - l) (c' - l), ?_, p, _, _, hp, rfl, by omega, by omega, fun e => by rw [he e], fun es e => ?_, fun hne => ?_⟩
    · rw [run_slice_sl hu hs r1]
      split <;> rfl
    · subst e
      have : es = size := by simpa [gOk] using gg
      subst this
      have := hes es rfl
      have hm : l * es + (c' - l) * es = c' * es := by rw [← Nat.add_mul]; congr 1; omega
      omega
    · rw [if_neg (by omega), ha (by omega), add_addr, Nat.add_assoc]

theorem slice_sl3 {t e : TypeId} {size : Nat} {q : Option (Nat × Nat)} {n c : Nat} {g : Option Nat} {r m hv : AV} {a m' hv' : Value} {lo : Option AV} {lo' : Option Value} (hu : P.underlying t = some (.slice e)) (hs : tSize P e = some size)
    (h : (boundV 0 c (some m) fun m => boundV 0 m (some hv) fun h => boundV 0 h lo fun l => some (.slice (q.map fun p => (p.1, p.2 + l * size)) (h - l) (m - l) none)) = some r)
    (hx : VR ρ (.slice q n c g) a) (hlo : OR ρ lo lo') (hhi : VR ρ hv hv') (hm : VR ρ m m') : Gives P w ρ (Instr.sliceAt t a lo' (some hv') (some m')) r := by
  obtain ⟨mm, g2, q0⟩ := boundV_some (x' := some m') h ⟨m', rfl, hm⟩
  obtain ⟨hh, g3, q1⟩ := boundV_some (x' := some hv') g2 ⟨hv', rfl, hhi⟩
  obtain ⟨l, g4, q2⟩ := boundV_some g3 hlo
  rcases q0 with ⟨q0, _⟩ | ⟨k1, q0, hmc⟩
  · cases q0
  · rcases q1 with ⟨q1, _⟩ | ⟨k2, q1, hhm⟩
    · cases q1
    · cases q0; cases q1
      have hl : l ≤ hh := by rcases q2 with ⟨_, _, rfl⟩ | ⟨k, _, h⟩ <;> omega
      have r3 : ∀ {c' : Nat}, c ≤ c' → (Instr.sliceBounds true n c' lo' (some (.int k2 hh)) (some (.int k1 mm))).run P w = .ok (l, hh, mm) w :=
        fun h => run_bounds3 (by omega) hhm (q2.imp (fun q => ⟨q.1, q.2.2⟩) id)
      cases q with
      | none =>
        obtain ⟨rfl, rfl, rfl, rfl⟩ := hx
        have r3 := r3 (Nat.le_refl 0)
        cases g4
        refine ⟨_, run_slice_sl hu hs r3, ?_⟩
        obtain rfl : mm = 0 := by omega
        obtain rfl : hh = 0 := by omega
        obtain rfl : l = 0 := by omega
        exact ⟨rfl, rfl, rfl, rfl⟩
      | some q =>
        obtain ⟨b, o⟩ := q
        obtain ⟨p, a', c', hp, rfl, hn, hc, he, hes, ha⟩ := hx
        cases g4
        refine ⟨.slice (some (if mm = l then a' else a'.add (l * size))) (hh - l) (mm - l), ?_, p, _, _, hp, rfl, by omega, Nat.le_refl _, fun _ => rfl, (fun es e => by cases e), fun hne => ?_⟩
        · rw [run_slice_sl hu hs (r3 hc)]
          split <;> rfl
        · rw [if_neg (by omega), ha (by omega), add_addr, Nat.add_assoc]

theorem slice_at {size n : Nat} {r x : AV} {a : Value} {lo hi : Option AV} {lo' hi' : Option Value} {t : TypeId}
    (run : ∀ (ad : Addr) (l hh m : Nat), (Instr.sliceBounds false n n lo' hi' none).run P w = .ok (l, hh, m) w → (Instr.sliceAt t (.pointer (some ad)) lo' hi' none).run P w = .ok (.slice (some (if m = l then ad else ad.add (l * size))) (hh - l) (m - l)) w)
    (h : ePtr (fun b o => boundV n n hi fun h => boundV 0 h lo fun l => some (.slice (some (b, o + l * size)) (h - l) (n - l) none)) x = some r)
    (hx : VR ρ x a) (hlo : OR ρ lo lo') (hhi : OR ρ hi hi') : Gives P w ρ (Instr.sliceAt t a lo' hi' none) r := by
  obtain ⟨b, o, rfl, g1⟩ := ePtr_some h
  obtain ⟨p, hp, rfl⟩ := hx
  obtain ⟨hh, g2, q1⟩ := boundV_some g1 hhi
  obtain ⟨l, g3, q2⟩ := boundV_some g2 hlo
  cases g3
  have hhc : hh ≤ n := by rcases q1 with ⟨_, _, rfl⟩ | ⟨k, _, h⟩ <;> omega
  have hl : l ≤ hh := by rcases q2 with ⟨_, _, rfl⟩ | ⟨k, _, h⟩ <;> omega
  have r1 := run_bounds2 (P := P) (w := w) (isSlice := false) (len := n) (cap := n) (l := l) (hh := hh) (lo := lo') (hi := hi') (q1.imp (fun q => ⟨q.1, q.2.2⟩) id) (q2.imp (fun q => ⟨q.1, q.2.2⟩) id)
  exact ⟨_, run _ _ _ _ r1, p, _, _, hp, rfl, by omega, Nat.le_refl _, fun _ => rfl, (fun es e => by cases e), fun hne => by rw [if_neg (by omega), add_addr, Nat.add_assoc]⟩

theorem sliceV_sound {t : TypeId} {x r : AV} {a : Value} {lo hi mx : Option AV} {lo' hi' mx' : Option Value} (h : sliceV P t x lo hi mx = some r) (hx : VR ρ x a) (hlo : OR ρ lo lo') (hhi : OR ρ hi hi') (hmx : OR ρ mx mx') :
    Gives P w ρ (Instr.sliceAt t a lo' hi' mx') r := by
  unfold sliceV at h
  cases hu : P.underlying t with
  | none => rw [hu] at h; cases h
  | some d =>
    rw [hu] at h
    cases d with
    | string =>
      cases mx with
      | some m => cases h
      | none => cases hmx; exact slice_str hu h hx hlo hhi
    | slice e =>
      simp only at h
      cases hs : tSize P e with
      | none => rw [hs] at h; cases h
      | some size =>
        rw [hs] at h
        obtain ⟨q, n, c, g, rfl, g1⟩ := eSlice_some h
        cases mx with
        | none => cases hmx; exact slice_sl2 hu hs g1 hx hlo hhi
        | some m =>
          obtain ⟨m', rfl, hm'⟩ := hmx
          cases hi with
          | none =>
            obtain ⟨mm, g2, _⟩ := boundV_some (x' := some m') g1 ⟨m', rfl, hm'⟩
            cases g2
          | some hv =>
            obtain ⟨hv', rfl, hhv⟩ := hhi
            exact slice_sl3 hu hs g1 hx hlo hhv hm'
    | array n e =>
      cases hs : tSize P e with
      | none => simp only [hs] at h; cases h
      | some size =>
        cases mx with
        | some m => simp only [hs] at h; cases h
        | none =>
          cases hmx
          simp only [hs] at h
          exact slice_at (fun ad l hh m hb => run_slice_arr hu hs hb) h hx hlo hhi
    | pointer arr =>
      simp only at h
      cases hv : P.underlying arr with
      | none => rw [hv] at h; cases h
      | some d' =>
        cases d' with
        | array n e =>
          cases mx with
          | some m => simp only [hv] at h; cases h
          | none =>
            cases hmx
            cases hs : tSize P e with
            | none => simp only [hv, hs] at h; cases h
            | some size =>
              simp only [hv, hs] at h
              exact slice_at (fun ad l hh m hb => run_slice_ptr hu hv hs hb) h hx hlo hhi
        | _ => cases mx <;> (simp only [hv] at h; cases h)
    | _ => cases h

/-! ### reading -/
theorem oneAgg {t : TypeId} (hg : tAgg P t = some false) {b off : Nat} {v : AV} (hr : HR P keep ρ h w) (hl : load1 h (.ptr (some (b, off))) = some v) {a : Value} (ha : VR ρ (.ptr (some (b, off))) a) :
    Gives P w ρ (Instr.loadAt t a) v := by
  obtain ⟨p, cv, hp, hc, hv⟩ := hr.ld1 hl
  obtain ⟨p', hp', rfl⟩ := ha
  rw [hp] at hp'; cases hp'
  exact ⟨cv, by simp [Instr.loadAt, Instr.sureAddr, loadVar, run_aggT hg, hc], hv⟩

theorem load1_sound {t : TypeId} (hg : tAgg P t = some false) {x v : AV} (hr : HR P keep ρ h w) (hl : load1 h x = some v) {a : Value} (ha : VR ρ x a) : Gives P w ρ (Instr.loadAt t a) v := by
  obtain ⟨b, off, rfl, _⟩ := ePtr_some hl
  exact oneAgg hg hr hl ha

theorem loadN_sound {t : TypeId} {s : Nat} (hs : tSize P t = some s) (hg : tAgg P t = some true) {x v : AV} (hr : HR P keep ρ h w) (hl : loadN s h x = some v) {a : Value} (ha : VR ρ x a) : Gives P w ρ (Instr.loadAt t a) v := by
  obtain ⟨b, off, rfl, g⟩ := ePtr_some hl
  cases hv : h.ld b off s with
  | none => rw [hv] at g; cases g
  | some vs =>
    rw [hv] at g; cases g
    obtain ⟨p, cs, hp, hvs, hn, _, hc⟩ := hr.ld hv
    obtain ⟨p', hp', rfl⟩ := ha
    rw [hp] at hp'; cases hp'
    have := run_loadRun (P := P) (w := w) (a := ⟨p.blk, p.off + off, none⟩) hn (fun j u hj => by rw [add_addr]; exact hc j u hj)
    exact ⟨.agg cs.toArray, by simp [Instr.loadAt, Instr.sureAddr, loadVar, run_aggT hg, run_sizeT hs, this], _, rfl, by simpa using hvs⟩

/-- the same of a result variable -/
theorem load1_var {t : TypeId} (hg : tAgg P t = some false) {x v : AV} (hr : HR P keep ρ h w) (hl : load1 h x = some v) {a : Value} (ha : VR ρ x a) : ∃ ad cv, a = .pointer (some ad) ∧ (loadVar t ad).run P w = .ok cv w ∧ VR ρ v cv := by
  obtain ⟨b, off, rfl, _⟩ := ePtr_some hl
  obtain ⟨p, cv, hp, hc, hv⟩ := hr.ld1 hl
  obtain ⟨p', hp', rfl⟩ := ha
  rw [hp] at hp'; cases hp'
  exact ⟨_, cv, rfl, by simp [loadVar, run_aggT hg, hc], hv⟩
theorem loadN_var {t : TypeId} {s : Nat} (hs : tSize P t = some s) (hg : tAgg P t = some true) {x v : AV} (hr : HR P keep ρ h w) (hl : loadN s h x = some v) {a : Value} (ha : VR ρ x a) : ∃ ad cv, a = .pointer (some ad) ∧ (loadVar t ad).run P w = .ok cv w ∧ VR ρ v cv := by
  obtain ⟨b, off, rfl, g⟩ := ePtr_some hl
  cases hv : h.ld b off s with
  | none => rw [hv] at g; cases g
  | some vs =>
    rw [hv] at g; cases g
    obtain ⟨p, cs, hp, hvs, hn, _, hc⟩ := hr.ld hv
    obtain ⟨p', hp', rfl⟩ := ha
    rw [hp] at hp'; cases hp'
    have := run_loadRun (P := P) (w := w) (a := ⟨p.blk, p.off + off, none⟩) hn (fun j u hj => by rw [add_addr]; exact hc j u hj)
    exact ⟨_, .agg cs.toArray, rfl, by simp [loadVar, run_aggT hg, run_sizeT hs, this], _, rfl, by simpa using hvs⟩

theorem lenMap_sound {t k e ty : TypeId} {ts : Array TypeId} {x r : AV} {a : Value} (hu : P.underlying t = some (.map k e)) (ht : ts[0]? = some t) (hr : HR P keep ρ h w) (hl : lenMap h x = some r) (hx : VR ρ x a) : Gives P w ρ (Builtin.len_ ts ty #[a]) r := by
  unfold lenMap at hl
  split at hl
  · cases hl; cases hx
    exact ⟨.int .i64 0, by simp [Builtin.len_, ht, run_underlying hu, goInt], rfl⟩
  · rename_i b
    obtain ⟨es, c, hb, g⟩ := theMap_some hl
    cases g
    obtain ⟨p, es', hp, h0, hh, he⟩ := hr.blk _ _ hb
    obtain ⟨p', hp', _, rfl⟩ := hx
    rw [hp] at hp'; cases hp'
    have hlen := he.length
    refine ⟨.int .i64 es'.size, by simp [Builtin.len_, ht, run_underlying hu, goInt, getObj, Sem.run, hh], ?_⟩
    rw [len'_eq, ← hlen]; simp [VR]
  · cases hl

theorem theByte_some {v : AV} {c : Nat} (h : theByte v = some c) : v = .int .u8 c ∧ c < 256 := by
  obtain ⟨k, n, rfl, g⟩ := eInt_some h
  obtain ⟨g1, g2⟩ := iff'_some.1 g
  have : k = .u8 := by cases k <;> first | rfl | cases g1
  subst this
  cases n with
  | negSucc n => cases g2
  | ofNat n =>
    obtain ⟨g3, g4⟩ := iff'_some.1 g2
    cases g4
    exact ⟨rfl, Nat.lt_succ_of_le (Nat.le_of_ble_eq_true g3)⟩
theorem bytesOf_cons (v : AV) (vs : List AV) : bytesOf (v :: vs) = ob (theByte v) fun c => ob (bytesOf vs) fun l => some (c :: l) := rfl
theorem bytesOf_sound : ∀ {vs : List AV} {l : List Nat} {cs : List Value}, bytesOf vs = some l → VRs ρ vs cs → (cs = l.map fun (n : Nat) => Value.int .u8 n) ∧ ∀ c ∈ l, c < 256
  | [], l, cs, h, hv => by cases h; cases hv; exact ⟨rfl, by simp⟩
  | v :: vs, l, cs, h, hv => by
    rw [bytesOf_cons] at h
    obtain ⟨c, hc, h⟩ := ob_some.1 h
    obtain ⟨l', hl, h⟩ := ob_some.1 h
    cases h
    obtain ⟨u, us, rfl, h1, h2⟩ := hv
    obtain ⟨rfl, hlt⟩ := theByte_some hc
    cases h1
    obtain ⟨e, he⟩ := bytesOf_sound hl h2
    refine ⟨by rw [e]; rfl, fun d hd => ?_⟩
    rcases List.mem_cons.1 hd with rfl | hd
    · exact hlt
    · exact he d hd

end
end Go.Am
