/-
  AM, 63: operations on types, by what is known of the types. No program is named here.
-/
import Derived.Test.YtlfednnfkejcjaaQAmF
import Derived.SliceStrings
import Derived.WideShapes
import Derived.ChangeShapes
set_option linter.unusedVariables false
set_option linter.unusedSimpArgs false

namespace Go.Am
section
variable {P : Program} {t e : TypeId} {k : IntKind} {s : Nat}

theorem len_str (hu : P.underlying t = some .string) (l : List Nat) : len1 P t (.str l) = some (.int .i64 l.length) := by
  unfold len1; rw [hu]; show goLen (len' l) = _; rw [len'_eq]; rfl
theorem len_slice (hu : P.underlying t = some (.slice e)) (a : Option (Nat × Nat)) (n c : Nat) (g : Option Nat) : len1 P t (.slice a n c g) = some (.int .i64 n) := by
  unfold len1; rw [hu]; rfl
theorem len_map (h : Heap) {b c : Nat} {es : List MEnt} (hb : h.bs.gt b = some (.map es c)) : lenMap h (.map (some b)) = some (.int .i64 es.length) := by
  show h.theMap b (fun es _ => goLen (len' es)) = _
  unfold Heap.theMap; rw [hb]
  show goLen (len' es) = _
  rw [len'_eq]; rfl
theorem byteAt_get : ∀ (s : List Nat) (i : Nat), byteAt s i = s[i]?.map fun c => .int .u8 (c : Int)
  | [], _ => rfl
  | c :: s, 0 => rfl
  | c :: s, i + 1 => byteAt_get s i
theorem ix_str (hu : P.underlying t = some .string) (l : List Nat) (i : Nat) : index2 P t (.str l) (.int k (i : Int)) = l[i]?.map fun c => .int .u8 (c : Int) := by
  unfold index2; rw [hu]; exact byteAt_get l i
theorem cv_int {src dst : TypeId} {d : TypeDesc} (hs : P.underlying src = some d) (hd : P.underlying dst = some (.int k)) (l : IntKind) (n : Int) : conv1 P src dst (.int l n) = some (.int k (k.wrap n)) := by
  unfold conv1; rw [hs, hd]
  show (Int.rec (motive := fun _ => Option AV) (fun x => fit k x) (fun _ => wrapV k n) n : Option AV) = _
  cases n with
  | ofNat x => exact fit_eq k x
  | negSucc x => rfl
theorem fa_ptr {fs : Array Field} {fd : Field} {f m : Nat} (hu : P.underlying t = some (.struct fs)) (hf : fs[f]? = some fd) (hz : tSize P fd.type = some (m + 1)) (b o : Nat) : fieldAddr1 P t f (.ptr (some (b, o))) = some (.ptr (some (b, o + fd.offset))) := by
  unfold fieldAddr1; rw [hu]; simp only [hf, hz]; rfl
theorem inRange_in {n i : Nat} {f : Nat → Option AV} (hi : i < n) : inRange n (i : Int) f = f i := by
  show (Bool.rec (motive := fun _ => Option AV) none (f i) (Nat.ble (i + 1) n) : Option AV) = _
  rw [show Nat.ble (i + 1) n = true from Nat.ble_eq_true_of_le hi]
theorem ia_slice (hu : P.underlying t = some (.slice e)) (hs : tSize P e = some s) {b o n c i : Nat} {g : Option Nat} (hi : i < n) : indexAddr2 P t (.slice (some (b, o)) n c g) (.int k (i : Int)) = some (.ptr (some (b, o + i * s))) := by
  unfold indexAddr2; rw [hu]; simp only [hs]
  show inRange n (i : Int) (fun i => some (.ptr (some (b, Nat.add o (Nat.mul i s))))) = _
  rw [inRange_in hi]; rfl
theorem ia_arr {n : Nat} (hu : P.underlying t = some (.array n e)) (hs : tSize P e = some s) {b o i : Nat} (hi : i < n) : indexAddr2 P t (.ptr (some (b, o))) (.int k (i : Int)) = some (.ptr (some (b, o + i * s))) := by
  unfold indexAddr2; rw [hu]; simp only [hs]
  show inRange n (i : Int) (fun i => some (.ptr (some (b, Nat.add o (Nat.mul i s))))) = _
  rw [inRange_in hi]; rfl
theorem bound_no {d y : Nat} {f : Nat → Option AV} : boundV d y none f = f d := rfl
theorem bound_at {d y n : Nat} {f : Nat → Option AV} (h : n ≤ y) : boundV d y (some (.int k (n : Int))) f = f n := by
  show (Bool.rec (motive := fun _ => Option AV) none (f n) (Nat.ble n y) : Option AV) = _
  rw [show Nat.ble n y = true from Nat.ble_eq_true_of_le h]
section
variable {l : List Nat} {lo hi : Nat}
theorem sl_str100 (hu : P.underlying t = some .string) (h : lo ≤ l.length) : sliceN P t true false false [.str l, .int k (lo : Int)] = some (.str (l.drop lo)) := by
  show sliceV P t (.str l) (some (.int k (lo : Int))) none none = _
  unfold sliceV; rw [hu]
  show boundV 0 (len' l) (some (.int k (lo : Int))) (fun x => some (.str (take' (Nat.sub (len' l) x) (drop' x l)))) = _
  rw [bound_at (by rw [len'_eq]; exact h), take'_eq, drop'_eq, len'_eq, List.take_of_length_le (by simp only [List.length_drop]; exact Nat.le_refl _)]
theorem sl_str010 (hu : P.underlying t = some .string) (h : hi ≤ l.length) : sliceN P t false true false [.str l, .int k (hi : Int)] = some (.str (l.take hi)) := by
  show sliceV P t (.str l) none (some (.int k (hi : Int))) none = _
  unfold sliceV; rw [hu]
  show boundV (len' l) (len' l) (some (.int k (hi : Int))) (fun h => some (.str (take' (Nat.sub h 0) (drop' 0 l)))) = _
  rw [bound_at (by rw [len'_eq]; exact h), take'_eq, drop'_eq]; rfl
end
section
variable {a : Option (Nat × Nat)} {n c lo hi mx : Nat} {g : Option Nat}
theorem sl_100 (hu : P.underlying t = some (.slice e)) (hs : tSize P e = some s) (hg : gOk g s = true) (h : lo ≤ n) :
    sliceN P t true false false [.slice a n c g, .int k (lo : Int)] = some (.slice (a.map fun p => (p.1, p.2 + lo * s)) (n - lo) (c - lo) g) := by
  show sliceV P t (.slice a n c g) (some (.int k (lo : Int))) none none = _
  unfold sliceV; rw [hu]; simp only [hs]
  show iff' (gOk g s) (boundV 0 n (some (.int k (lo : Int))) fun l => some (.slice (a.map fun p => (p.1, p.2 + l * s)) (n - l) (c - l) g)) = _
  rw [hg, bound_at h]; rfl
theorem sl_010 (hu : P.underlying t = some (.slice e)) (hs : tSize P e = some s) (hg : gOk g s = true) (h : hi ≤ c) :
    sliceN P t false true false [.slice a n c g, .int k (hi : Int)] = some (.slice (a.map fun p => (p.1, p.2 + 0 * s)) (hi - 0) (c - 0) g) := by
  show sliceV P t (.slice a n c g) none (some (.int k (hi : Int))) none = _
  unfold sliceV; rw [hu]; simp only [hs]
  show iff' (gOk g s) (boundV n c (some (.int k (hi : Int))) fun x => some (.slice (a.map fun p => (p.1, p.2 + 0 * s)) (x - 0) (c - 0) g)) = _
  rw [hg, bound_at h]; rfl
theorem sl_110 {k' : IntKind} (hu : P.underlying t = some (.slice e)) (hs : tSize P e = some s) (hg : gOk g s = true) (h : hi ≤ c) (h' : lo ≤ hi) :
    sliceN P t true true false [.slice a n c g, .int k (lo : Int), .int k' (hi : Int)] = some (.slice (a.map fun p => (p.1, p.2 + lo * s)) (hi - lo) (c - lo) g) := by
  show sliceV P t (.slice a n c g) (some (.int k (lo : Int))) (some (.int k' (hi : Int))) none = _
  unfold sliceV; rw [hu]; simp only [hs]
  show iff' (gOk g s) (boundV n c (some (.int k' (hi : Int))) fun x => boundV 0 x (some (.int k (lo : Int))) fun l => some (.slice (a.map fun p => (p.1, p.2 + l * s)) (x - l) (c - l) g)) = _
  rw [hg, bound_at h, bound_at h']; rfl
theorem sl_111 {k' k'' : IntKind} (hu : P.underlying t = some (.slice e)) (hs : tSize P e = some s) (h : mx ≤ c) (h' : hi ≤ mx) (h'' : lo ≤ hi) :
    sliceN P t true true true [.slice a n c g, .int k (lo : Int), .int k' (hi : Int), .int k'' (mx : Int)] = some (.slice (a.map fun p => (p.1, p.2 + lo * s)) (hi - lo) (mx - lo) none) := by
  show sliceV P t (.slice a n c g) (some (.int k (lo : Int))) (some (.int k' (hi : Int))) (some (.int k'' (mx : Int))) = _
  unfold sliceV; rw [hu]; simp only [hs]
  show boundV 0 c (some (.int k'' (mx : Int))) (fun m => boundV 0 m (some (.int k' (hi : Int))) fun x => boundV 0 x (some (.int k (lo : Int))) fun l => some (.slice (a.map fun p => (p.1, p.2 + l * s)) (x - l) (m - l) none)) = _
  rw [bound_at h, bound_at h', bound_at h'']
theorem sl_011 {k' k'' : IntKind} (hu : P.underlying t = some (.slice e)) (hs : tSize P e = some s) (h : mx ≤ c) (h' : hi ≤ mx) :
    sliceN P t false true true [.slice a n c g, .int k' (hi : Int), .int k'' (mx : Int)] = some (.slice (a.map fun p => (p.1, p.2 + 0 * s)) (hi - 0) (mx - 0) none) := by
  show sliceV P t (.slice a n c g) none (some (.int k' (hi : Int))) (some (.int k'' (mx : Int))) = _
  unfold sliceV; rw [hu]; simp only [hs]
  show boundV 0 c (some (.int k'' (mx : Int))) (fun m => boundV 0 m (some (.int k' (hi : Int))) fun x => some (.slice (a.map fun p => (p.1, p.2 + 0 * s)) (x - 0) (m - 0) none)) = _
  rw [bound_at h, bound_at h']
end

/-! ### Maps whose keys are integers -/
def kInt (k : IntKind) (n : Int) (e : MEnt) : Bool := match e.key with
  | .int l m => l == k && m == n
  | _ => false
def AllInt (k : IntKind) (es : List MEnt) : Prop := ∀ e, e ∈ es → ∃ n, e.key = .int k n
theorem eqI_beq (a b : Int) : eqI a b = (a == b) := eqI_eq a b
theorem keyEq_int (hu : P.underlying t = some (.int k)) (n m : Int) : keyEq P t (.int k n) (.int k m) = some (n == m) := by
  unfold keyEq; rw [hu]
  show kEq k k (some (eqI n m)) = _
  rw [kEq_same, eqI_eq]
theorem findE_int (hu : P.underlying t = some (.int k)) (n : Int) : ∀ es : List MEnt, AllInt k es → findE (keyEq P t) (.int k n) es = some ((es.find? (kInt k n)).map (·.val))
  | [], _ => rfl
  | e :: es, ha => by
    obtain ⟨m, hm⟩ := ha e (List.mem_cons_self ..)
    have ih := findE_int hu n es fun x hx => ha x (List.mem_cons_of_mem _ hx)
    show (Option.rec (motive := fun _ => Option (Option AV)) none (fun b => Bool.rec (motive := fun _ => Option (Option AV)) (findE (keyEq P t) (.int k n) es) (some (some e.val)) b) (keyEq P t (.int k n) e.key) : Option (Option AV)) = _
    rw [hm, keyEq_int hu, List.find?_cons]
    have hk : kInt k n e = (n == m) := by
      unfold kInt; rw [hm]
      have hkk : (k == k) = true := by cases k <;> rfl
      show (k == k && m == n) = (n == m)
      rw [hkk, Bool.true_and]
      by_cases e : n = m
      · subst e; rfl
      · have e' : ¬ m = n := fun h => e h.symm
        rw [show (m == n) = false from by simpa using e', show (n == m) = false from by simpa using e]
    rw [hk]
    cases n == m with
    | true => rfl
    | false => exact ih
theorem lk_int {kt : TypeId} {z : AV} {ok : Bool} (hu : P.underlying t = some (.map kt e)) (hk : P.underlying kt = some (.int k)) (hz : tZero P e = some z) {h : Heap} {b c : Nat} {es : List MEnt} (hb : h.bs.gt b = some (.map es c)) (ha : AllInt k es) (n : Int) :
    lookup2 P t ok (.map (some b)) (.int k n) h = some (match es.find? (kInt k n) with | some x => okPair ok x.val true | none => okPair ok z false) := by
  unfold lookup2; rw [hu]; simp only [hz]
  have hko : keyOk P kt (.int k n) = true := by unfold keyOk; rw [hk]; rfl
  rw [hko]
  show h.theMap b (fun es _ => Option.rec (motive := fun _ => Option AV) none (fun r => Option.rec (motive := fun _ => Option AV) (some (okPair ok z false)) (fun v => some (okPair ok v true)) r) (findE (keyEq P kt) (.int k n) es)) = _
  unfold Heap.theMap; rw [hb]
  show (Option.rec (motive := fun _ => Option AV) none _ (findE (keyEq P kt) (.int k n) es) : Option AV) = _
  rw [findE_int hk n es ha]
  cases es.find? (kInt k n) <;> rfl
/-- the entries with this value under this key, at its place or at the end -/
def putE (k : IntKind) (n : Int) (v : AV) (clock : Nat) : List MEnt → List MEnt
  | [] => [MEnt.mk (.int k n) v clock]
  | e :: es => if kInt k n e then MEnt.mk (.int k n) v e.born :: es else e :: putE k n v clock es
def cutE (k : IntKind) (n : Int) : List MEnt → List MEnt
  | [] => []
  | e :: es => if kInt k n e then es else e :: cutE k n es
theorem updE_int (hu : P.underlying t = some (.int k)) (n : Int) (v : AV) : ∀ es : List MEnt, AllInt k es → updE (keyEq P t) (.int k n) v es = some (if es.any (kInt k n) then some (putE k n v 0 es) else none)
  | [], _ => rfl
  | e :: es, ha => by
    obtain ⟨m, hm⟩ := ha e (List.mem_cons_self ..)
    have ih := updE_int hu n v es fun x hx => ha x (List.mem_cons_of_mem _ hx)
    show (Option.rec (motive := fun _ => Option (Option (List MEnt))) none (fun b => Bool.rec (motive := fun _ => Option (Option (List MEnt)))
      (Option.rec (motive := fun _ => Option (Option (List MEnt))) none (fun o => Option.rec (motive := fun _ => Option (Option (List MEnt))) (some none) (fun l => some (some (e :: l))) o) (updE (keyEq P t) (.int k n) v es))
      (iff' (AV.same (.int k n) e.key) (some (some (MEnt.mk (.int k n) v e.born :: es)))) b) (keyEq P t (.int k n) e.key) : Option (Option (List MEnt))) = _
    rw [hm, keyEq_int hu, ih]
    have hk : kInt k n e = (n == m) := by
      unfold kInt; rw [hm]
      have hkk : (k == k) = true := by cases k <;> rfl
      show (k == k && m == n) = (n == m)
      rw [hkk, Bool.true_and]
      by_cases e : n = m
      · subst e; rfl
      · have e' : ¬ m = n := fun h => e h.symm
        rw [show (m == n) = false from by simpa using e', show (n == m) = false from by simpa using e]
    rw [List.any_cons, hk]
    by_cases h : n = m
    · subst h
      have hs : AV.same (.int k n) (.int k n) = true := by simp [AV.same]
      have hp : putE k n v 0 (e :: es) = MEnt.mk (.int k n) v e.born :: es := by rw [putE, hk]; simp
      simp only [beq_self_eq_true, Bool.true_or, if_true, hs, hp]
      rfl
    · have hb : (n == m) = false := by simpa using h
      have hp : putE k n v 0 (e :: es) = e :: putE k n v 0 es := by rw [putE, hk, hb]; rfl
      rw [hb, Bool.false_or, hp]
      cases es.any (kInt k n) <;> rfl
theorem putE_clock {k : IntKind} {n : Int} {v : AV} {c d : Nat} : ∀ {es : List MEnt}, es.any (kInt k n) = true → putE k n v c es = putE k n v d es
  | [], h => by cases h
  | e :: es, h => by
    unfold putE
    cases hk : kInt k n e with
    | true => rfl
    | false =>
      rw [List.any_cons, hk, Bool.false_or] at h
      rw [putE_clock h]
theorem putE_end {k : IntKind} {n : Int} {v : AV} {c : Nat} : ∀ {es : List MEnt}, es.any (kInt k n) = false → putE k n v c es = es ++ [MEnt.mk (.int k n) v c]
  | [], _ => rfl
  | e :: es, h => by
    rw [List.any_cons, Bool.or_eq_false_iff] at h
    rw [putE, h.1, putE_end h.2]; rfl
theorem mu_int {kt : TypeId} (hu : P.underlying t = some (.map kt e)) (hk : P.underlying kt = some (.int k)) {h : Heap} {b c : Nat} {es : List MEnt} (hb : h.bs.gt b = some (.map es c)) (ha : AllInt k es) (n : Int) (v : AV) :
    mapUpd P t (.map (some b)) (.int k n) v h = some (undefA, h.put b (.map (putE k n v c es) (if es.any (kInt k n) then c else c + 1))) := by
  unfold mapUpd; rw [hu]
  have hko : keyOk P kt (.int k n) = true := by unfold keyOk; rw [hk]; rfl
  simp only [hko]
  show h.theMap b (fun es clock => Option.rec (motive := fun _ => Option (AV × Heap)) none
        (fun r => Option.rec (motive := fun _ => Option (AV × Heap)) (some (undefA, h.put b (.map (app' es [MEnt.mk (.int k n) v clock]) (Nat.succ clock)))) (fun l => some (undefA, h.put b (.map l clock))) r) (updE (keyEq P kt) (.int k n) v es)) = _
  unfold Heap.theMap; rw [hb]
  show (Option.rec (motive := fun _ => Option (AV × Heap)) none _ (updE (keyEq P kt) (.int k n) v es) : Option (AV × Heap)) = _
  rw [updE_int hk n v es ha]
  cases h1 : es.any (kInt k n) with
  | true => rw [if_pos rfl, if_pos rfl, putE_clock (c := c) (d := 0) h1]
  | false =>
    rw [putE_end (c := c) h1, app'_eq]; rfl
theorem delE_int (hu : P.underlying t = some (.int k)) (n : Int) : ∀ es : List MEnt, AllInt k es → delE (keyEq P t) (.int k n) es = some (cutE k n es)
  | [], _ => rfl
  | e :: es, ha => by
    obtain ⟨m, hm⟩ := ha e (List.mem_cons_self ..)
    have ih := delE_int hu n es fun x hx => ha x (List.mem_cons_of_mem _ hx)
    show (Option.rec (motive := fun _ => Option (List MEnt)) none (fun b => Bool.rec (motive := fun _ => Option (List MEnt)) (Option.rec (motive := fun _ => Option (List MEnt)) none (fun l => some (e :: l)) (delE (keyEq P t) (.int k n) es)) (some es) b) (keyEq P t (.int k n) e.key) : Option (List MEnt)) = _
    rw [hm, keyEq_int hu, ih]
    have hk : kInt k n e = (n == m) := by
      unfold kInt; rw [hm]
      have hkk : (k == k) = true := by cases k <;> rfl
      show (k == k && m == n) = (n == m)
      rw [hkk, Bool.true_and]
      by_cases e : n = m
      · subst e; rfl
      · have e' : ¬ m = n := fun h => e h.symm
        rw [show (m == n) = false from by simpa using e', show (n == m) = false from by simpa using e]
    rw [cutE, hk]
    cases n == m <;> rfl
theorem md_int {kt : TypeId} (hu : P.underlying t = some (.map kt e)) (hk : P.underlying kt = some (.int k)) {h : Heap} {b c : Nat} {es : List MEnt} (hb : h.bs.gt b = some (.map es c)) (ha : AllInt k es) (n : Int) :
    mapDel P t (.map (some b)) (.int k n) h = some (undefA, h.put b (.map (cutE k n es) c)) := by
  unfold mapDel; rw [hu]
  have hko : keyOk P kt (.int k n) = true := by unfold keyOk; rw [hk]; rfl
  simp only [hko]
  show h.theMap b (fun es clock => Option.rec (motive := fun _ => Option (AV × Heap)) none (fun l => some (undefA, h.put b (.map l clock))) (delE (keyEq P kt) (.int k n) es)) = _
  unfold Heap.theMap; rw [hb]
  show (Option.rec (motive := fun _ => Option (AV × Heap)) none _ (delE (keyEq P kt) (.int k n) es) : Option (AV × Heap)) = _
  rw [delE_int hk n es ha]
theorem mm_map {kt : TypeId} (hu : P.underlying t = some (.map kt e)) : makeMap1 P t true = some (.map [] 0, mapTo) := by unfold makeMap1; rw [hu]

/-! ### Boxes -/
theorem box_agg {cs : List AV} (h1 : cs.all AV.one = true) : box1 (.agg cs) = some (.cells (fillC cs .leaf 0) [] cs.length false, ptrTo) := by
  show iff' (allOne cs) (some (rowBlk cs, ptrTo)) = _
  rw [allOne_eq, h1, len_rowBlk]; rfl
theorem box_one {v : AV} (hc : v.cells = [v]) (h1 : v.one = true) : box1 v = some (.cells (fillC [v] .leaf 0) [] 1 false, ptrTo) := by
  show iff' (allOne v.cells) (some (rowBlk v.cells, ptrTo)) = _
  rw [hc, allOne_eq, show [v].all AV.one = true by simpa using h1, len_rowBlk]; rfl
theorem st_agg {n : Nat} {h : Heap} {b o : Nat} {cs : List AV} (hn : cs.length = n) : storeN n h (.ptr (some (b, o))) (.agg cs) = match h.sto b o cs with
    | none => none
    | some h' => some (undefA, h') := by
  show (Bool.rec (motive := fun _ => Option (AV × Heap)) none (Option.rec (motive := fun _ => Option (AV × Heap)) none (fun h => some (undefA, h)) (h.sto b o cs)) (Nat.beq (len' cs) n) : Option (AV × Heap)) = _
  rw [len'_eq, hn, Nat.beq_refl]
  cases h.sto b o cs <;> rfl
end
end Go.Am

/-
  AM, 64: slices: read, and owned; append, delete's parts. No program is named here.
-/
namespace Go.Am

theorem Rw.alloc (h : Heap) {id n : Nat} {vs z : List AV} {ro : Bool} (hid : h.next ≤ id) (hn : n = vs.length) :
    ∃ h1, h.new id (.cells (fillC vs .leaf 0) z n ro) = h1 ∧ Rw h1 id vs z ro ∧ h1.next = id + 1 ∧ ∀ c, c ≠ id → h1.bs.gt c = h.bs.gt c := by
  subst hn
  obtain ⟨a, b, c⟩ := Rw.new (h := h) (id := id) (vs := vs) (z := z) (ro := ro) hid
  exact ⟨_, rfl, a, b, c⟩

/-- a slice of n elements of s cells each: its cells can be read -/
def Els (h : Heap) (v : AV) (n s : Nat) (cs : List AV) : Prop :=
  cs.length = n * s ∧ ∃ a c g, v = .slice a n c g ∧ (a = none → n = 0) ∧ ∀ b o, a = some (b, o) → b < h.next ∧ h.ld b o (n * s) = some cs
/-- .. if there is one at all -/
def ElsR (h : Heap) (v : AV) (n s : Nat) (cs : List AV) : Prop :=
  cs.length = n * s ∧ ∃ a c g, v = .slice a n c g ∧ (a = none → n = 0) ∧ ∀ b o, a = some (b, o) → b < h.next ∧ (0 < n → h.ld b o (n * s) = some cs)
/-- a slice that owns its block, which it may overwrite and outgrow -/
def SlO (e s : Nat) (h : Heap) (v : AV) (n : Nat) (cs : List AV) (bs : List Nat) : Prop :=
  (v = .slice none 0 0 none ∧ n = 0 ∧ cs = [] ∧ bs = []) ∨
  ∃ b c rest z, v = .slice (some (b, 0)) n c (some s) ∧ cs.length = n * s ∧ (cs ++ rest).length = c * s ∧ n ≤ c ∧ Rw h b (cs ++ rest) z false ∧ b < h.next ∧ bs = [b] ∧ z = tyMark e false ∧ cs.all AV.one = true

section
variable {h h' : Heap} {v : AV} {n s e : Nat} {cs : List AV} {bs : List Nat}
theorem ld_ld1 {h : Heap} {b o n : Nat} {cs : List AV} (hl : h.ld b o n = some cs) : cs.length = n ∧ ∀ j, j < n → h.ld1 b (o + j) = cs[j]? := by
  obtain ⟨t, z, m, ro, h1, h2, h3, h4⟩ := ld_some hl
  refine ⟨h3, fun j hj => ?_⟩
  unfold Heap.ld1 Heap.cells
  rw [h1]
  show (Bool.rec (motive := fun _ => Option AV) none (cellAt t z (o + j)) (Nat.ble (o + j + 1) m) : Option AV) = _
  rw [show Nat.ble (o + j + 1) m = true from Nat.ble_eq_true_of_le (by omega)]
  exact h4 j hj
theorem Els.cell {a : Option (Nat × Nat)} {c : Nat} {g : Option Nat} (hv : Els h (.slice a n c g) n s cs) (hn : 0 < n) : ∃ b o, a = some (b, o) ∧ ∀ j, j < n * s → h.ld1 b (o + j) = cs[j]? := by
  obtain ⟨_, a', c', g', e, h1, h2⟩ := hv
  cases e
  cases a with
  | none => have := h1 rfl; omega
  | some p => exact ⟨p.1, p.2, rfl, fun j hj => (ld_ld1 (h2 p.1 p.2 rfl).2).2 j hj⟩
theorem ElsR.cell {a : Option (Nat × Nat)} {c : Nat} {g : Option Nat} (hv : ElsR h (.slice a n c g) n s cs) (hn : 0 < n) : ∃ b o, a = some (b, o) ∧ ∀ j, j < n * s → h.ld1 b (o + j) = cs[j]? := by
  obtain ⟨_, a', c', g', e, h1, h2⟩ := hv
  cases e
  cases a with
  | none => have := h1 rfl; omega
  | some p => exact ⟨p.1, p.2, rfl, fun j hj => (ld_ld1 ((h2 p.1 p.2 rfl).2 hn)).2 j hj⟩
theorem ElsR.lt {b o c : Nat} {g : Option Nat} (hv : ElsR h (.slice (some (b, o)) n c g) n s cs) : b < h.next := by
  obtain ⟨_, _, _, _, e, _, h2⟩ := hv
  cases e
  exact (h2 b o rfl).1
theorem srcOf_at {p : Nat × Nat} {c : Nat} {g : Option Nat} : srcOf s (fun n => n) (.slice (some p) n c g) h = if n = 0 then some ([], 0) else match h.ld p.1 p.2 (n * s) with
    | none => none
    | some vs => some (vs, n) := by
  show (Bool.rec (motive := fun _ => Option (List AV × Nat)) (Option.rec (motive := fun _ => Option (List AV × Nat)) none (fun vs => some (vs, n)) (h.ld p.1 p.2 (n * s))) (some ([], 0)) (Nat.beq n 0) : Option (List AV × Nat)) = _
  cases n with
  | zero => rfl
  | succ n =>
    rw [if_neg (by omega)]
    show (Option.rec (motive := fun _ => Option (List AV × Nat)) none (fun vs => some (vs, n + 1)) (h.ld p.1 p.2 ((n + 1) * s)) : Option (List AV × Nat)) = _
    cases h.ld p.1 p.2 ((n + 1) * s) <;> rfl
theorem Els.src (hv : Els h v n s cs) : srcOf s (fun n => n) v h = some (cs, n) := by
  obtain ⟨h0, a, c, g, rfl, h1, h2⟩ := hv
  cases a with
  | none =>
    obtain rfl := h1 rfl
    rw [Nat.zero_mul] at h0
    rw [List.eq_nil_of_length_eq_zero h0]; rfl
  | some p =>
    rw [srcOf_at]
    by_cases h0' : n = 0
    · subst h0'
      rw [Nat.zero_mul] at h0
      rw [if_pos rfl, List.eq_nil_of_length_eq_zero h0]
    · rw [if_neg h0', (h2 p.1 p.2 rfl).2]
theorem ElsR.src (hv : ElsR h v n s cs) : srcOf s (fun n => n) v h = some (cs, n) := by
  obtain ⟨h0, a, c, g, rfl, h1, h2⟩ := hv
  cases a with
  | none =>
    obtain rfl := h1 rfl
    rw [Nat.zero_mul] at h0
    rw [List.eq_nil_of_length_eq_zero h0]; rfl
  | some p =>
    rw [srcOf_at]
    by_cases h0' : n = 0
    · subst h0'
      rw [Nat.zero_mul] at h0
      rw [if_pos rfl, List.eq_nil_of_length_eq_zero h0]
    · rw [if_neg h0', (h2 p.1 p.2 rfl).2 (by omega)]
theorem srcOf_row {b o c : Nat} {g : Option Nat} {vs z : List AV} {ro : Bool} (hr : Rw h b vs z ro) (hi : o + n * s ≤ vs.length) : srcOf s (fun n => n) (.slice (some (b, o)) n c g) h = some ((vs.drop o).take (n * s), n) := by
  rw [srcOf_at]
  by_cases h0 : n = 0
  · subst h0
    rw [if_pos rfl, Nat.zero_mul, List.take_zero]
  · rw [if_neg h0]
    show (match h.ld b o (n * s) with | none => none | some vs => some (vs, n)) = _
    rw [hr.ld hi]
theorem SlO.els (ho : SlO e s h v n cs bs) : Els h v n s cs := by
  rcases ho with ⟨rfl, rfl, rfl, rfl⟩ | ⟨b, c, rest, z, rfl, h1, _, _, h2, hlt, _, _, _⟩
  · exact ⟨by simp, none, 0, none, rfl, fun _ => rfl, fun _ _ e => by cases e⟩
  · refine ⟨h1, some (b, 0), c, some s, rfl, (fun e => by cases e), fun b' o e => ?_⟩
    cases e
    exact ⟨hlt, by rw [h2.ld (by rw [List.length_append]; omega), List.drop_zero, ← h1, List.take_left' rfl]⟩
theorem Els.same {h' : Heap} {b o c : Nat} {g : Option Nat} (hv : Els h (.slice (some (b, o)) n c g) n s cs) (hb : h'.bs.gt b = h.bs.gt b) (hn : h.next ≤ h'.next) : Els h' (.slice (some (b, o)) n c g) n s cs := by
  obtain ⟨h0, a, c', g', e, h1, h2⟩ := hv
  cases e
  refine ⟨h0, _, _, _, rfl, h1, fun b' o' e => ?_⟩
  cases e
  refine ⟨Nat.lt_of_lt_of_le (h2 b o rfl).1 hn, ?_⟩
  rw [← (h2 b o rfl).2]
  unfold Heap.ld Heap.cells
  rw [hb]
theorem Els.lt {b o c : Nat} {g : Option Nat} (hv : Els h (.slice (some (b, o)) n c g) n s cs) : b < h.next := by
  obtain ⟨_, _, _, _, e, _, h2⟩ := hv
  cases e
  exact (h2 b o rfl).1
theorem SlO.len (ho : SlO e s h v n cs bs) : cs.length = n * s := ho.els.1
theorem SlO.lt (ho : SlO e s h v n cs bs) : ∀ b, b ∈ bs → b < h.next := by
  rcases ho with ⟨_, _, _, rfl⟩ | ⟨b, c, rest, z, _, _, _, _, _, hlt, rfl, _, _⟩
  · intro b hb; cases hb
  · intro b' hb; rw [List.mem_singleton] at hb; subst hb; exact hlt
theorem SlO.same (ho : SlO e s h v n cs bs) (hb : ∀ b, b ∈ bs → h'.bs.gt b = h.bs.gt b) (hn : h.next ≤ h'.next) : SlO e s h' v n cs bs := by
  rcases ho with h0 | ⟨b, c, rest, z, h1, h2, h3, h4, h5, h6, rfl, h7, h8⟩
  · exact .inl h0
  · exact .inr ⟨b, c, rest, z, h1, h2, h3, h4, h5.same (hb b (List.mem_singleton.2 rfl)), Nat.lt_of_lt_of_le h6 hn, rfl, h7, h8⟩
theorem SlO.sm {F : Nat → Prop} (ho : SlO e s h v n cs bs) (hs : Sm F h h') (hF : ∀ b, b ∈ bs → ¬ F b) : SlO e s h' v n cs bs :=
  ho.same (fun b hb => hs.2 b (ho.lt b hb) (hF b hb)) hs.1
theorem SlO.one (ho : SlO e s h v n cs bs) : cs.all AV.one = true := by
  rcases ho with ⟨_, _, rfl, _⟩ | ⟨b, c, rest, z, _, _, _, _, _, _, _, _, h8⟩
  · rfl
  · exact h8
theorem SlO.nil {h : Heap} : SlO e s h (.slice none 0 0 none) 0 [] [] := .inl ⟨rfl, rfl, rfl, rfl⟩

theorem room_le {by' need : Nat} (h : need * by' ≤ 68719476736) (h' : need ≤ 68719476736) : room by' need = true := by
  unfold room
  rw [and'_eq, Bool.and_eq_true]
  exact ⟨Nat.ble_eq_true_of_le h, Nat.ble_eq_true_of_le h'⟩
theorem fitsZ_own (e : Nat) : fitsZ e (tyMark e false) = true := by
  show (Bool.rec (motive := fun _ => Bool) (Nat.beq e e) false false : Bool) = true
  exact Nat.beq_refl e
theorem zKeep_own (e : Nat) : zKeep (tyMark e false) = tyMark e false := rfl
theorem appNew_eq {size need id : Nat} {z : List AV} {h : Heap} {cs : List AV} (h1 : cs.all AV.one = true) : appNew size need z id h cs = some (.slice (some (id, 0)) need need (some size), h.new id (.cells (fillC cs .leaf 0) z cs.length false)) := by
  unfold appNew; rw [allOne_eq, h1, len'_eq]; rfl

theorem appendS_eq {P : Program} {t : TypeId} {k by' m len : Nat} {zv x : AV} {ys : List AV} (hu : P.underlying t = some (.slice e)) (hs : tSize P e = some (k + 1)) (hb : tBytes P e = some by') (hz : tZero P e = some zv) (hzl : zv.cells.length = k + 1)
    (hsrc : srcOf (k + 1) (fun n => n) x h = some (ys, m)) (hyl : ys.length = m * (k + 1)) (hr : room by' (len + m) = true) (a : Option (Nat × Nat)) (cap : Nat) (g : Option Nat) (id : Nat) :
    appendS P t (.slice a len cap g) x id h = if m = 0 then some (.slice a len cap g, h) else appAt (k + 1) e a len cap g id h ys m := by
  unfold appendS
  rw [hu]
  simp only [hs, hb, hz, Option.map_some, Option.getD_some, len'_eq, hzl, Nat.beq_refl]
  show (Option.rec (motive := fun _ => Option (AV × Heap)) none (fun src => iff' (and' (room by' (Nat.add len src.2)) (Nat.beq src.1.length (Nat.mul src.2 (k + 1)))) (Nat.rec (motive := fun _ => Option (AV × Heap)) (some (_, h)) (fun _ _ => appAt (k + 1) e a len cap g id h src.1 src.2) src.2)) (srcOf (k + 1) (fun n => n) x h) : Option (AV × Heap)) = _
  rw [hsrc]
  show iff' (and' (room by' (len + m)) (Nat.beq ys.length (m * (k + 1)))) (Nat.rec (motive := fun _ => Option (AV × Heap)) (some (.slice a len cap g, h)) (fun _ _ => appAt (k + 1) e a len cap g id h ys m) m) = _
  rw [hr, hyl, Nat.beq_refl]
  cases m <;> rfl
/-- append to a slice without elements or room -/
theorem app_zero {P : Program} {t : TypeId} {k by' m b id : Nat} {zv x : AV} {ys : List AV} (hu : P.underlying t = some (.slice e)) (hs : tSize P e = some (k + 1)) (hb : tBytes P e = some by') (hz : tZero P e = some zv) (hzl : zv.cells.length = k + 1)
    (hsrc : srcOf (k + 1) (fun n => n) x h = some (ys, m)) (hyl : ys.length = m * (k + 1)) (hy1 : ys.all AV.one = true) (hr : room by' (0 + m) = true) (hb0 : h.ld b 0 0 = some []) :
    appendS P t (.slice (some (b, 0)) 0 0 none) x id h = if m = 0 then some (.slice (some (b, 0)) 0 0 none, h) else some (.slice (some (id, 0)) m m (some (k + 1)), h.new id (.cells (fillC ys .leaf 0) (tyMark e false) ys.length false)) := by
  rw [appendS_eq hu hs hb hz hzl hsrc hyl hr]
  cases m with
  | zero => rfl
  | succ m =>
    rw [if_neg (by omega), if_neg (by omega)]
    have e1 : appAt (k + 1) e (some (b, 0)) 0 0 none id h ys (m + 1) = Option.rec (motive := fun _ => Option (AV × Heap)) none (fun old => appNew (k + 1) (0 + (m + 1)) (tyMark e false) id h (app' old ys)) (h.ld b 0 (0 * (k + 1))) := rfl
    rw [e1, Nat.zero_mul, hb0, Nat.zero_add]
    show appNew (k + 1) (m + 1) (tyMark e false) id h (app' [] ys) = _
    rw [app'_eq, List.nil_append, appNew_eq hy1]

/-- append within the room that there is -/
theorem app_in {P : Program} {t : TypeId} {k by' m b o len cap id : Nat} {g : Option Nat} {zv x : AV} {ys vs z : List AV} (hu : P.underlying t = some (.slice e)) (hs : tSize P e = some (k + 1)) (hb : tBytes P e = some by') (hz : tZero P e = some zv) (hzl : zv.cells.length = k + 1)
    (hsrc : srcOf (k + 1) (fun n => n) x h = some (ys, m)) (hyl : ys.length = m * (k + 1)) (hy1 : ys.all AV.one = true) (hr : room by' (len + m) = true) (hrw : Rw h b vs z false) (hle : len + m ≤ cap) (hin : o + len * (k + 1) + ys.length ≤ vs.length) :
    ∃ h', appendS P t (.slice (some (b, o)) len cap g) x id h = some (.slice (some (b, o)) (len + m) cap g, h') ∧ Rw h' b (putL vs (o + len * (k + 1)) ys) z false ∧ h'.next = h.next ∧ ∀ c, c ≠ b → h'.bs.gt c = h.bs.gt c := by
  rw [appendS_eq hu hs hb hz hzl hsrc hyl hr]
  cases m with
  | zero =>
    rw [Nat.zero_mul] at hyl
    obtain rfl := List.eq_nil_of_length_eq_zero hyl
    refine ⟨h, by rw [if_pos rfl, Nat.add_zero], ?_, rfl, fun _ _ => rfl⟩
    have : putL vs (o + len * (k + 1)) [] = vs := by unfold putL; simp
    rw [this]; exact hrw
  | succ m =>
    obtain ⟨s1, s2, s3, s4⟩ := hrw.sto hin hy1
    refine ⟨_, ?_, s2, s3, s4⟩
    rw [if_neg (by omega)]
    show (Bool.rec (motive := fun _ => Option (AV × Heap)) _ (stoAs (.slice (some (b, o)) (len + (m + 1)) cap g) (h.sto b (o + len * (k + 1)) ys)) (Nat.ble (len + (m + 1)) cap) : Option (AV × Heap)) = _
    rw [show Nat.ble (len + (m + 1)) cap = true from Nat.ble_eq_true_of_le hle, s1]; rfl
theorem clear_sl {P : Program} {t : TypeId} {b o len cap : Nat} {g : Option Nat} {zv : AV} {vs z : List AV} (hu : P.underlying t = some (.slice e)) (hz : tZero P e = some zv) (hrw : Rw h b vs z false) (hin : o + (List.replicate len zv.cells).flatten.length ≤ vs.length) (h1 : zv.cells.all AV.one = true) :
    ∃ h', clearS P t (.slice (some (b, o)) len cap g) h = some (undefA, h') ∧ Rw h' b (putL vs o (List.replicate len zv.cells).flatten) z false ∧ h'.next = h.next ∧ ∀ c, c ≠ b → h'.bs.gt c = h.bs.gt c := by
  have hall : (List.replicate len zv.cells).flatten.all AV.one = true := by
    rw [List.all_eq_true] at h1 ⊢
    intro x hx
    obtain ⟨l, hl, hxl⟩ := List.mem_flatten.1 hx
    rw [(List.mem_replicate.1 hl).2] at hxl
    exact h1 x hxl
  obtain ⟨s1, s2, s3, s4⟩ := hrw.sto hin hall
  refine ⟨_, ?_, s2, s3, s4⟩
  unfold clearS
  rw [hu]; simp only [hz]
  show stoAs undefA (h.sto b o (rep' len zv.cells)) = _
  rw [rep'_eq, s1]; rfl

/-- APPEND, one element or more. -/
theorem app_own {P : Program} {t : TypeId} {k by' m id : Nat} {zv x : AV} {ys : List AV} (hu : P.underlying t = some (.slice e)) (hs : tSize P e = some (k + 1)) (hb : tBytes P e = some by') (hz : tZero P e = some zv) (hzl : zv.cells.length = k + 1)
    (ho : SlO e (k + 1) h v n cs bs) (hsrc : srcOf (k + 1) (fun n => n) x h = some (ys, m)) (hm : 0 < m) (hyl : ys.length = m * (k + 1)) (hy1 : ys.all AV.one = true) (hr : room by' (n + m) = true) (hid : h.next ≤ id) :
    ∃ v' h' bs', appendS P t v x id h = some (v', h') ∧ SlO e (k + 1) h' v' (n + m) (cs ++ ys) bs' ∧ h.next ≤ h'.next ∧ (∀ c, c ∉ bs → c ≠ id → h'.bs.gt c = h.bs.gt c) ∧ (∀ b, b ∈ bs' → b ∈ bs ∨ b = id) ∧ (h'.next = h.next ∨ h'.next = id + 1) := by
  have hdef : ∀ a len cap g, v = .slice a len cap g → len = n → appendS P t v x id h = appAt (k + 1) e a len cap g id h ys m := by
    rintro a len cap g rfl rfl
    obtain ⟨m', rfl⟩ : ∃ m', m = m' + 1 := ⟨m - 1, by omega⟩
    unfold appendS
    rw [hu]
    simp only [hs, hb, hz, Option.map_some, Option.getD_some, len'_eq, hzl, Nat.beq_refl]
    show (Option.rec (motive := fun _ => Option (AV × Heap)) none (fun src => iff' (and' (room by' (Nat.add len src.2)) (Nat.beq src.1.length (Nat.mul src.2 (k + 1)))) (Nat.rec (motive := fun _ => Option (AV × Heap)) (some (_, h)) (fun _ _ => appAt (k + 1) e a len cap g id h src.1 src.2) src.2)) (srcOf (k + 1) (fun n => n) x h) : Option (AV × Heap)) = _
    rw [hsrc]
    show iff' (and' (room by' (len + (m' + 1))) (Nat.beq ys.length ((m' + 1) * (k + 1)))) (appAt (k + 1) e a len cap g id h ys (m' + 1)) = _
    rw [hr, hyl, Nat.beq_refl]; rfl
  rcases ho with ⟨rfl, rfl, rfl, rfl⟩ | ⟨b, c, rest, z, rfl, h1, h2, h3, h4, h5, rfl, rfl, h8⟩
  · have hn := Rw.new (h := h) (id := id) (vs := ys) (z := tyMark e false) (ro := false) hid
    refine ⟨.slice (some (id, 0)) m m (some (k + 1)), h.new id (.cells (fillC ys .leaf 0) (tyMark e false) ys.length false), [id], (hdef none 0 0 none rfl rfl).trans ?_, ?_, ?_, ?_, ?_, ?_⟩
    · show iff' (Nat.beq 0 0) (appNew (k + 1) m (tyMark e false) id h ys) = _
      rw [appNew_eq hy1]; rfl
    · refine .inr ⟨id, m, [], _, by rw [Nat.zero_add], by rw [List.nil_append, hyl, Nat.zero_add], by rw [List.append_nil, List.nil_append, hyl], by omega, by rw [List.append_nil, List.nil_append]; exact hn.1, by rw [hn.2.1]; omega, rfl, rfl, by rw [List.nil_append]; exact hy1⟩
    · rw [new_next' hid]; omega
    · intro c _ hc; rw [new_get' hid, if_neg hc]
    · intro b hb; exact .inr (List.mem_singleton.1 hb)
    · exact .inr (new_next' hid _)
  · rw [hdef _ _ _ _ rfl rfl]
    by_cases hle : n + m ≤ c
    · -- in place
      have hroom : (n * (k + 1)) + ys.length ≤ (cs ++ rest).length := by
        rw [h2, hyl, ← Nat.add_mul]; exact Nat.mul_le_mul_right _ hle
      obtain ⟨s1, s2, s3, s4⟩ := h4.sto hroom hy1
      refine ⟨.slice (some (b, 0)) (n + m) c (some (k + 1)), h.wr b (n * (k + 1)) ys, [b], ?_, ?_, by rw [s3]; exact Nat.le_refl _, fun c' hc' _ => s4 c' (fun e => hc' (List.mem_singleton.2 e)), fun b hb => .inl hb, .inl s3⟩
      · show (Bool.rec (motive := fun _ => Option (AV × Heap)) _ (stoAs (.slice (some (b, 0)) (n + m) c (some (k + 1))) (h.sto b (0 + n * (k + 1)) ys)) (Nat.ble (n + m) c) : Option (AV × Heap)) = _
        rw [show Nat.ble (n + m) c = true from Nat.ble_eq_true_of_le hle, Nat.zero_add, s1]; rfl
      · refine .inr ⟨b, c, rest.drop ys.length, _, rfl, by rw [List.length_append, h1, hyl, Nat.add_mul], ?_, hle, ?_, by rw [s3]; exact h5, rfl, rfl, by rw [List.all_append, h8, hy1]; rfl⟩
        · rw [List.length_append] at hroom h2
          rw [List.length_append, List.length_append, List.length_drop]; omega
        · have : putL (cs ++ rest) (n * (k + 1)) ys = cs ++ ys ++ rest.drop ys.length := by
            unfold putL
            rw [← h1, List.take_left', List.append_assoc]
            · congr 2
              rw [List.drop_append, List.drop_eq_nil_of_le (by omega), List.nil_append, Nat.add_sub_cancel_left]
            · rfl
          rw [this] at s2; exact s2
    · -- a new block
      have hn := Rw.new (h := h.put b .dead) (id := id) (vs := cs ++ ys) (z := tyMark e false) (ro := false) hid
      have hall : (cs ++ ys).all AV.one = true := by rw [List.all_append, h8, hy1]; rfl
      have hnn : ¬ b = id := by omega
      obtain ⟨tr, g1, g2⟩ := h4
      have htail : ∀ (y : Blk), ((h.put b .dead).new id y).next = id + 1 ∧ ∀ c, c ≠ b → c ≠ id → ((h.put b .dead).new id y).bs.gt c = h.bs.gt c := fun y =>
        ⟨new_next' (h := h.put b .dead) hid y, fun c hc hc' => by rw [new_get' (h := h.put b .dead) hid, if_neg hc', put_get, if_neg hc]⟩
      have hfull : ∀ (y : Blk), Rw ((h.put b .dead).new id y) id (cs ++ ys) (tyMark e false) false → appAt (k + 1) e (some (b, 0)) n c (some (k + 1)) id h ys m = some (.slice (some (id, 0)) (n + m) (n + m) (some (k + 1)), (h.put b .dead).new id y) →
          ∃ v' h' bs', appAt (k + 1) e (some (b, 0)) n c (some (k + 1)) id h ys m = some (v', h') ∧ SlO e (k + 1) h' v' (n + m) (cs ++ ys) bs' ∧ h.next ≤ h'.next ∧ (∀ c, c ∉ [b] → c ≠ id → h'.bs.gt c = h.bs.gt c) ∧ (∀ b', b' ∈ bs' → b' ∈ [b] ∨ b' = id) ∧ (h'.next = h.next ∨ h'.next = id + 1) := fun y hy he => by
        refine ⟨_, _, [id], he, .inr ⟨id, n + m, [], _, rfl, by rw [List.length_append, h1, hyl, Nat.add_mul], by rw [List.append_nil, List.length_append, h1, hyl, Nat.add_mul], Nat.le_refl _, by rw [List.append_nil]; exact hy, by rw [(htail y).1]; omega, rfl, rfl, hall⟩, by rw [(htail y).1]; omega, fun c hc hc' => (htail y).2 c (fun e => hc (List.mem_singleton.2 e)) hc', fun b' hb' => .inr (List.mem_singleton.1 hb'), .inr (htail y).1⟩
      have hdead : appAt (k + 1) e (some (b, 0)) n c (some (k + 1)) id h ys m = appDead (k + 1) (n + m) e 0 n m ys b id h := by
        show (Bool.rec (motive := fun _ => Option (AV × Heap)) (iff' (Nat.beq (k + 1) (k + 1)) (appDead (k + 1) (n + m) e 0 n m ys b id h)) _ (Nat.ble (n + m) c) : Option (AV × Heap)) = _
        rw [show Nat.ble (n + m) c = false from by cases hb : Nat.ble (n + m) c with | false => rfl | true => exact absurd (Nat.le_of_ble_eq_true hb) hle]
        show iff' (Nat.beq (k + 1) (k + 1)) _ = _
        rw [Nat.beq_refl]; rfl
      have hcell : ∀ {β : Type} (f : Tr AV → List AV → Nat → Bool → Option β), h.cells b f = f tr (tyMark e false) (cs ++ rest).length false := fun f => by unfold Heap.cells; rw [g1]
      by_cases hfit : n * (k + 1) = (cs ++ rest).length
      · refine hfull (.cells (fillC ys tr (cs ++ rest).length) (tyMark e false) ((cs ++ rest).length + m * (k + 1)) false) ?_ ?_
        · have hrest : rest = [] := by
            rw [List.length_append, h1] at hfit
            exact List.eq_nil_of_length_eq_zero (by omega)
          subst hrest
          rw [List.append_nil] at g1 g2 hfit ⊢
          refine ⟨fillC ys tr cs.length, ?_, fun i hi => ?_⟩
          · rw [new_get' (h := h.put b .dead) hid, if_pos rfl, List.length_append, hyl]
          · unfold cellAt
            rw [gt_fillC]
            rw [List.length_append] at hi
            by_cases hin : cs.length ≤ i ∧ i < cs.length + ys.length
            · rw [if_pos hin, List.getElem?_append_right hin.1, List.getElem?_eq_getElem (by omega)]
            · rw [if_neg hin, List.getElem?_append_left (by omega)]
              exact g2 i (by omega)
        · rw [hdead]
          unfold appDead
          rw [hcell]
          show iff' (and' (and' (notB false) (allOne ys)) (fitsZ e (tyMark e false))) (Bool.rec (motive := fun _ => Option (AV × Heap)) _ _ (and' (Nat.beq 0 0) (Nat.beq (n * (k + 1)) (cs ++ rest).length)) : Option (AV × Heap)) = _
          rw [fitsZ_own, allOne_eq, hy1, show Nat.beq (n * (k + 1)) (cs ++ rest).length = true from by rw [hfit]; exact Nat.beq_refl _]; rfl
      · refine hfull _ hn.1 ?_
        rw [hdead]
        unfold appDead
        rw [hcell]
        show iff' (and' (and' (notB false) (allOne ys)) (fitsZ e (tyMark e false))) (Bool.rec (motive := fun _ => Option (AV × Heap)) (Option.rec (motive := fun _ => Option (AV × Heap)) none (fun old => appNew (k + 1) (n + m) (zKeep (tyMark e false)) id (h.put b .dead) (app' old ys)) (h.ld b 0 (n * (k + 1)))) _ (and' (Nat.beq 0 0) (Nat.beq (n * (k + 1)) (cs ++ rest).length)) : Option (AV × Heap)) = _
        have hld : h.ld b 0 (n * (k + 1)) = some cs := by
          rw [Rw.ld (h := h) (b := b) (vs := cs ++ rest) (z := tyMark e false) (ro := false) ⟨tr, g1, g2⟩ (by rw [List.length_append, h1]; omega), List.drop_zero, ← h1, List.take_left' rfl]
        rw [fitsZ_own, allOne_eq, hy1, hld, show Nat.beq (n * (k + 1)) (cs ++ rest).length = false from by cases hb : Nat.beq (n * (k + 1)) (cs ++ rest).length with | false => rfl | true => exact absurd (Nat.eq_of_beq_eq_true hb) hfit]
        show appNew (k + 1) (n + m) (zKeep (tyMark e false)) id (h.put b .dead) (app' cs ys) = _
        rw [zKeep_own, app'_eq, appNew_eq hall]
end
end Go.Am

/-
  AM, 65: a call with arguments whose memory is only read. No program is named here.
-/
namespace Go.Am
section
variable {P : Program} {keep : Keeps}
/-- A CALL WITH ARGUMENTS: what they reach lies fixed in memory; all that was there stays as it was. -/
theorem calls_of_args {prims : Prims} {lf n : Nat} (hm : P.follows .mixedOrders = true) (hn : NamesOk P) (hpr : PrimsOk P keep prims) {f : FuncId} {args : List AV} {avs : Array Value} {b : Bool} {h h' : Heap} {ρ : Pls} {w : World}
    (hr : callN P keep prims lf n (.fn f) args h = some (.bool b, h')) (hh : HR P keep ρ h w) (hv : VRs ρ args avs.toList) (hfix : ∀ c x, h.bs.gt c = some x → x.fixed = true) :
    Calls P f avs w fun e w' => e = .returned (.bool b) ∧ w'.os = w.os ∧ w'.output = w.output ∧ w.heap.size ≤ w'.heap.size ∧ ∀ k, k < w.heap.size → w'.heap[k]? = w.heap[k]? := by
  have h1 := (callN_sound (lf := lf) hm hn hpr n (.fn f) args h _ hr ρ w avs.toList hh hv).2
  rw [Array.toArray_toList] at h1
  refine callsIn_wide.1 (CallsIn.mono (F := Fence.wide) h1 fun e w' hR => ?_)
  cases e with
  | returned v =>
    obtain ⟨ρ', hv', hp⟩ := hR
    refine ⟨by rw [show v = .bool b from hv'], hp.fr.os, hp.fr.output, hp.fr.size, fun k hk => hp.fr.sameW k hk ?_⟩
    rintro ⟨c, x, p, hx, hf, _⟩
    rw [hfix c x hx] at hf; cases hf
  | panicked chain => exact hR.elim
  | outgrown => exact hR.elim
end

/-! ### Arguments in memory -/
/-- a row of cells that came in (if there is one), and where it lies -/
structure ArgIt where
  cs : Option (List AV)
  at' : Pl
noncomputable def itemB (x : ArgIt) : Option Blk := x.cs.map fun cs => .cells (fillC cs .leaf 0) [] cs.length true
noncomputable def argT : List ArgIt → Nat → Tr Blk
  | [], _ => .leaf
  | x :: l, i => (argT l (i + 1)).up (itemB x) i
noncomputable def argH (l : List ArgIt) : Heap := ⟨argT l 0, l.length⟩
def argP (l : List ArgIt) : Pls := fun b => (l[b]?).map ArgIt.at'
theorem argT_get : ∀ (l : List ArgIt) (i j : Nat), (argT l i).gt j = if i ≤ j then (l[j - i]?).bind itemB else none
  | [], i, j => by
    rw [argT, Tr.gt_leaf]; simp
  | x :: l, i, j => by
    rw [argT, Tr.gt_up, argT_get l (i + 1) j]
    by_cases e : j = i
    · subst e; simp
    · rw [if_neg e]
      by_cases h : i + 1 ≤ j
      · rw [if_pos h, if_pos (by omega), show j - i = (j - (i + 1)) + 1 by omega, List.getElem?_cons_succ]
      · rw [if_neg h, if_neg (by omega)]
/-- so it lies in the model's memory -/
def ArgOk (w : World) (ρ : Pls) (x : ArgIt) : Prop := ∀ cs, x.cs = some cs → ∃ c e fz, w.heap[x.at'.blk]? = some (.cells c e fz) ∧ c.size = x.at'.size ∧ x.at'.off + cs.length ≤ x.at'.size ∧
  ∀ i v, cs[i]? = some v → v.one = true ∧ ∃ cv, c[x.at'.off + i]? = some cv ∧ VR ρ v cv
theorem args_HR {P : Program} {keep : Keeps} {w : World} {l : List ArgIt} (h : ∀ x, x ∈ l → ArgOk w (argP l) x) : HR P keep (argP l) (argH l) w := by
  have get : ∀ b x, (argH l).bs.gt b = some x → ∃ y cs, l[b]? = some y ∧ y.cs = some cs ∧ x = .cells (fillC cs .leaf 0) [] cs.length true := by
    intro b x hx
    have hx : (argT l 0).gt b = some x := hx
    rw [argT_get, if_pos (Nat.zero_le _), Nat.sub_zero] at hx
    cases hy : l[b]? with
    | none => rw [hy] at hx; cases hx
    | some y =>
      rw [hy] at hx
      have hx : itemB y = some x := hx
      unfold itemB at hx
      cases hc : y.cs with
      | none => rw [hc] at hx; cases hx
      | some cs => rw [hc] at hx; cases hx; exact ⟨y, cs, rfl, hc, rfl⟩
  refine ⟨fun b p hb => ?_, fun b x hx => ?_, fun b x hx => ?_, fun b b' x x' p p' hx hx' hd hd' hro => ?_⟩
  · unfold argP at hb
    cases hy : l[b]? with
    | none => rw [hy] at hb; cases hb
    | some y => exact (List.getElem?_eq_some_iff.1 hy).1
  · obtain ⟨y, cs, h1, _⟩ := get b x hx
    exact (List.getElem?_eq_some_iff.1 h1).1
  · obtain ⟨y, cs, h1, h2, rfl⟩ := get b x hx
    obtain ⟨c, e, fz, g1, g2, g3, g4⟩ := h y (List.mem_of_getElem? h1) cs h2
    refine ⟨y.at', c, e, fz, by unfold argP; rw [h1]; rfl, g1, g2, g3, fun i hi => ?_, (fun e => by cases e), markOk_nil⟩
    obtain ⟨q1, cv, q2, q3⟩ := g4 i cs[i] (List.getElem?_eq_getElem hi)
    exact ⟨cs[i], cv, by rw [cellAt_fill _ _ _ hi]; exact List.getElem?_eq_getElem hi, q1, q2, q3⟩
  · obtain ⟨_, _, _, _, rfl⟩ := get b x hx
    obtain ⟨_, _, _, _, rfl⟩ := get b' x' hx'
    rcases hro with h | h <;> cases h
theorem args_fixed (l : List ArgIt) : ∀ c x, (argH l).bs.gt c = some x → x.fixed = true := by
  intro b x hx
  have hx : (argT l 0).gt b = some x := hx
  rw [argT_get, if_pos (Nat.zero_le _), Nat.sub_zero] at hx
  cases hy : l[b]? with
  | none => rw [hy] at hx; cases hx
  | some y =>
    rw [hy] at hx
    have hx : itemB y = some x := hx
    unfold itemB at hx
    cases hc : y.cs with
    | none => rw [hc] at hx; cases hx
    | some cs => rw [hc] at hx; cases hx; rfl
theorem args_Rw {l : List ArgIt} {b : Nat} {cs : List AV} {p : Pl} (h : l[b]? = some ⟨some cs, p⟩) : Rw (argH l) b cs [] true := by
  refine ⟨fillC cs .leaf 0, ?_, fun i hi => cellAt_fill _ _ _ hi⟩
  show (argT l 0).gt b = _
  rw [argT_get, if_pos (Nat.zero_le _), Nat.sub_zero, h]; rfl
theorem args_lt {l : List ArgIt} {b : Nat} {x : ArgIt} (h : l[b]? = some x) : b < (argH l).next := (List.getElem?_eq_some_iff.1 h).1
section
open Go.ChangeShapes Go.WideShapes
/-- a row of strings that came in -/
theorem strs_in {P : Program} {H : Type} {enc : TypeId × Value → H} {W : World} {base : Nat} {t e : TypeId} (ht : P.underlying t = some (.slice e)) (he : P.underlying e = some .string) (hc : P.cellsOf e = 1) {v : Value} {d : DataW H} {p : List MemPlace} {r : Reach} {b0 : Nat} (hok : Value.okWide P W r b0 t v)
    (h : DataW.Trod enc P W base (fun _ => true) true t v d p) (i : Nat) :
    ∃ (it : ArgIt) (lv : AV) (ss : List (List Nat)), (∀ l1 l2 : List ArgIt, l1.length = i → VR (argP (l1 ++ it :: l2)) lv v ∧ ElsR (argH (l1 ++ it :: l2)) lv ss.length 1 (ss.map .str)) ∧ (∀ ρ, ArgOk W ρ it) ∧ ∀ s, s ∈ ss → ∀ (i c : Nat), s[i]? = some c → c < 256 := by
  obtain ⟨a0, len, cap, rfl⟩ := okWide_slice ht hok
  obtain ⟨n, hn⟩ := h
  have hn : DataW.trod enc P W base (fun _ => true) true n t [.slice a0 len cap] = some (d, p) := hn
  have hat : ∀ (l1 l2 : List ArgIt) (it : ArgIt), l1.length = i → (l1 ++ it :: l2)[i]? = some it := fun l1 l2 it hl => by subst hl; simp
  rcases open_strings ht he hc hn with ⟨e1, _⟩ | ⟨a, len', cap', bs, e1, _, hle, _, hbl, _, hcell, _⟩
  · cases e1
    exact ⟨⟨none, ⟨0, 0, 0⟩⟩, .slice none 0 0 none, [], fun l1 l2 _ => ⟨⟨rfl, rfl, rfl, rfl⟩, rfl, none, 0, none, rfl, fun _ => rfl, (fun _ _ e => by cases e)⟩, (fun _ _ e => by cases e), (fun s hs => by cases hs)⟩
  · cases e1
    have hbl : bs.length = cap := hbl
    by_cases h0 : cap = 0
    · subst h0
      obtain rfl : len = 0 := by omega
      refine ⟨⟨none, ⟨0, 0, 0⟩⟩, .slice (some (i, 0)) 0 0 none, [], fun l1 l2 hl => ⟨⟨⟨0, 0, 0⟩, a, 0, ?_, rfl, Nat.le_refl _, Nat.le_refl _, fun _ => rfl, (fun _ e => by cases e), fun h => absurd rfl h⟩, rfl, some (i, 0), 0, none, rfl, (fun e => by cases e), fun b o e => ?_⟩, (fun _ _ e => by cases e), (fun s hs => by cases hs)⟩
      · unfold argP; rw [hat l1 l2 _ hl]; rfl
      · cases e; exact ⟨args_lt (hat l1 l2 _ hl), fun h => absurd h (Nat.lt_irrefl 0)⟩
    · -- the block
      have h00 := hcell 0 (by omega)
      obtain ⟨blk, off, spot⟩ := a
      have hadd : ∀ j, (⟨blk, off, spot⟩ : Addr).add j = if j = 0 then ⟨blk, off, spot⟩ else ⟨blk, off + j, none⟩ := fun j => rfl
      rw [hadd, if_pos rfl] at h00
      have hex : ∃ c e fz, W.heap[blk]? = some (.cells c e fz) ∧ spot = none := by
        unfold World.cell? at h00
        cases hh : W.heap[blk]? with
        | none => rw [hh] at h00; cases h00
        | some ob =>
          rw [hh] at h00
          cases ob with
          | cells c e fz =>
            cases spot with
            | none => exact ⟨c, e, fz, rfl, rfl⟩
            | some k => cases h00
          | _ => cases h00
      obtain ⟨c, e', fz, hblk, rfl⟩ := hex
      have hget : ∀ j, j < cap → c[off + j]? = some (.string (bs.getD j ByteArray.empty)) := fun j hj => by
        have := hcell j (by omega)
        rw [hadd] at this
        split at this
        · rename_i e0; subst e0; rw [cell_of_heap hblk] at this; exact this
        · rw [cell_of_heap hblk] at this; exact this
      have hsz : off + cap ≤ c.size := by
        have := (Array.getElem?_eq_some_iff.1 (hget (cap - 1) (by omega))).1
        omega
      have hss : ((bs.take len).map fun s => s.data.toList.map (·.toNat)).length = len := by simp; omega
      refine ⟨⟨some (((bs.take len).map fun s => s.data.toList.map (·.toNat)).map .str), ⟨blk, off, c.size⟩⟩, .slice (some (i, 0)) len cap none, (bs.take len).map fun s => s.data.toList.map (·.toNat), fun l1 l2 hl => ⟨⟨⟨blk, off, c.size⟩, ⟨blk, off, none⟩, cap, ?_, rfl, hle, Nat.le_refl _, fun _ => rfl, (fun _ e => by cases e), fun _ => rfl⟩, ?_⟩, ?_, ?_⟩
      · unfold argP; rw [hat l1 l2 _ hl]; rfl
      · rw [hss]
        refine ⟨by rw [List.length_map, hss, Nat.mul_one], some (i, 0), cap, none, rfl, (fun e => by cases e), fun b o e => ?_⟩
        cases e
        refine ⟨args_lt (hat l1 l2 _ hl), fun _ => ?_⟩
        rw [(args_Rw (hat l1 l2 _ hl)).ld (by rw [List.length_map, hss]; omega), List.drop_zero, List.take_of_length_le (by rw [List.length_map, hss]; omega)]
      · intro ρ cs hcs
        cases hcs
        refine ⟨c, e', fz, hblk, rfl, by rw [List.length_map, hss]; exact Nat.le_trans (Nat.add_le_add_left hle _) hsz, fun j w hw => ?_⟩
        have hjl : j < len := by have := (List.getElem?_eq_some_iff.1 hw).1; rw [List.length_map, hss] at this; exact this
        have hbj : bs[j]? = some (bs.getD j ByteArray.empty) := by
          rw [List.getD_eq_getElem?_getD, List.getElem?_eq_getElem (by omega)]; rfl
        rw [List.getElem?_map, List.getElem?_map, List.getElem?_take_of_lt hjl, hbj] at hw
        cases hw
        exact ⟨rfl, _, hget j (by omega), _, rfl, rfl⟩
      · intro s hs j b hb
        obtain ⟨s0, _, rfl⟩ := List.mem_map.1 hs
        rw [List.getElem?_map] at hb
        cases hx : s0.data.toList[j]? with
        | none => rw [hx] at hb; cases hb
        | some y => rw [hx] at hb; cases hb; exact y.toNat_lt

end
end Go.Am

/-
  AM, 66: ranges over functions, by rules. No program is named here.
-/
namespace Go.Am
noncomputable section
/-- a range over a function -/
theorem run_rangeF {call : CallFn} {lf nt : Nat} {f : FuncId} {t i : Nat} {ps : List Nat} {A B : Code} {k : List Wt} {tm : Tr AV} {h : Heap} {Q : XQ} {cap : List AV} (ht : tm.gt t = some (.func (.func i) [] cap))
    (hc : WC (call (.fn i) (.func (.yield h.next) [] [] :: cap) (h.new h.next (.loop ⟨.ready, none, f, tm.up none nt, ps, A, B⟩))) fun _ h1 => ∃ b, h1.bs.gt h.next = some (.loop b) ∧ b.st ≠ .busy ∧
      match b.pending with
      | none => ret call lf nt f none .normal k tm (h1.put h.next (.loop { b with st := .exhausted })) Q
      | some c => ∃ e, jumpEx c = some e ∧ ret call lf nt f none e k tm (h1.put h.next (.loop { b with st := .exhausted })) Q) :
    run call lf nt f none (.rangeF (.tmp t) ps A B) k tm h Q := by
  obtain ⟨v, h1, e, b, hb, hst, hp⟩ := hc
  have hx : execA call lf nt f none (.rangeF (.tmp t) ps A B) ⟨tm, h⟩ = (h1.theLoop h.next fun b => match b.st with
      | .busy => none
      | _ => match b.pending with
        | none => some (.normal, ⟨tm, h1.put h.next (.loop { b with st := .exhausted })⟩)
        | some c => ob (jumpEx c) fun e => some (e, ⟨tm, h1.put h.next (.loop { b with st := .exhausted })⟩) : XR) := by
    show ob (tm.gt t) (fun fv => runRange call nt f none ps A B ⟨tm, h⟩ fv) = _
    rw [ht]
    show ob (call (.fn i) (.func (.yield h.next) [] [] :: cap) (h.new h.next (.loop ⟨.ready, none, f, tm.up none nt, ps, A, B⟩))) _ = _
    rw [e]
    rfl
  unfold run
  rw [hx, theLoop_of hb]
  cases hs : b.st with
  | busy => exact absurd hs hst
  | ready | done | exhausted =>
    cases hpp : b.pending with
    | none => rw [hpp] at hp; exact hp
    | some c =>
      rw [hpp] at hp
      obtain ⟨e', g1, g2⟩ := hp
      show (match (ob (jumpEx c) (fun e => _) : XR) with | some (e, s) => retK _ Q k e s.tm s.hp | none => False)
      rw [g1]
      exact g2
/-- how a round ends -/
def endL (e : Ex) (b : LRec) : AV × LRec := match e with
  | .normal => (.bool true, { b with st := .ready, pending := none })
  | .ret => (.bool false, { b with st := .done, pending := some .ret })
  | .exit id => (.bool false, { b with st := .done, pending := some (.exit id) })
  | .goto t => (.bool false, { b with st := .done, pending := some (.goto t) })
/-- A ROUND of a range over a function. -/
theorem call_loop {P : Program} {keep : Keeps} {prims : Prims} {lf n l nt : Nat} {args : List AV} {h : Heap} {b : LRec} {CA CB : AC} {tm' : Tr AV} (Q : AV → Heap → Prop) (hb : h.bs.gt l = some (.loop b)) (hn : ntOf P b.fn = nt) (hs : setPs nt b.params args b.tm = some tm') (hk : keep b.fn nt = false) (ho : b.tm.gt nt = none)
    (hA : compC P (keep b.fn) nt b.assign = CA) (hB : compC P (keep b.fn) nt b.body = CB)
    (hrun : ∀ QA : XQ, (∀ tm2 h2 b2, h2.bs.gt l = some (.loop b2) → b2.st = .ready →
        (∀ QB : XQ, (∀ e tm3 h3 b3, h3.bs.gt l = some (.loop b3) → b3.st = .busy → Q (endL e b3).1 (h3.put l (.loop (endL e b3).2)) → QB e tm3 h3) → run (callN P keep prims lf n) lf nt b.fn (some l) CB [] tm2 (h2.put l (.loop { b2 with st := .busy })) QB) → QA .normal tm2 h2) →
      run (callN P keep prims lf n) lf nt b.fn (some l) CA [] tm' h QA) :
    WC (callN P keep prims lf (n + 1) (.loop l) args h) Q := by
  subst hn
  have h1 := hrun (fun e tm2 h2 => e = .normal ∧ ∃ b2, h2.bs.gt l = some (.loop b2) ∧ b2.st = .ready ∧
    run (callN P keep prims lf n) lf (ntOf P b.fn) b.fn (some l) CB [] tm2 (h2.put l (.loop { b2 with st := .busy })) fun e tm3 h3 => ∃ b3, h3.bs.gt l = some (.loop b3) ∧ b3.st = .busy ∧ Q (endL e b3).1 (h3.put l (.loop (endL e b3).2)))
    (fun tm2 h2 b2 g1 g2 g5 => ⟨rfl, b2, g1, g2, g5 _ fun e tm3 h3 b3 k1 k2 k3 => ⟨b3, k1, k2, k3⟩⟩)
  unfold run at h1
  show WC (callL P keep lf (callN P keep prims lf n) l args h) Q
  unfold callL
  rw [theLoop_of hb, hs]
  show WC (iff' (and' (notB (keep b.fn (ntOf P b.fn))) (noOff b.tm (ntOf P b.fn))) _) Q
  rw [hk, show noOff b.tm (ntOf P b.fn) = true from by unfold noOff; rw [ho]]
  show WC (ob (execA (callN P keep prims lf n) lf (ntOf P b.fn) b.fn (some l) (compC P (keep b.fn) (ntOf P b.fn) b.assign) ⟨tm', h⟩) _) Q
  rw [hA]
  cases he : execA (callN P keep prims lf n) lf (ntOf P b.fn) b.fn (some l) CA ⟨tm', h⟩ with
  | none => rw [he] at h1; exact h1.elim
  | some r =>
    rw [he] at h1
    obtain ⟨e, s⟩ := r
    obtain ⟨e0, b2, g1, g2, g5⟩ := h1
    cases e0
    show WC (s.hp.theLoop l _) Q
    rw [theLoop_of g1]
    show WC (match b2.st with
        | .ready => ob (execA (callN P keep prims lf n) lf (ntOf P b.fn) b.fn (some l) (compC P (keep b.fn) (ntOf P b.fn) b.body) ⟨s.tm, s.hp.put l (.loop { b2 with st := .busy })⟩) fun r => endRound l r
        | _ => none) Q
    rw [g2]
    show WC (ob (execA (callN P keep prims lf n) lf (ntOf P b.fn) b.fn (some l) (compC P (keep b.fn) (ntOf P b.fn) b.body) ⟨s.tm, s.hp.put l (.loop { b2 with st := .busy })⟩) fun r => endRound l r) Q
    rw [hB]
    cases he2 : execA (callN P keep prims lf n) lf (ntOf P b.fn) b.fn (some l) CB ⟨s.tm, s.hp.put l (.loop { b2 with st := .busy })⟩ with
    | none => rw [he2] at g5; exact g5.elim
    | some r2 =>
      rw [he2] at g5
      obtain ⟨e, s2⟩ := r2
      obtain ⟨b3, k1, k2, k3⟩ := g5
      have hend : endRound l (e, s2) = some ((endL e b3).1, s2.hp.put l (.loop (endL e b3).2)) := by
        show s2.hp.theLoop l _ = _
        rw [theLoop_of k1]
        show (match b3.st with | .busy => _ | _ => none) = _
        rw [k2]
        cases e <;> rfl
      exact ⟨_, _, hend, k3⟩
end
end Go.Am

/-
  AM, 67: maps whose keys are strings. No program is named here.
-/
namespace Go.Am
section
variable {P : Program} {t e : TypeId}
def kStr (n : List Nat) (e : MEnt) : Bool := match e.key with
  | .str m => m == n
  | _ => false
def AllStr (es : List MEnt) : Prop := ∀ e, e ∈ es → ∃ n, e.key = .str n
theorem keyEq_str (hu : P.underlying t = some .string) (n m : List Nat) : keyEq P t (.str n) (.str m) = some (n == m) := by
  unfold keyEq; rw [hu]
  show some (strEq n m) = _
  rw [strEq_eq]
theorem findE_str (hu : P.underlying t = some .string) (n : List Nat) : ∀ es : List MEnt, AllStr es → findE (keyEq P t) (.str n) es = some ((es.find? (kStr n)).map (·.val))
  | [], _ => rfl
  | e :: es, ha => by
    obtain ⟨m, hm⟩ := ha e (List.mem_cons_self ..)
    have ih := findE_str hu n es fun x hx => ha x (List.mem_cons_of_mem _ hx)
    show (Option.rec (motive := fun _ => Option (Option AV)) none (fun b => Bool.rec (motive := fun _ => Option (Option AV)) (findE (keyEq P t) (.str n) es) (some (some e.val)) b) (keyEq P t (.str n) e.key) : Option (Option AV)) = _
    rw [hm, keyEq_str hu, List.find?_cons]
    have hk : kStr n e = (n == m) := by
      unfold kStr; rw [hm]
      show (m == n) = (n == m)
      by_cases e : n = m
      · subst e; rfl
      · have e' : ¬ m = n := fun h => e h.symm
        rw [show (m == n) = false from by simpa using e', show (n == m) = false from by simpa using e]
    rw [hk]
    cases n == m with
    | true => rfl
    | false => exact ih
theorem lk_str {kt : TypeId} {z : AV} {ok : Bool} (hu : P.underlying t = some (.map kt e)) (hk : P.underlying kt = some .string) (hz : tZero P e = some z) {h : Heap} {b c : Nat} {es : List MEnt} (hb : h.bs.gt b = some (.map es c)) (ha : AllStr es) (n : List Nat) :
    lookup2 P t ok (.map (some b)) (.str n) h = some (match es.find? (kStr n) with | some x => okPair ok x.val true | none => okPair ok z false) := by
  unfold lookup2; rw [hu]; simp only [hz]
  have hko : keyOk P kt (.str n) = true := by unfold keyOk; rw [hk]; rfl
  rw [hko]
  show h.theMap b (fun es _ => Option.rec (motive := fun _ => Option AV) none (fun r => Option.rec (motive := fun _ => Option AV) (some (okPair ok z false)) (fun v => some (okPair ok v true)) r) (findE (keyEq P kt) (.str n) es)) = _
  unfold Heap.theMap; rw [hb]
  show (Option.rec (motive := fun _ => Option AV) none _ (findE (keyEq P kt) (.str n) es) : Option AV) = _
  rw [findE_str hk n es ha]
  cases es.find? (kStr n) <;> rfl
/-- the entries with this value under this key, at its place or at the end -/
def putS (n : List Nat) (v : AV) (clock : Nat) : List MEnt → List MEnt
  | [] => [MEnt.mk (.str n) v clock]
  | e :: es => if kStr n e then MEnt.mk (.str n) v e.born :: es else e :: putS n v clock es
theorem updE_str (hu : P.underlying t = some .string) (n : List Nat) (v : AV) : ∀ es : List MEnt, AllStr es → updE (keyEq P t) (.str n) v es = some (if es.any (kStr n) then some (putS n v 0 es) else none)
  | [], _ => rfl
  | e :: es, ha => by
    obtain ⟨m, hm⟩ := ha e (List.mem_cons_self ..)
    have ih := updE_str hu n v es fun x hx => ha x (List.mem_cons_of_mem _ hx)
    show (Option.rec (motive := fun _ => Option (Option (List MEnt))) none (fun b => Bool.rec (motive := fun _ => Option (Option (List MEnt)))
      (Option.rec (motive := fun _ => Option (Option (List MEnt))) none (fun o => Option.rec (motive := fun _ => Option (Option (List MEnt))) (some none) (fun l => some (some (e :: l))) o) (updE (keyEq P t) (.str n) v es))
      (iff' (AV.same (.str n) e.key) (some (some (MEnt.mk (.str n) v e.born :: es)))) b) (keyEq P t (.str n) e.key) : Option (Option (List MEnt))) = _
    rw [hm, keyEq_str hu, ih]
    have hk : kStr n e = (n == m) := by
      unfold kStr; rw [hm]
      show (m == n) = (n == m)
      by_cases e : n = m
      · subst e; rfl
      · have e' : ¬ m = n := fun h => e h.symm
        rw [show (m == n) = false from by simpa using e', show (n == m) = false from by simpa using e]
    rw [List.any_cons, hk]
    by_cases h : n = m
    · subst h
      have hs : AV.same (.str n) (.str n) = true := by simp [AV.same]
      have hp : putS n v 0 (e :: es) = MEnt.mk (.str n) v e.born :: es := by rw [putS, hk]; simp
      simp only [beq_self_eq_true, Bool.true_or, if_true, hs, hp]
      rfl
    · have hb : (n == m) = false := by simpa using h
      have hp : putS n v 0 (e :: es) = e :: putS n v 0 es := by rw [putS, hk, hb]; rfl
      rw [hb, Bool.false_or, hp]
      cases es.any (kStr n) <;> rfl
theorem putS_clock {n : List Nat} {v : AV} {c d : Nat} : ∀ {es : List MEnt}, es.any (kStr n) = true → putS n v c es = putS n v d es
  | [], h => by cases h
  | e :: es, h => by
    unfold putS
    cases hk : kStr n e with
    | true => rfl
    | false =>
      rw [List.any_cons, hk, Bool.false_or] at h
      rw [putS_clock h]
theorem putS_end {n : List Nat} {v : AV} {c : Nat} : ∀ {es : List MEnt}, es.any (kStr n) = false → putS n v c es = es ++ [MEnt.mk (.str n) v c]
  | [], _ => rfl
  | e :: es, h => by
    rw [List.any_cons, Bool.or_eq_false_iff] at h
    rw [putS, h.1, putS_end h.2]; rfl
theorem mu_str {kt : TypeId} (hu : P.underlying t = some (.map kt e)) (hk : P.underlying kt = some .string) {h : Heap} {b c : Nat} {es : List MEnt} (hb : h.bs.gt b = some (.map es c)) (ha : AllStr es) (n : List Nat) (v : AV) :
    mapUpd P t (.map (some b)) (.str n) v h = some (undefA, h.put b (.map (putS n v c es) (if es.any (kStr n) then c else c + 1))) := by
  unfold mapUpd; rw [hu]
  have hko : keyOk P kt (.str n) = true := by unfold keyOk; rw [hk]; rfl
  simp only [hko]
  show h.theMap b (fun es clock => Option.rec (motive := fun _ => Option (AV × Heap)) none
        (fun r => Option.rec (motive := fun _ => Option (AV × Heap)) (some (undefA, h.put b (.map (app' es [MEnt.mk (.str n) v clock]) (Nat.succ clock)))) (fun l => some (undefA, h.put b (.map l clock))) r) (updE (keyEq P kt) (.str n) v es)) = _
  unfold Heap.theMap; rw [hb]
  show (Option.rec (motive := fun _ => Option (AV × Heap)) none _ (updE (keyEq P kt) (.str n) v es) : Option (AV × Heap)) = _
  rw [updE_str hk n v es ha]
  cases h1 : es.any (kStr n) with
  | true => rw [if_pos rfl, if_pos rfl, putS_clock (c := c) (d := 0) h1]
  | false =>
    rw [putS_end (c := c) h1, app'_eq]; rfl

def getS (n : List Nat) (es : List MEnt) : Option AV := (es.find? (kStr n)).map (·.val)
theorem kStr_key {n m : List Nat} {e : MEnt} (h : e.key = .str m) : kStr n e = (m == n) := by unfold kStr; rw [h]
theorem getS_put {n m : List Nat} {v : AV} {c : Nat} : ∀ {es : List MEnt}, AllStr es → getS m (putS n v c es) = if m = n then some v else getS m es
  | [], _ => by
    unfold getS putS
    rw [List.find?_cons, kStr_key (m := n) rfl]
    by_cases h : m = n
    · subst h; simp
    · have : (n == m) = false := by simpa using fun e => h e.symm
      rw [this, if_neg h]
      try rfl
  | e :: es, ha => by
    obtain ⟨q, hq⟩ := ha e (List.mem_cons_self ..)
    have ih := getS_put (n := n) (m := m) (v := v) (c := c) (es := es) fun x hx => ha x (List.mem_cons_of_mem _ hx)
    unfold getS at ih ⊢
    unfold putS
    rw [kStr_key hq]
    by_cases h1 : q = n
    · subst h1
      rw [show (q == q) = true by simp, if_pos rfl, List.find?_cons, kStr_key (m := q) rfl, List.find?_cons, kStr_key hq]
      by_cases h : m = q
      · subst h; simp
      · have : (q == m) = false := by simpa using fun e => h e.symm
        rw [this, if_neg h]
    · rw [show (q == n) = false by simpa using h1, if_neg (by decide), List.find?_cons, List.find?_cons, kStr_key hq]
      by_cases h2 : q = m
      · subst h2; simp [h1]
      · rw [show (q == m) = false by simpa using h2]; exact ih
theorem putS_all {n : List Nat} {v : AV} {c : Nat} : ∀ {es : List MEnt}, AllStr es → AllStr (putS n v c es)
  | [], _ => fun e he => by rw [putS, List.mem_singleton] at he; subst he; exact ⟨n, rfl⟩
  | e :: es, ha => fun x hx => by
    unfold putS at hx
    split at hx
    · rcases List.mem_cons.1 hx with rfl | h
      · exact ⟨n, rfl⟩
      · exact ha x (List.mem_cons_of_mem _ h)
    · rcases List.mem_cons.1 hx with rfl | h
      · exact ha _ (List.mem_cons_self ..)
      · exact putS_all (fun y hy => ha y (List.mem_cons_of_mem _ hy)) x h
end
end Go.Am
