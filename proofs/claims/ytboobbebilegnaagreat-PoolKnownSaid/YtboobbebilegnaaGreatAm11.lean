/-
  AM, 11: entries of maps are written; what goes over a string.
-/
import Derived.Test.YtboobbebilegnaaGreatAm10
import Derived.Lib.OthersKept
namespace Go.Am
section
variable {P : Program} {keep : Keeps} {w : World} {ρ : Pls} {h : Heap}

mutual
theorem same_eq : ∀ (a b : AV), AV.same a b = true → a = b := by
  intro a b h
  match a, b with
  | .bool a, .bool b => simp [AV.same] at h; rw [h]
  | .int k a, .int l b => simp [AV.same] at h; rw [h.1, h.2]
  | .str a, .str b => simp [AV.same] at h; rw [h]
  | .ptr a, .ptr b => simp [AV.same] at h; rw [h]
  | .slice a n c x, .slice b m d y => simp [AV.same] at h; obtain ⟨⟨⟨h1, h2⟩, h3⟩, h4⟩ := h; rw [h1, h2, h3, h4]
  | .map a, .map b => simp [AV.same] at h; rw [h]
  | .func f a b, .func g c d => simp [AV.same] at h; obtain ⟨⟨h1, h2⟩, h3⟩ := h; rw [h1, sames_eq _ _ h2, sames_eq _ _ h3]
  | .nilFunc, .nilFunc => rfl
  | .iface t v, .iface u w => simp [AV.same] at h; rw [h.1, same_eq _ _ h.2]
  | .nilIface, .nilIface => rfl
  | .agg a, .agg b => simp [AV.same] at h; rw [sames_eq _ _ h]
  | .tuple a, .tuple b => simp [AV.same] at h; rw [sames_eq _ _ h]
  | .bool _, .int .. | .bool _, .str _ | .bool _, .ptr _ | .bool _, .slice .. | .bool _, .map _ | .bool _, .func .. | .bool _, .nilFunc | .bool _, .iface .. | .bool _, .nilIface | .bool _, .agg _ | .bool _, .tuple _
  | .int .., .bool _ | .int .., .str _ | .int .., .ptr _ | .int .., .slice .. | .int .., .map _ | .int .., .func .. | .int .., .nilFunc | .int .., .iface .. | .int .., .nilIface | .int .., .agg _ | .int .., .tuple _
  | .str _, .bool _ | .str _, .int .. | .str _, .ptr _ | .str _, .slice .. | .str _, .map _ | .str _, .func .. | .str _, .nilFunc | .str _, .iface .. | .str _, .nilIface | .str _, .agg _ | .str _, .tuple _
  | .ptr _, .bool _ | .ptr _, .int .. | .ptr _, .str _ | .ptr _, .slice .. | .ptr _, .map _ | .ptr _, .func .. | .ptr _, .nilFunc | .ptr _, .iface .. | .ptr _, .nilIface | .ptr _, .agg _ | .ptr _, .tuple _
  | .slice .., .bool _ | .slice .., .int .. | .slice .., .str _ | .slice .., .ptr _ | .slice .., .map _ | .slice .., .func .. | .slice .., .nilFunc | .slice .., .iface .. | .slice .., .nilIface | .slice .., .agg _ | .slice .., .tuple _
  | .map _, .bool _ | .map _, .int .. | .map _, .str _ | .map _, .ptr _ | .map _, .slice .. | .map _, .func .. | .map _, .nilFunc | .map _, .iface .. | .map _, .nilIface | .map _, .agg _ | .map _, .tuple _
  | .func .., .bool _ | .func .., .int .. | .func .., .str _ | .func .., .ptr _ | .func .., .slice .. | .func .., .map _ | .func .., .nilFunc | .func .., .iface .. | .func .., .nilIface | .func .., .agg _ | .func .., .tuple _
  | .nilFunc, .bool _ | .nilFunc, .int .. | .nilFunc, .str _ | .nilFunc, .ptr _ | .nilFunc, .slice .. | .nilFunc, .map _ | .nilFunc, .func .. | .nilFunc, .iface .. | .nilFunc, .nilIface | .nilFunc, .agg _ | .nilFunc, .tuple _
  | .iface .., .bool _ | .iface .., .int .. | .iface .., .str _ | .iface .., .ptr _ | .iface .., .slice .. | .iface .., .map _ | .iface .., .func .. | .iface .., .nilFunc | .iface .., .nilIface | .iface .., .agg _ | .iface .., .tuple _
  | .nilIface, .bool _ | .nilIface, .int .. | .nilIface, .str _ | .nilIface, .ptr _ | .nilIface, .slice .. | .nilIface, .map _ | .nilIface, .func .. | .nilIface, .nilFunc | .nilIface, .iface .. | .nilIface, .agg _ | .nilIface, .tuple _
  | .agg _, .bool _ | .agg _, .int .. | .agg _, .str _ | .agg _, .ptr _ | .agg _, .slice .. | .agg _, .map _ | .agg _, .func .. | .agg _, .nilFunc | .agg _, .iface .. | .agg _, .nilIface | .agg _, .tuple _
  | .tuple _, .bool _ | .tuple _, .int .. | .tuple _, .str _ | .tuple _, .ptr _ | .tuple _, .slice .. | .tuple _, .map _ | .tuple _, .func .. | .tuple _, .nilFunc | .tuple _, .iface .. | .tuple _, .nilIface | .tuple _, .agg _ => simp [AV.same] at h
theorem sames_eq : ∀ (a b : List AV), AV.sames a b = true → a = b := by
  intro a b h
  match a, b with
  | [], [] => rfl
  | a :: x, b :: y => simp [AV.sames] at h; rw [same_eq _ _ h.1, sames_eq _ _ h.2]
  | [], _ :: _ => simp [AV.sames] at h
  | _ :: _, [] => simp [AV.sames] at h
end

/-! ### plain cells -/
theorem str_inj {a b : ByteArray} (h : a.data.toList.map (·.toNat) = b.data.toList.map (·.toNat)) : a = b := by
  have h1 : a.data.toList = b.data.toList := by
    have := congrArg (List.map UInt8.ofNat) h
    simpa [Function.comp_def] using this
  cases a; cases b
  simp only at h1
  congr 1
  exact Array.toList_inj.1 h1
theorem plain_inj {c : AV} {u v : Value} (hc : plainCell c = true) (hu : VR ρ c u) (hv : VR ρ c v) : u = v := by
  cases c with
  | bool b => cases hu; cases hv; rfl
  | int k n => cases hu; cases hv; rfl
  | str s =>
    obtain ⟨a, rfl, ha⟩ := hu
    obtain ⟨b, rfl, hb⟩ := hv
    rw [str_inj (ha.trans hb.symm)]
  | _ => cases hc
theorem plains_inj : ∀ {cs : List AV} {us vs : List Value}, cs.all plainCell = true → VRs ρ cs us → VRs ρ cs vs → us = vs
  | [], us, vs, _, hu, hv => by cases hu; cases hv; rfl
  | c :: cs, us, vs, hc, hu, hv => by
    obtain ⟨u, us, rfl, hu1, hu2⟩ := hu
    obtain ⟨v, vs, rfl, hv1, hv2⟩ := hv
    simp only [List.all_cons, Bool.and_eq_true] at hc
    rw [plain_inj hc.1 hu1 hv1, plains_inj hc.2 hu2 hv2]
theorem bytes_beq' (s : ByteArray) : (s == s) = true := by
  rw [beq_toListBytes]; simp
theorem plain_same {c : AV} {u : Value} (hc : plainCell c = true) (hu : VR ρ c u) (n : Nat) : Instr.sameBits n u u = true := by
  cases c with
  | bool b => cases hu; cases n <;> simp [Instr.sameBits]
  | int k n => cases hu; cases n <;> simp [Instr.sameBits]
  | str s => obtain ⟨a, rfl, ha⟩ := hu; cases n <;> simp [Instr.sameBits, bytes_beq']
  | _ => cases hc
theorem plains_same : ∀ {cs : List AV} {us : List Value}, cs.all plainCell = true → VRs ρ cs us → ∀ n, (us.zip us).all (fun (x, y) => Instr.sameBits n x y) = true
  | [], us, _, hu, n => by cases hu; rfl
  | c :: cs, us, hc, hu, n => by
    obtain ⟨u, us, rfl, hu1, hu2⟩ := hu
    simp only [List.all_cons, Bool.and_eq_true] at hc
    simp only [List.zip_cons_cons, List.all_cons, plain_same hc.1 hu1, Bool.true_and]
    exact plains_same hc.2 hu2 n

theorem key_shape {t : TypeId} {k : AV} (h : keyOk P t k = true) : plainCell k = true ∨ ∃ cs, k = .agg cs ∧ cs.all plainCell = true := by
  unfold keyOk at h
  cases hu : P.underlying t with
  | none => rw [hu] at h; cases h
  | some d =>
    rw [hu] at h
    cases d with
    | int _ => exact .inl h
    | string => exact .inl h
    | bool => exact .inl h
    | struct fs =>
      simp only at h
      split at h
      · cases k with
        | agg cs => simp only [Bool.and_eq_true] at h; exact .inr ⟨cs, rfl, h.2⟩
        | _ => cases h
      · cases h
    | _ => cases h

/-- the same key stands for the same value, and it stays -/
theorem key_stays {t : TypeId} {k : AV} {a b : Value} (h : keyOk P t k = true) (ha : VR ρ k a) (hb : VR ρ k b) : (Instr.keyThatStays a b).run P w = .ok b w := by
  rcases key_shape h with hp | ⟨cs, rfl, hp⟩
  · rw [plain_inj hp ha hb]
    simp [Instr.keyThatStays, plain_same hp hb]
  · obtain ⟨cs', rfl, h1⟩ := ha
    obtain ⟨ds', rfl, h2⟩ := hb
    have : cs' = ds' := Array.toList_inj.1 (plains_inj hp h1 h2)
    subst this
    have hs : Instr.sameBits (9999 + 1) (.agg cs') (.agg cs') = true := by
      simp only [Instr.sameBits, beq_self_eq_true, Bool.true_and]
      exact plains_same hp h1 9999
    unfold Instr.keyThatStays
    rw [show (10000 : Nat) = 9999 + 1 from rfl, hs]
    rfl

/-! ### the entries, one changed -/
theorem ERs.get {es : List MEnt} {l : List MapEntry} : ERs ρ es l → ∀ {i : Nat} {e : MEnt}, es[i]? = some e → ∃ e', l[i]? = some e' ∧ ER ρ e e' := by
  induction es generalizing l with
  | nil => intro _ i e h; simp at h
  | cons x es ih =>
    intro hl i e h
    obtain ⟨x', l', rfl, h1, h2⟩ := hl
    cases i with
    | zero => simp at h; subst h; exact ⟨x', rfl, h1⟩
    | succ i => simpa using ih h2 (by simpa using h)
theorem ERs.set {es : List MEnt} {l : List MapEntry} : ERs ρ es l → ∀ (i : Nat) {e : MEnt} {e' : MapEntry}, ER ρ e e' → ERs ρ (es.set i e) (l.set i e') := by
  induction es generalizing l with
  | nil => intro hl i e e' _; cases hl; rfl
  | cons x es ih =>
    intro hl i e e' he
    obtain ⟨x', l', rfl, h1, h2⟩ := hl
    cases i with
    | zero => exact ⟨e', l', rfl, he, h2⟩
    | succ i => exact ⟨x', l'.set i e', rfl, h1, ih h2 i he⟩
theorem ERs.eraseIdx {es : List MEnt} {l : List MapEntry} : ERs ρ es l → ∀ (i : Nat), ERs ρ (es.eraseIdx i) (l.eraseIdx i) := by
  induction es generalizing l with
  | nil => intro hl i; cases hl; rfl
  | cons x es ih =>
    intro hl i
    obtain ⟨x', l', rfl, h1, h2⟩ := hl
    cases i with
    | zero => exact h2
    | succ i => exact ⟨x', l'.eraseIdx i, rfl, h1, ih h2 i⟩
theorem ERs.snoc {es : List MEnt} {l : List MapEntry} : ERs ρ es l → ∀ {e : MEnt} {e' : MapEntry}, ER ρ e e' → ERs ρ (es ++ [e]) (l ++ [e']) := by
  induction es generalizing l with
  | nil => intro hl e e' he; cases hl; exact ⟨e', [], rfl, he, rfl⟩
  | cons x es ih =>
    intro hl e e' he
    obtain ⟨x', l', rfl, h1, h2⟩ := hl
    exact ⟨x', l' ++ [e'], rfl, h1, ih h2 he⟩

theorem updE_spec {eq : AV → AV → Option Bool} {k v : AV} : ∀ {es : List MEnt} {r : Option (List MEnt)}, updE eq k v es = some r →
    match r with
    | none => findE eq k es = some none
    | some l => ∃ i e, es[i]? = some e ∧ k = e.key ∧ findE eq k es = some (some e.val) ∧ eq k e.key = some true ∧ (∀ j, j < i → ∀ e, es[j]? = some e → eq k e.key = some false) ∧ l = es.set i ⟨k, v, e.born⟩ := by
  intro es
  induction es with
  | nil => intro r hr; cases hr; rfl
  | cons e es ih =>
    intro r hr
    have hr : (Option.rec (motive := fun _ => Option (Option (List MEnt))) none (fun b => Bool.rec (motive := fun _ => Option (Option (List MEnt)))
      (Option.rec (motive := fun _ => Option (Option (List MEnt))) none (fun o => Option.rec (motive := fun _ => Option (Option (List MEnt))) (some none) (fun l => some (some (e :: l))) o) (updE eq k v es))
      (iff' (AV.same k e.key) (some (some (MEnt.mk k v e.born :: es)))) b) (eq k e.key) : Option (Option (List MEnt))) = some r := hr
    have hf : findE eq k (e :: es) = (Option.rec (motive := fun _ => Option (Option AV)) none (fun b => Bool.rec (motive := fun _ => Option (Option AV)) (findE eq k es) (some (some e.val)) b) (eq k e.key) : Option (Option AV)) := rfl
    cases hq : eq k e.key with
    | none => rw [hq] at hr; cases hr
    | some q =>
      rw [hq] at hr hf
      cases q with
      | true =>
        obtain ⟨h1, h2⟩ := iff'_some.1 hr
        cases h2
        exact ⟨0, e, rfl, same_eq _ _ h1, hf, hq, fun j hj => absurd hj (Nat.not_lt_zero _), rfl⟩
      | false =>
        cases hu : updE eq k v es with
        | none => rw [hu] at hr; cases hr
        | some o =>
          rw [hu] at hr
          have := ih hu
          cases o with
          | none => cases hr; exact hf.trans this
          | some l =>
            cases hr
            obtain ⟨i, e1, h1, h2, h3, h4, h5, rfl⟩ := this
            refine ⟨i + 1, e1, by simpa using h1, h2, hf.trans h3, h4, fun j hj e0 h0 => ?_, rfl⟩
            cases j with
            | zero => simp at h0; subst h0; exact hq
            | succ j => exact h5 j (by omega) e0 (by simpa using h0)

theorem delE_spec {eq : AV → AV → Option Bool} {k : AV} : ∀ {es l : List MEnt}, delE eq k es = some l →
    (findE eq k es = some none ∧ l = es) ∨ ∃ i e, es[i]? = some e ∧ findE eq k es = some (some e.val) ∧ eq k e.key = some true ∧ (∀ j, j < i → ∀ e, es[j]? = some e → eq k e.key = some false) ∧ l = es.eraseIdx i := by
  intro es
  induction es with
  | nil => intro l hl; cases hl; exact .inl ⟨rfl, rfl⟩
  | cons e es ih =>
    intro l hl
    have hl : (Option.rec (motive := fun _ => Option (List MEnt)) none (fun b => Bool.rec (motive := fun _ => Option (List MEnt)) (Option.rec (motive := fun _ => Option (List MEnt)) none (fun l => some (e :: l)) (delE eq k es)) (some es) b) (eq k e.key) : Option (List MEnt)) = some l := hl
    have hf : findE eq k (e :: es) = (Option.rec (motive := fun _ => Option (Option AV)) none (fun b => Bool.rec (motive := fun _ => Option (Option AV)) (findE eq k es) (some (some e.val)) b) (eq k e.key) : Option (Option AV)) := rfl
    cases hq : eq k e.key with
    | none => rw [hq] at hl; cases hl
    | some q =>
      rw [hq] at hl hf
      cases q with
      | true => cases hl; exact .inr ⟨0, e, rfl, hf, hq, fun j hj => absurd hj (Nat.not_lt_zero _), rfl⟩
      | false =>
        cases hd : delE eq k es with
        | none => rw [hd] at hl; cases hl
        | some l' =>
          rw [hd] at hl; cases hl
          rcases ih hd with ⟨h1, rfl⟩ | ⟨i, e1, h1, h3, h4, h5, rfl⟩
          · exact .inl ⟨hf.trans h1, rfl⟩
          · refine .inr ⟨i + 1, e1, by simpa using h1, hf.trans h3, h4, fun j hj e0 h0 => ?_, rfl⟩
            cases j with
            | zero => simp at h0; subst h0; exact hq
            | succ j => exact h5 j (by omega) e0 (by simpa using h0)

/-- the first that answers is one -/
theorem first_eq {q : MEnt → Option Bool} {es : List MEnt} {i j : Nat} {e f : MEnt} (hi : es[i]? = some e) (hj : es[j]? = some f) (he : q e = some true) (hf : q f = some true)
    (bi : ∀ k, k < i → ∀ e, es[k]? = some e → q e = some false) (bj : ∀ k, k < j → ∀ e, es[k]? = some e → q e = some false) : i = j := by
  rcases Nat.lt_trichotomy i j with hlt | heq | hlt
  · have := bj i hlt e hi; rw [he] at this; cases this
  · exact heq
  · have := bi j hlt f hj; rw [hf] at this; cases this

/-- a map's block is written -/
theorem HR.setMap (hr : HR P keep ρ h w) {bk : Nat} {es es' : List MEnt} {c c' : Nat} {l l' : Array MapEntry} (hb : h.bs.gt bk = some (.map es c)) {p : Pl} (hp : ρ bk = some p) (h0 : p.off = 0) (hh : w.heap[p.blk]? = some (.map l c))
    (he : ERs ρ es' l'.toList) : Post P keep ρ h w ρ (h.put bk (.map es' c')) { w with heap := w.heap.setIfInBounds p.blk (.map l' c') } := by
  have hlt := (Array.getElem?_eq_some_iff.1 hh).1
  refine hr.write hb rfl rfl hp rfl rfl (by simp) (fun k hk => ?_) ⟨p, l', hp, h0, ?_, he⟩
  · show (w.heap.setIfInBounds p.blk _)[k]? = _
    rw [Array.getElem?_setIfInBounds, if_neg (fun e => hk e.symm)]
  · show (w.heap.setIfInBounds p.blk _)[p.blk]? = _
    rw [Array.getElem?_setIfInBounds, if_pos rfl, if_pos hlt]

theorem modify_toList {α : Type} (a : Array α) (i : Nat) (f : α → α) {x : α} (h : a[i]? = some x) : (a.modify i f).toList = a.toList.set i (f x) := by
  apply List.ext_getElem?
  intro j
  rw [Array.getElem?_toList, Array.getElem?_modify, List.getElem?_set]
  by_cases e : i = j
  · subst e
    have hlt : i < a.toList.length := by simpa using (Array.getElem?_eq_some_iff.1 h).1
    rw [if_pos rfl, if_pos rfl, if_pos hlt, h]; rfl
  · rw [if_neg e, if_neg e, Array.getElem?_toList]
theorem erase_toList {α : Type} (a : Array α) (i : Nat) : (a.eraseIdxIfInBounds i).toList = a.toList.eraseIdx i := by
  unfold Array.eraseIdxIfInBounds
  split
  · simp
  · rename_i hn
    rw [List.eraseIdx_of_length_le (by simpa using hn)]

theorem mapUpd_sound {t : TypeId} {m k v : AV} {q : AV × Heap} (hr : HR P keep ρ h w) (hq : mapUpd P t m k v h = some q) {a b c : Value} (hm : VR ρ m a) (hk : VR ρ k b) (hv : VR ρ v c) :
    q.1 = undefA ∧ DoesU P keep w ρ h (Instr.mapUpdate t a b c) q.2 := by
  unfold mapUpd at hq
  cases hu : P.underlying t with
  | none => rw [hu] at hq; cases hq
  | some d =>
    rw [hu] at hq
    cases d with
    | map kt e =>
      obtain ⟨hok, hq⟩ := iff'_some.1 hq
      cases m with
      | map o =>
        cases o with
        | none => cases hq
        | some bk =>
          obtain ⟨es, cl, hb, hq⟩ := theMap_some hq
          obtain ⟨p, es', hp, h0, hh, he⟩ := hr.blk _ _ hb
          obtain ⟨p', hp', _, rfl⟩ := hm
          rw [hp] at hp'; cases hp'
          cases hup : updE (keyEq P kt) k v es with
          | none => rw [hup] at hq; cases hq
          | some o =>
            rw [hup] at hq
            have hs := updE_spec hup
            cases o with
            | none =>
              cases hq
              obtain ⟨o, g1, g2, _⟩ := findKey_sound (w := w) hok hk hs he
              subst g2
              refine ⟨rfl, ρ, _, ?_, hr.setMap (l' := es'.push ⟨b, c, cl⟩) (c' := cl + 1) hb hp h0 hh ?_⟩
              · simp only [Instr.mapUpdate, Sem.run_bind, run_underlying hu, Result.andThen_ok, run_getMap hh, checkKey_sound hok hk, g1, run_setMap hh]
              · rw [app'_eq, Array.toList_push]
                exact he.snoc ⟨hk, hv, rfl⟩
            | some l =>
              cases hq
              obtain ⟨i, e1, h1, hke, h3, h4, h5, rfl⟩ := hs
              obtain ⟨o, g1, i', e2, e2', rfl, g3, g4, g5, g6, g7, g8⟩ := findKey_sound (w := w) hok hk h3 he
              obtain rfl : i' = i := first_eq (q := fun e => keyEq P kt k e.key) g3 h1 g7 h4 g8 h5
              rw [h1] at g3; cases g3
              have hget : es'[i']? = some e2' := by rw [← Array.getElem?_toList]; exact g4
              have hkey : (Instr.keyThatStays e2'.key b).run P w = .ok b w := key_stays hok (by rw [hke]; exact g6.1) hk
              refine ⟨rfl, ρ, _, ?_, hr.setMap (l' := es'.modify i' fun e => { e with key := b, val := c }) (c' := cl) hb hp h0 hh ?_⟩
              · simp only [Instr.mapUpdate, Sem.run_bind, run_underlying hu, Result.andThen_ok, run_getMap hh, checkKey_sound hok hk, g1, hget, Option.map_some, Option.getD_some, hkey, run_setMap hh]
              · rw [modify_toList _ _ _ hget]
                exact he.set i' ⟨hk, hv, g6.2.2⟩
      | _ => cases hq
    | _ => cases hq

theorem mapDel_sound {t ty : TypeId} {ts : Array TypeId} {m k : AV} {q : AV × Heap} (ht : ts[0]? = some t) (hr : HR P keep ρ h w) (hq : mapDel P t m k h = some q) {a b : Value} (hm : VR ρ m a) (hk : VR ρ k b) :
    Does P keep w ρ h (Builtin.delete_ ts ty #[a, b]) q.1 q.2 := by
  unfold mapDel at hq
  cases hu : P.underlying t with
  | none => rw [hu] at hq; cases hq
  | some d =>
    rw [hu] at hq
    cases d with
    | map kt e =>
      obtain ⟨hok, hq⟩ := iff'_some.1 hq
      cases m with
      | map o =>
        cases o with
        | none =>
          cases hq; cases hm
          refine ⟨ρ, _, w, ?_, VR.undef ρ, Post.refl hr⟩
          simp only [Builtin.delete_, ht, List.getElem?_toArray, List.getElem?_cons_zero, List.getElem?_cons_succ, Sem.run_bind, run_underlying hu, Result.andThen_ok, checkKey_sound hok hk, Sem.run_pure]
          rfl
        | some bk =>
          obtain ⟨es, cl, hb, hq⟩ := theMap_some hq
          obtain ⟨p, es', hp, h0, hh, he⟩ := hr.blk _ _ hb
          obtain ⟨p', hp', _, rfl⟩ := hm
          rw [hp] at hp'; cases hp'
          cases hd : delE (keyEq P kt) k es with
          | none => rw [hd] at hq; cases hq
          | some l =>
            rw [hd] at hq; cases hq
            rcases delE_spec hd with ⟨hs, rfl⟩ | ⟨i, e1, h1, h3, h4, h5, rfl⟩
            · obtain ⟨o, g1, g2, _⟩ := findKey_sound (w := w) hok hk hs he
              subst g2
              refine ⟨ρ, _, _, ?_, VR.undef ρ, hr.setMap (l' := es') (c' := cl) hb hp h0 hh he⟩
              simp only [Builtin.delete_, ht, List.getElem?_toArray, List.getElem?_cons_zero, List.getElem?_cons_succ, Sem.run_bind, run_underlying hu, Result.andThen_ok, run_getMap hh, checkKey_sound hok hk, g1, run_setMap hh, Sem.run_pure]
              rfl
            · obtain ⟨o, g1, i', e2, e2', rfl, g3, g4, g5, g6, g7, g8⟩ := findKey_sound (w := w) hok hk h3 he
              obtain rfl : i' = i := first_eq (q := fun e => keyEq P kt k e.key) g3 h1 g7 h4 g8 h5
              refine ⟨ρ, _, _, ?_, VR.undef ρ, hr.setMap (l' := es'.eraseIdxIfInBounds i') (c' := cl) hb hp h0 hh ?_⟩
              · simp only [Builtin.delete_, ht, List.getElem?_toArray, List.getElem?_cons_zero, List.getElem?_cons_succ, Sem.run_bind, run_underlying hu, Result.andThen_ok, run_getMap hh, checkKey_sound hok hk, g1, run_setMap hh, Sem.run_pure]
                rfl
              · rw [erase_toList]; exact he.eraseIdx i'
      | _ => cases hq
    | _ => cases hq

/-! ### over a string -/
theorem new_eq {id : Nat} (hid : h.next ≤ id) (x : Blk) : h.new id x = ⟨h.bs.up (some x) id, id + 1⟩ := by
  unfold Heap.new
  rw [Nat.ble_eq_true_of_le hid]

theorem rangeS_sound {t : TypeId} {x : AV} {id : Nat} {q : AV × Heap} (hid : h.next ≤ id) (hr : HR P keep ρ h w) (hq : rangeS P t x id h = some q) {a : Value} (hx : VR ρ x a) : Does P keep w ρ h (Instr.range t a) q.1 q.2 := by
  unfold rangeS at hq
  split at hq
  · rename_i _ s hu
    cases hq
    obtain ⟨sb, rfl, hs⟩ := hx
    refine ⟨ρ.up id ⟨w.heap.size, 0, 0⟩, _, _, run_range_string w t sb hu, ⟨_, Pls.up_same _ _ _, rfl⟩, ?_⟩
    rw [new_eq hid]
    refine hr.push (o := .stringIter sb 0) hid (by omega) rfl rfl rfl ⟨_, sb, Pls.up_same _ _ _, rfl, ?_, hs⟩
    show (w.heap.push _)[w.heap.size]? = _
    simp
  · cases hq

theorem nextS_sound {ty : TypeId} {it : AV} {q : AV × Heap} (hr : HR P keep ρ h w) (hq : nextS it h = some q) {a : Value} (hx : VR ρ it a) : Does P keep w ρ h (Instr.next a true ty) q.1 q.2 := by
  unfold nextS at hq
  split at hq
  · rename_i b
    obtain ⟨s, pos, hb, hq⟩ := theIter_some hq
    obtain ⟨p, sb, hp, h0, hh, hs⟩ := hr.blk _ _ hb
    obtain ⟨p', hp', rfl⟩ := hx
    rw [hp] at hp'; cases hp'
    rw [h0]
    have hlen : sb.size = s.length := by rw [size_bytes, hs]
    have hlt := (Array.getElem?_eq_some_iff.1 hh).1
    cases hc : s[pos]? with
    | none =>
      rw [hc] at hq; cases hq
      have hge : s.length ≤ pos := List.getElem?_eq_none_iff.1 hc
      exact ⟨ρ, _, w, Lib.run_next_end_at w p.blk sb pos ty hh (by omega), ⟨_, rfl, .bool false, [], rfl, rfl, rfl⟩, Post.refl hr⟩
    | some c =>
      rw [hc] at hq
      simp only at hq
      by_cases h128 : c < 128
      · rw [if_pos h128] at hq
        cases hq
        have hpos : pos < sb.size := by rw [hlen]; exact (List.getElem?_eq_some_iff.1 hc).1
        have hcv : (sb[pos]'hpos).toNat = c := by
          rw [← hs] at hc
          simp only [List.getElem?_map, Option.map_eq_some_iff] at hc
          obtain ⟨u, h1, h2⟩ := hc
          rw [Array.getElem?_toList] at h1
          have h3 : sb.data[pos]? = some (sb[pos]'hpos) := Array.getElem?_eq_getElem hpos
          rw [h1] at h3; cases h3; exact h2
        refine ⟨ρ, _, _, Lib.run_next_ascii_at w p.blk sb pos ty hh hpos (by omega), ?_, ?_⟩
        · exact ⟨_, rfl, _, _, rfl, rfl, _, _, rfl, rfl, _, _, rfl, by rw [hcv]; rfl, rfl⟩
        · refine hr.write hb rfl rfl hp rfl rfl ?_ (fun k hk => ?_) ⟨p, sb, hp, h0, Lib.iterAt_heap w _ sb pos _ hh, hs⟩
          · simp [World.iterAt]
          · simp only [World.iterAt]
            rw [Array.getElem?_setIfInBounds, if_neg (fun e => hk e.symm)]
      · rw [if_neg h128] at hq; cases hq
  · cases hq
end
end Go.Am
