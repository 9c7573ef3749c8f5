import Derived.Test.YtlfednnfkejcjaaDlWalkA
import Derived.Deep.Fields
import Derived.Deep.Slices
import Derived.ChangeArms
set_option linter.unusedVariables false
set_option linter.unusedSimpArgs false
set_option linter.constructorNameAsVariable false
set_option linter.defProp false
set_option maxRecDepth 20000

namespace Go.Proofs.Ytlfednnfkejcjaa
open Go.Am
set_option maxRecDepth 10000
theorem tmay_ok {n : Nat} (hn : 5 ≤ n) {h : Heap} {tb : Nat} {L : List Ch} {next : Int} {F : Nat → Prop} (ht : TabAt h tb L next F) {s : List Nat} (hl1 : 1 ≤ s.length) (hl2 : s.length ≤ 64) (hb : Byts s) (hd : fdL L s = none) :
    WC (C n (.fn 56) [.ptr (some (tb, 0)), .str s] h) fun r h' => Sm NoB h h' ∧ r = .int .i64 0 := by
  obtain ⟨m, rfl⟩ : ∃ m, n = m + 1 := ⟨n - 1, by omega⟩
  refine call_fn _ f56A rfl (by simp [fn56]) fun QQ hQ => ?_
  simp only [fn56] at hQ
  simp only [fn56, fill_cons, fill_nil, Nat.zero_add, Nat.reduceAdd]
  obtain ⟨_, h1, ea, s1, rfl⟩ := tFind_ok (n := m) (by omega) ht (s := s) (by omega) hb
  rw [hd] at ea
  have hne : ¬ s = [] := fun e => by subst e; simp at hl1
  have hgt : ¬ (64 : Int) < (s.length : Int) := by omega
  simp only [F56, x_len_9, hne, hgt, ea, SS, Nat.reduceBEq, Nat.reduceEqDiff, Nat.reduceAdd, reduceIte, Nat.reduceMul]
  refine hQ _ _ _ _ (.inr rfl) (by simp only [SS, Nat.reduceBEq]) (by simp only [SS, Nat.reduceBEq, Nat.reduceEqDiff, Nat.reduceAdd, reduceIte, Nat.reduceMul]; rfl) ?_
  exact ⟨s1, rfl⟩
theorem tadd_ok {n : Nat} (hn : 6 ≤ n) {h : Heap} {tb : Nat} {L : List Ch} {next : Int} {F : Nat → Prop} (ht : TabAt h tb L next F) {s : List Nat} (block : Int) (hl1 : 1 ≤ s.length) (hl2 : s.length ≤ 64) (hb : Byts s) (hd : fdL L s = none) (hnx : next ≠ 4294967295) (hlen : L.length < 4999) :
    WC (C n (.fn 17) [.ptr (some (tb, 0)), .str s, .int .i64 block] h) fun r h' => r = .tuple [u next, .int .i64 0] ∧ ∃ F', TabAt h' tb (L ++ [⟨next, s, block, 1⟩]) (next + 1) F' ∧ Sm F h h' ∧ ∀ b, F' b → F b ∨ h.next ≤ b := by
  obtain ⟨m, rfl⟩ : ∃ m, n = m + 1 := ⟨n - 1, by omega⟩
  refine call_fn _ f17A rfl (by simp [fn17]) fun QQ hQ => ?_
  simp only [fn17] at hQ
  simp only [fn17, fill_cons, fill_nil, Nat.zero_add, Nat.reduceAdd]
  have t5 : ∃ B, TabOk L next B := by obtain ⟨_, _, _, _, B, _, _, _, _, _, t5, _⟩ := ht.ex; exact ⟨B, t5⟩
  obtain ⟨B, t5⟩ := t5
  have hnext := t5.next
  obtain ⟨_, h0, ea, rfl, rfl⟩ := tis_ok (n := m) (by omega) ht
  obtain ⟨_, h1, eb, s1, rfl⟩ := tmay_ok (n := m) (by omega) ht hl1 hl2 hb hd
  have ht1 := ht.sm s1 (fun _ _ h => h)
  have hid : gtL L next = none := by
    cases hg : gtL L next with
    | none => rfl
    | some c => obtain ⟨g1, g2⟩ := gt_some hg; have := (t5.ch c g1).2.1; omega
  obtain ⟨_, h2, ec, rfl, F', ht2, s2, f2⟩ := tput_ok (n := m) (by omega) ht1 ⟨next, s, block, 1⟩ hnext.1 (by show next < _; omega) hid hd hl1 hl2 hb (Int.le_refl _) (show (1 : Int) ≤ 65535 by decide) hlen
  obtain ⟨mb, x, es, k, B', X, t1, _⟩ := ht1.ex
  unfold Ch.val at ec
  simp only at ec
  simp only [F17, ea, eb, ec, x_fa_87_2, t1.ld1, hnx, x_bd_91_0_1_2, SS, Nat.reduceBEq, Nat.reduceEqDiff, Nat.reduceAdd, reduceIte, Nat.reduceMul]
  refine hQ _ _ _ _ (.inr rfl) (by simp only [SS, Nat.reduceBEq]) (by simp only [SS, Nat.reduceBEq, Nat.reduceEqDiff, Nat.reduceAdd, reduceIte, Nat.reduceMul]; rfl) ?_
  refine ⟨rfl, F', ?_, s1.trans s2 (fun _ _ h => h.elim) (fun _ _ h => h), fun b hb => (f2 b hb).imp id fun h9 => Nat.le_trans s1.1 h9⟩
  have : max next (next + 1) = next + 1 := by omega
  rw [← this]; exact ht2
theorem tnew_ok {n : Nat} (hn : 2 ≤ n) {h : Heap} : WC (C n (.fn 12) [] h) fun r h' => ∃ tb F, r = .ptr (some (tb, 0)) ∧ TabAt h' tb [] 1 F ∧ Sm NoB h h' ∧ (∀ b, F b → h.next ≤ b) := by
  obtain ⟨m, rfl⟩ : ∃ m, n = m + 1 := ⟨n - 1, by omega⟩
  refine call_fn _ f12A rfl (by simp [fn12]) fun QQ hQ => ?_
  simp only [fn12] at hQ
  simp only [fn12, fill_cons, fill_nil, Nat.zero_add, Nat.reduceAdd]
  obtain ⟨h1, e1, p1⟩ : ∃ h1, h.new h.next (.map [] 0) = h1 ∧ (∀ b, h1.bs.gt b = if b = h.next then some (.map [] 0) else h.bs.gt b) ∧ h1.next = h.next + 1 := ⟨_, rfl, fun b => new_get' (Nat.le_refl _) _ _, new_next' (Nat.le_refl _) _⟩
  obtain ⟨_, h2, e2, x, rfl, ix2, s2, x2⟩ := ixnew_ok (n := m) (by omega) (h := h1)
  obtain ⟨h3, e3, r3, n3, g3⟩ := Rw.alloc h2 (id := h2.next) (n := 3) (vs := [.map (some h.next), .ptr (some (x, 0)), .int .u32 1]) (z := []) (ro := false) (Nat.le_refl _) rfl
  have hx := ix2.lt
  simp only [F12, x_mm_84, e1, e2, x_bd_87_0_1_2, box_agg, e3, SS, Nat.reduceBEq, Nat.reduceEqDiff, Nat.reduceAdd, reduceIte, Nat.reduceMul]
  refine hQ _ _ _ _ (.inr rfl) (by simp only [SS, Nat.reduceBEq]) (by simp only [SS, Nat.reduceBEq, Nat.reduceEqDiff, Nat.reduceAdd, reduceIte, Nat.reduceMul]; rfl) ?_
  have hix : ∀ b, IxF x (fun _ => []) b → b = x := by
    rintro b (rfl | ⟨_, _, hb⟩)
    · rfl
    · cases hb
  have hm2 : h2.bs.gt h.next = some (.map [] 0) := by rw [s2.2 _ (by omega) (fun h => h), p1.1, if_pos rfl]
  refine ⟨h2.next, _, rfl, ⟨⟨h.next, x, [], 0, _, _, r3, by rw [g3 _ (by have := s2.1; omega), hm2], ⟨Ents.nil.2 rfl, ⟨(fun e he => by cases he), List.Pairwise.nil⟩⟩, ix2.sm (G := fun b => b = h2.next) ⟨by omega, fun c hc hF => g3 c hF⟩ (fun b hb e => by have := hix b hb; omega), ?_, by have := s2.1; omega, by have := s2.1; omega, fun h9 => by have := hix _ h9; omega, fun h9 => by have := hix _ h9; omega, rfl⟩, by omega⟩, ⟨by have := s2.1; omega, fun c hc _ => ?_⟩, fun b hb => ?_⟩
  · exact ⟨by simp, by simp, by simp, ⟨by decide, by decide⟩, by simp, by simp, by simp, by simp⟩
  · rw [g3 c (by have := s2.1; omega), s2.2 c (by omega) (fun h => h), p1.1, if_neg (by omega)]
  · rcases hb with rfl | rfl | hb
    · have := s2.1; omega
    · exact Nat.le_refl _
    · have := hix b hb; omega
theorem full3 (l us : List AV) (h1 : l.length = 3) (h2 : us.length = 3) : putL l 0 us = us := by
  unfold putL
  rw [List.take_zero, List.nil_append, Nat.zero_add, h2, List.drop_eq_nil_of_le (by omega), List.append_nil]
theorem tget_ok {n : Nat} (hn : 3 ≤ n) {h : Heap} {tb : Nat} {L : List Ch} {next : Int} {F : Nat → Prop} (ht : TabAt h tb L next F) (id : Int) : WC (C n (.fn 35) [.ptr (some (tb, 0)), u id] h) fun r h' => Sm NoB h h' ∧ r = match gtL L id with
    | some c => .tuple [.str c.data, .int .i64 c.block, .int .i64 c.refs, .bool true]
    | none => .tuple [.str [], .int .i64 0, .int .i64 0, .bool false] := by
  obtain ⟨m, rfl⟩ : ∃ m, n = m + 1 := ⟨n - 1, by omega⟩
  refine call_fn _ f35A rfl (by simp [fn35]) fun QQ hQ => ?_
  simp only [fn35] at hQ
  simp only [fn35, fill_cons, fill_nil, Nat.zero_add, Nat.reduceAdd]
  obtain ⟨_, h1, ea, s1, rfl⟩ := tfind_ok (n := m) (by omega) ht id
  obtain ⟨h2, e2, r2, n2, g2⟩ := Rw.alloc h1 (id := h1.next) (n := 3) (vs := [.str [], .int .i64 0, .int .i64 0]) (z := tyMark 91 true) (ro := false) (Nat.le_refl _) rfl
  have key : ∀ us : List AV, us.length = 3 → us.all AV.one = true → ∃ h3 h4, h2.sto h1.next 0 us = some h3 ∧ Heap.mk h3.bs (h3.next + 12) = h4 ∧ (∀ i, h4.ld1 h1.next i = us[i]?) ∧ Sm NoB h h4 := by
    intro us hu1 hu2
    obtain ⟨w1, w2, w3, w4⟩ := r2.sto (o := 0) (us := us) (by simp [hu1]) hu2
    rw [full3 _ _ rfl hu1] at w2
    obtain ⟨h4, e4, s4, b4, n4⟩ := Sm.bump (h2.wr h1.next 0 us) 12
    refine ⟨_, _, w1, e4, fun i => ?_, ⟨by have := s1.1; omega, fun c hc _ => ?_⟩⟩
    · exact (w2.same (h' := h4) (by rw [b4])).ld1 i
    · have := s1.1
      rw [b4, w4 c (by omega), g2 c (by omega), s1.2 c hc (fun h => h)]
  cases hg : gtL L id with
  | none =>
    rw [hg] at ea
    unfold zCh at ea
    obtain ⟨h3, h4, k1, k2, k3, k4⟩ := key [.str [], .int .i64 0, .int .i64 0] rfl rfl
    simp only [F35, ea, x_al_91, e2, k1, k2, k3, x_fa_91_0, x_fa_91_1, x_fa_91_2, SS, Nat.reduceBEq, Nat.reduceEqDiff, Nat.reduceAdd, reduceIte, Nat.reduceMul]
    refine hQ _ _ _ _ (.inr rfl) (by simp only [SS, Nat.reduceBEq]) (by simp only [SS, Nat.reduceBEq, Nat.reduceEqDiff, Nat.reduceAdd, reduceIte, Nat.reduceMul]; rfl) ?_
    exact ⟨k4, by rw [hg]; rfl⟩
  | some ch =>
    rw [hg] at ea
    unfold Ch.val at ea
    obtain ⟨h3, h4, k1, k2, k3, k4⟩ := key [.str ch.data, .int .i64 ch.block, .int .i64 ch.refs] rfl rfl
    simp only [F35, ea, x_al_91, e2, k1, k2, k3, x_fa_91_0, x_fa_91_1, x_fa_91_2, SS, Nat.reduceBEq, Nat.reduceEqDiff, Nat.reduceAdd, reduceIte, Nat.reduceMul]
    refine hQ _ _ _ _ (.inr rfl) (by simp only [SS, Nat.reduceBEq]) (by simp only [SS, Nat.reduceBEq, Nat.reduceEqDiff, Nat.reduceAdd, reduceIte, Nat.reduceMul]; rfl) ?_
    exact ⟨k4, by rw [hg]; rfl⟩
theorem putC_upd {c0 : Ch} : ∀ {L : List Ch} (c : Ch), gtL L c.id = some c0 → c0.data = c.data → (putC c L).map Ch.id = L.map Ch.id ∧ (putC c L).map Ch.data = L.map Ch.data ∧ (putC c L).length = L.length ∧ ∀ d, d ∈ putC c L → d = c ∨ d ∈ L
  | [], c, h, _ => by cases h
  | d :: L, c, h, hd => by
    unfold gtL at h
    rw [List.find?_cons] at h
    rw [putC]
    cases hk : d.id == c.id with
    | true =>
      rw [hk] at h
      cases h
      have hid : c0.id = c.id := by simpa using hk
      simp only [if_true, List.map_cons, hd, hid, List.length_cons, true_and]
      intro e he
      rcases List.mem_cons.1 he with rfl | he
      · exact .inl rfl
      · exact .inr (List.mem_cons_of_mem _ he)
    | false =>
      rw [hk] at h
      obtain ⟨a1, a2, a3, a4⟩ := putC_upd c h hd
      simp only [Bool.false_eq_true, if_false, List.map_cons, a1, a2, a3, List.length_cons, true_and]
      intro e he
      rcases List.mem_cons.1 he with rfl | he
      · exact .inr (List.mem_cons_self ..)
      · exact (a4 e he).imp id (List.mem_cons_of_mem _)
theorem map_pair {L M : List Ch} (h1 : M.map Ch.id = L.map Ch.id) (h2 : M.map Ch.data = L.map Ch.data) : ∀ d, d ∈ M → ∃ e, e ∈ L ∧ e.id = d.id ∧ e.data = d.data := by
  intro d hd
  obtain ⟨i, hi⟩ := List.getElem?_of_mem hd
  have hlt := (List.getElem?_eq_some_iff.1 hi).1
  have hl : M.length = L.length := by have := congrArg List.length h1; simpa using this
  have he : L[i]? = some L[i] := List.getElem?_eq_getElem (by omega)
  have q1 : (M.map Ch.id)[i]? = (L.map Ch.id)[i]? := by rw [h1]
  have q2 : (M.map Ch.data)[i]? = (L.map Ch.data)[i]? := by rw [h2]
  rw [List.getElem?_map, List.getElem?_map, hi, he] at q1 q2
  exact ⟨L[i], List.getElem_mem _, (Option.some.inj q1).symm, (Option.some.inj q2).symm⟩
theorem TabOk.upd {L : List Ch} {next : Int} {B : Nat → List Int} (h : TabOk L next B) {c c0 : Ch} (hg : gtL L c.id = some c0) (hd : c0.data = c.data) (hr1 : 1 ≤ c.refs) (hr2 : c.refs ≤ 65535) : TabOk (putC c L) next B := by
  obtain ⟨a1, a2, a3, a4⟩ := putC_upd c hg hd
  obtain ⟨g1, g2⟩ := gt_some hg
  have m1 := map_pair a1 a2
  have m2 := map_pair a1.symm a2.symm
  refine ⟨by rw [a1]; exact h.ids, by rw [a2]; exact h.datas, fun d hd' => ?_, h.next, fun d hd' => ?_, fun i hi id hid => ?_, h.ndB, by rw [a3]; exact h.len⟩
  · rcases a4 d hd' with rfl | hd'
    · obtain ⟨q1, q2, q3, q4, q5, _⟩ := h.ch c0 g1
      rw [g2] at q1 q2
      rw [hd] at q3 q4 q5
      exact ⟨q1, q2, q3, q4, q5, hr1, hr2⟩
    · exact h.ch d hd'
  · obtain ⟨e, e1, e2, e3⟩ := m1 d hd'
    have := h.inB e e1
    rw [e2, e3] at this; exact this
  · obtain ⟨d, d1, d2, d3⟩ := h.ofB i hi id hid
    obtain ⟨e, e1, e2, e3⟩ := m2 d d1
    exact ⟨e, e1, e2.trans d2, by rw [e3]; exact d3⟩
theorem any_some {es : List MEnt} {id : Int} {x : MEnt} (h : es.find? (kInt .u32 id) = some x) : es.any (kInt .u32 id) = true := by
  rw [List.any_eq_true]
  exact ⟨x, List.mem_of_find?_eq_some h, List.find?_some h⟩
theorem hold_ok {n : Nat} (hn : 3 ≤ n) {h : Heap} {tb : Nat} {L : List Ch} {next : Int} {F : Nat → Prop} (ht : TabAt h tb L next F) {id : Int} {c : Ch} (hg : gtL L id = some c) (hr : c.refs < 65535) :
    WC (C n (.fn 16) [.ptr (some (tb, 0)), u id] h) fun r h' => r = .int .i64 0 ∧ TabAt h' tb (putC { c with refs := c.refs + 1 } L) next F ∧ Sm F h h' := by
  obtain ⟨m, rfl⟩ : ∃ m, n = m + 1 := ⟨n - 1, by omega⟩
  refine call_fn _ f16A rfl (by simp [fn16]) fun QQ hQ => ?_
  simp only [fn16] at hQ
  simp only [fn16, fill_cons, fill_nil, Nat.zero_add, Nat.reduceAdd]
  obtain ⟨_, h1, ea, s1, rfl⟩ := tfind_ok (n := m) (by omega) ht id
  rw [hg] at ea
  unfold Ch.val at ea
  obtain ⟨mb, x, es, k, B, X, t1, t2, t3, t4, t5, hmb, hne, hx1, hx2, rfl⟩ := (ht.sm s1 (fun _ _ h => h)).ex
  have t3b := t3.b
  have t3 := t3.e
  have htb := ht.lt
  have hgs := gt_some hg
  have hrb := (t5.ch c hgs.1)
  obtain ⟨h2, e2, r2, n2, g2⟩ := Rw.alloc h1 (id := h1.next) (n := 3) (vs := [.str [], .int .i64 0, .int .i64 0]) (z := tyMark 91 true) (ro := false) (Nat.le_refl _) rfl
  obtain ⟨w1, w2, w3, w4⟩ := r2.sto (o := 0) (us := [.str c.data, .int .i64 c.block, .int .i64 c.refs]) (by simp) rfl
  rw [full3 _ _ rfl rfl] at w2
  obtain ⟨v1, v2, v3, v4⟩ := w2.st1 (o := 2) (v := .int .i64 (c.refs + 1)) (by simp) rfl
  obtain ⟨h5, e5, s5, b5, n5⟩ := Sm.bump ((h2.wr h1.next 0 [.str c.data, .int .i64 c.block, .int .i64 c.refs]).wr h1.next 2 [.int .i64 (c.refs + 1)]) 7
  have hsame : ∀ b, b < h1.next → h5.bs.gt b = h1.bs.gt b := fun b hb => by rw [b5, v4 b (by omega), w4 b (by omega), g2 b (by omega)]
  have hlt1 := s1.1
  have r5 : Rw h5 tb [.map (some mb), .ptr (some (x, 0)), u next] [] false := t1.same (hsame tb (by omega))
  have m5 : h5.bs.gt mb = some (.map es k) := (hsame mb hmb).trans t2
  have ldv : h5.ld h1.next 0 3 = some [.str c.data, .int .i64 c.block, .int .i64 (c.refs + 1)] := by
    rw [(v2.same (h' := h5) (by rw [b5])).ld (i := 0) (n := 3) (by simp)]; rfl
  have hmu := x_mu_84 m5 t3.all id (.agg [.str c.data, .int .i64 c.block, .int .i64 (c.refs + 1)])
  obtain ⟨xe, f1, f2⟩ := t3.findS hg
  rw [any_some f1, if_pos rfl] at hmu
  have hent := t3.put { c with refs := c.refs + 1 } k
  unfold Ch.val at hent
  simp only [hgs.2] at hent
  obtain ⟨h6, e6, p6⟩ : ∃ h6, h5.put mb (.map (putE .u32 id (.agg [.str c.data, .int .i64 c.block, .int .i64 (c.refs + 1)]) k es) k) = h6 ∧ (∀ b, h6.bs.gt b = if b = mb then some (.map (putE .u32 id (.agg [.str c.data, .int .i64 c.block, .int .i64 (c.refs + 1)]) k es) k) else h5.bs.gt b) ∧ h6.next = h5.next := ⟨_, rfl, fun b => put_get _ _ _ _, rfl⟩
  rw [e6] at hmu
  have ew : IntKind.i64.wrap (c.refs + 1) = c.refs + 1 := wrap_i64 (by omega) (by omega)
  have hr' : ¬ c.refs = 65535 := by omega
  simp only [F16, ea, x_al_91, e2, w1, x_fa_91_2, w2.ld1, hr', ew, v1, e5, x_fa_87_0, r5.ld1, ldv, hmu, SS, Nat.reduceBEq, Nat.reduceEqDiff, Nat.reduceAdd, reduceIte, Nat.reduceMul]
  refine hQ _ _ _ _ (.inr rfl) (by simp only [SS, Nat.reduceBEq]) (by simp only [SS, Nat.reduceBEq, Nat.reduceEqDiff, Nat.reduceAdd, reduceIte, Nat.reduceMul]; rfl) ?_
  have g6 : ∀ b, b < h1.next → b ≠ mb → h6.bs.gt b = h1.bs.gt b := fun b hb hne => by rw [p6.1, if_neg hne, hsame b hb]
  refine ⟨rfl, ⟨⟨mb, x, _, k, B, X, t1.same (g6 tb (by omega) hne), by rw [p6.1, if_pos rfl], ⟨(by rw [hgs.2]; exact hent), (putE_upd (any_some f1) t3b)⟩, t4.sm (G := fun b => b = mb) ⟨by omega, fun b hb hF => g6 b hb hF⟩ (fun b hb e => hx2 (e ▸ hb)), t5.upd (c := { c with refs := c.refs + 1 }) (c0 := c) (by show gtL L c.id = _; rw [hgs.2]; exact hg) rfl (by show 1 ≤ c.refs + 1; omega) (by show c.refs + 1 ≤ 65535; omega), by omega, hne, hx1, hx2, rfl⟩, by omega⟩, ⟨by omega, fun b hb hF => ?_⟩⟩
  rw [g6 b (by omega) (fun e => hF (.inr (.inl e))), s1.2 b hb (fun h => h)]
theorem cutC_sub (id : Int) : ∀ L : List Ch, (cutC id L).Sublist L
  | [] => List.Sublist.slnil
  | d :: L => by
    rw [cutC]
    cases d.id == id with
    | true => exact List.sublist_cons_self d L
    | false => exact (cutC_sub id L).cons_cons d
theorem cutC_mem {id : Int} : ∀ {L : List Ch}, (L.map Ch.id).Nodup → ∀ d, d ∈ cutC id L ↔ d ∈ L ∧ d.id ≠ id
  | [], _, d => by simp [cutC]
  | e :: L, hn, d => by
    rw [List.map_cons, List.nodup_cons] at hn
    rw [cutC]
    cases hk : e.id == id with
    | true =>
      have hk : e.id = id := by simpa using hk
      simp only [if_true, List.mem_cons]
      constructor
      · intro hd
        refine ⟨.inr hd, fun h => hn.1 (List.mem_map.2 ⟨d, hd, by rw [h, hk]⟩)⟩
      · rintro ⟨rfl | hd, hne⟩
        · exact absurd hk hne
        · exact hd
    | false =>
      have hk : e.id ≠ id := by simpa using hk
      simp only [Bool.false_eq_true, if_false, List.mem_cons, cutC_mem hn.2 d]
      constructor
      · rintro (rfl | ⟨h1, h2⟩)
        · exact ⟨.inl rfl, hk⟩
        · exact ⟨.inr h1, h2⟩
      · rintro ⟨rfl | h1, h2⟩
        · exact .inl rfl
        · exact .inr ⟨h1, h2⟩
theorem cutC_len {id : Int} {c : Ch} : ∀ {L : List Ch}, gtL L id = some c → (cutC id L).length + 1 = L.length
  | [], h => by cases h
  | d :: L, h => by
    unfold gtL at h
    rw [List.find?_cons] at h
    rw [cutC]
    cases hk : d.id == id with
    | true => simp
    | false =>
      rw [hk] at h
      have := cutC_len h
      simp only [Bool.false_eq_true, if_false, List.length_cons]; omega
theorem mem_eraseIdx_nodup : ∀ {l : List Int} {i : Nat} {a : Int}, l.Nodup → l[i]? = some a → ∀ x, x ∈ l.eraseIdx i ↔ x ∈ l ∧ x ≠ a
  | [], _, _, _, h, _ => by simp at h
  | b :: l, 0, a, hn, h, x => by
    rw [List.nodup_cons] at hn
    cases h
    simp only [List.eraseIdx_cons_zero, List.mem_cons]
    constructor
    · intro hx; exact ⟨.inr hx, fun e => hn.1 (e ▸ hx)⟩
    · rintro ⟨rfl | h1, h2⟩
      · exact absurd rfl h2
      · exact h1
  | b :: l, i + 1, a, hn, h, x => by
    rw [List.nodup_cons] at hn
    rw [List.getElem?_cons_succ] at h
    have hne : b ≠ a := fun e => hn.1 (e ▸ List.mem_of_getElem? h)
    simp only [List.eraseIdx_cons_succ, List.mem_cons, mem_eraseIdx_nodup hn.2 h x]
    constructor
    · rintro (rfl | ⟨h1, h2⟩)
      · exact ⟨.inl rfl, hne⟩
      · exact ⟨.inr h1, h2⟩
    · rintro ⟨rfl | h1, h2⟩
      · exact .inl rfl
      · exact .inr ⟨h1, h2⟩
theorem TabOk.cut {L : List Ch} {next : Int} {B : Nat → List Int} (h : TabOk L next B) {id : Int} {c : Ch} (hg : gtL L id = some c) {i : Nat} (hi : (B (bk c.data))[i]? = some id) :
    TabOk (cutC id L) next (setF B (bk c.data) ((B (bk c.data)).eraseIdx i)) := by
  obtain ⟨g1, g2⟩ := gt_some hg
  have hbk := bk_lt c.data
  have hm := cutC_mem (id := id) h.ids
  have he := mem_eraseIdx_nodup (h.ndB _ hbk) hi
  have hl := cutC_len hg
  refine ⟨h.ids.sublist ((cutC_sub id L).map _), h.datas.sublist ((cutC_sub id L).map _), fun d hd => h.ch d ((hm d).1 hd).1, h.next, fun d hd => ?_, fun j hj x hx => ?_, fun j hj => ?_, by have := h.len; omega⟩
  · obtain ⟨d1, d2⟩ := (hm d).1 hd
    have := h.inB d d1
    by_cases e : bk d.data = bk c.data
    · rw [e, setF_same, he]; rw [e] at this; exact ⟨this, d2⟩
    · rw [setF_other _ _ e]; exact this
  · by_cases e : j = bk c.data
    · subst e
      rw [setF_same, he] at hx
      obtain ⟨d, d1, d2, d3⟩ := h.ofB _ hj x hx.1
      exact ⟨d, (hm d).2 ⟨d1, by rw [d2]; exact hx.2⟩, d2, d3⟩
    · rw [setF_other _ _ e] at hx
      obtain ⟨d, d1, d2, d3⟩ := h.ofB _ hj x hx
      refine ⟨d, (hm d).2 ⟨d1, fun h9 => e ?_⟩, d2, d3⟩
      have := nodup_inj h.ids d1 g1 (by rw [h9, g2])
      rw [← d3, this]
  · by_cases e : j = bk c.data
    · subst e
      rw [setF_same]; exact (h.ndB _ hj).sublist (List.eraseIdx_sublist ..)
    · rw [setF_other _ _ e]; exact h.ndB j hj
end Go.Proofs.Ytlfednnfkejcjaa

namespace Go.Proofs.Ytlfednnfkejcjaa
open Go.Am
set_option maxRecDepth 10000
theorem release_ok {n : Nat} (hn : 4 ≤ n) {h : Heap} {tb : Nat} {L : List Ch} {next : Int} {F : Nat → Prop} (ht : TabAt h tb L next F) {id : Int} {c : Ch} (hg : gtL L id = some c) :
    WC (C n (.fn 15) [.ptr (some (tb, 0)), u id] h) fun r h' => Sm F h h' ∧ if 1 < c.refs then r = .tuple [.bool false, .int .i64 0] ∧ TabAt h' tb (putC { c with refs := c.refs - 1 } L) next F
      else r = .tuple [.bool true, .int .i64 0] ∧ ∃ F', TabAt h' tb (cutC id L) next F' ∧ ∀ b, F' b → F b := by
  obtain ⟨m, rfl⟩ : ∃ m, n = m + 1 := ⟨n - 1, by omega⟩
  refine call_fn _ f15A rfl (by simp [fn15]) fun QQ hQ => ?_
  simp only [fn15] at hQ
  simp only [fn15, fill_cons, fill_nil, Nat.zero_add, Nat.reduceAdd]
  obtain ⟨_, h1, ea, s1, rfl⟩ := tfind_ok (n := m) (by omega) ht id
  rw [hg] at ea
  unfold Ch.val at ea
  obtain ⟨mb, x, es, k, B, X, t1, t2, t3, t4, t5, hmb, hne, hx1, hx2, rfl⟩ := (ht.sm s1 (fun _ _ h => h)).ex
  have t3b := t3.b
  have t3 := t3.e
  have htb := ht.lt
  have hgs := gt_some hg
  have hrb := (t5.ch c hgs.1)
  obtain ⟨h2, e2, r2, n2, g2⟩ := Rw.alloc h1 (id := h1.next) (n := 3) (vs := [.str [], .int .i64 0, .int .i64 0]) (z := tyMark 91 true) (ro := false) (Nat.le_refl _) rfl
  obtain ⟨w1, w2, w3, w4⟩ := r2.sto (o := 0) (us := [.str c.data, .int .i64 c.block, .int .i64 c.refs]) (by simp) rfl
  rw [full3 _ _ rfl rfl] at w2
  obtain ⟨v1, v2, v3, v4⟩ := w2.st1 (o := 2) (v := .int .i64 (c.refs - 1)) (by simp) rfl
  obtain ⟨h4, e4⟩ : ∃ h4, (h2.wr h1.next 0 [.str c.data, .int .i64 c.block, .int .i64 c.refs]).wr h1.next 2 [.int .i64 (c.refs - 1)] = h4 := ⟨_, rfl⟩
  rw [e4] at v1 v2 v3 v4
  have v2 : Rw h4 h1.next [.str c.data, .int .i64 c.block, .int .i64 (c.refs - 1)] (tyMark 91 true) false := v2
  have hsame4 : ∀ b, b < h1.next → h4.bs.gt b = h1.bs.gt b := fun b hb => by rw [v4 b (by omega), w4 b (by omega), g2 b (by omega)]
  have hlt1 := s1.1
  have r4 : Rw h4 tb [.map (some mb), .ptr (some (x, 0)), u next] [] false := t1.same (hsame4 tb (by omega))
  have ew : IntKind.i64.wrap (c.refs - 1) = c.refs - 1 := wrap_i64 (by omega) (by omega)
  by_cases hr : 1 < c.refs
  · obtain ⟨h5, e5, s5, b5, n5⟩ := Sm.bump h4 7
    have r5 : Rw h5 tb [.map (some mb), .ptr (some (x, 0)), u next] [] false := r4.same (by rw [b5])
    have m5 : h5.bs.gt mb = some (.map es k) := by rw [b5, hsame4 mb hmb]; exact t2
    have ldv : h5.ld h1.next 0 3 = some [.str c.data, .int .i64 c.block, .int .i64 (c.refs - 1)] := by
      rw [(v2.same (h' := h5) (by rw [b5])).ld (i := 0) (n := 3) (by simp)]; rfl
    have hmu := x_mu_84 m5 t3.all id (.agg [.str c.data, .int .i64 c.block, .int .i64 (c.refs - 1)])
    obtain ⟨xe, f1, f2⟩ := t3.findS hg
    rw [any_some f1, if_pos rfl] at hmu
    have hent := t3.put { c with refs := c.refs - 1 } k
    unfold Ch.val at hent
    obtain ⟨h6, e6, p6⟩ : ∃ h6, h5.put mb (.map (putE .u32 id (.agg [.str c.data, .int .i64 c.block, .int .i64 (c.refs - 1)]) k es) k) = h6 ∧ (∀ b, h6.bs.gt b = if b = mb then some (.map (putE .u32 id (.agg [.str c.data, .int .i64 c.block, .int .i64 (c.refs - 1)]) k es) k) else h5.bs.gt b) ∧ h6.next = h5.next := ⟨_, rfl, fun b => put_get _ _ _ _, rfl⟩
    rw [e6] at hmu
    have hpos : (0 : Int) < c.refs - 1 := by omega
    simp only [F15, ea, x_al_91, e2, w1, x_fa_91_2, w2.ld1, v2.ld1, hpos, ew, v1, e5, x_fa_87_0, r5.ld1, ldv, hmu, SS, Nat.reduceBEq, Nat.reduceEqDiff, Nat.reduceAdd, reduceIte, Nat.reduceMul]
    refine hQ _ _ _ _ (.inr rfl) (by simp only [SS, Nat.reduceBEq]) (by simp only [SS, Nat.reduceBEq, Nat.reduceEqDiff, Nat.reduceAdd, reduceIte, Nat.reduceMul]; rfl) ?_
    have g6 : ∀ b, b < h1.next → b ≠ mb → h6.bs.gt b = h1.bs.gt b := fun b hb hne => by rw [p6.1, if_neg hne, b5, hsame4 b hb]
    refine ⟨⟨by omega, fun b hb hF => ?_⟩, ?_⟩
    · rw [g6 b (by omega) (fun e => hF (.inr (.inl e))), s1.2 b hb (fun h => h)]
    · rw [if_pos hr]
      refine ⟨rfl, ⟨mb, x, _, k, B, X, t1.same (g6 tb (by omega) hne), by rw [p6.1, if_pos rfl], ?_, t4.sm (G := fun b => b = mb) ⟨by omega, fun b hb hF => g6 b hb hF⟩ (fun b hb e => hx2 (e ▸ hb)), t5.upd (c := { c with refs := c.refs - 1 }) (c0 := c) (by show gtL L c.id = _; rw [hgs.2]; exact hg) rfl (by show 1 ≤ c.refs - 1; omega) (by show c.refs - 1 ≤ 65535; omega), by omega, hne, hx1, hx2, rfl⟩, by omega⟩
      refine ⟨?_, putE_upd (any_some f1) t3b⟩
      simp only [hgs.2] at hent ⊢
      exact hent
  · have hr1 : c.refs = 1 := by omega
    have m4 : h4.bs.gt mb = some (.map es k) := (hsame4 mb hmb).trans t2
    have hmd := x_md_84 m4 t3.all id
    obtain ⟨h5, e5, p5⟩ : ∃ h5, h4.put mb (.map (cutE .u32 id es) k) = h5 ∧ (∀ b, h5.bs.gt b = if b = mb then some (.map (cutE .u32 id es) k) else h4.bs.gt b) ∧ h5.next = h4.next := ⟨_, rfl, fun b => put_get _ _ _ _, rfl⟩
    rw [e5] at hmd
    obtain ⟨h6, e6, s6, b6, n6⟩ := Sm.bump h5 8
    have g6 : ∀ b, b < h1.next → b ≠ mb → h6.bs.gt b = h1.bs.gt b := fun b hb hne => by rw [b6, p5.1, if_neg hne, hsame4 b hb]
    have r6 : Rw h6 tb [.map (some mb), .ptr (some (x, 0)), u next] [] false := t1.same (g6 tb (by omega) hne)
    have v6 : Rw h6 h1.next [.str c.data, .int .i64 c.block, .int .i64 (c.refs - 1)] (tyMark 91 true) false := v2.same (by rw [b6, p5.1, if_neg (by omega)])
    have ix6 : IxAt h6 x B X := t4.sm (G := fun b => b = mb) ⟨by omega, fun b hb hF => g6 b hb hF⟩ (fun b hb e => hx2 (e ▸ hb))
    have hin : id ∈ B (bk c.data) := by have := t5.inB c hgs.1; rw [hgs.2] at this; exact this
    obtain ⟨_, h7, e7, rfl, bs, i, i1, ix7, s7, f7⟩ := ixdrop_ok (n := m) (by omega) ix6 (s := c.data) (by omega) hrb.2.2.2.2.1 id hin
    have hpos : ¬ (0 : Int) < c.refs - 1 := by omega
    simp only [F15, ea, x_al_91, e2, w1, x_fa_91_2, w2.ld1, v2.ld1, hpos, ew, v1, x_fa_87_0, x_fa_87_1, x_fa_91_0, r4.ld1, hmd, e6, r6.ld1, v6.ld1, e7, SS, Nat.reduceBEq, Nat.reduceEqDiff, Nat.reduceAdd, reduceIte, Nat.reduceMul]
    refine hQ _ _ _ _ (.inr rfl) (by simp only [SS, Nat.reduceBEq]) (by simp only [SS, Nat.reduceBEq, Nat.reduceEqDiff, Nat.reduceAdd, reduceIte, Nat.reduceMul]; rfl) ?_
    have hbk := bk_lt c.data
    have hnew : ∀ b, IxF x (setF X (bk c.data) bs) b → IxF x X b := by
      rintro b (rfl | ⟨j, hj, hb⟩)
      · exact .inl rfl
      · by_cases e : j = bk c.data
        · subst e; rw [setF_same] at hb; exact .inr ⟨_, hbk, f7 b hb⟩
        · rw [setF_other _ _ e] at hb; exact .inr ⟨j, hj, hb⟩
    have g7 : ∀ b, b < h1.next → b ≠ mb → ¬ IxF x X b → h7.bs.gt b = h1.bs.gt b := fun b hb hne hF => by rw [s7.2 b (by omega) hF, g6 b hb hne]
    have hn7 := s7.1
    refine ⟨⟨by omega, fun b hb hF => ?_⟩, ?_⟩
    · rw [g7 b (by omega) (fun e => hF (.inr (.inl e))) (fun e => hF (.inr (.inr e))), s1.2 b hb (fun h => h)]
    · rw [if_neg hr]
      refine ⟨rfl, _, ⟨⟨mb, x, _, k, _, _, t1.same (g7 tb (by omega) hne hx1), by rw [s7.2 mb (by omega) hx2, b6, p5.1, if_pos rfl], ⟨t3.cut id, cutE_born t3b⟩, ix7, t5.cut hg i1, by omega, hne, fun h9 => hx1 (hnew _ h9), fun h9 => hx2 (hnew _ h9), rfl⟩, by omega⟩, fun b hb => ?_⟩
      rcases hb with rfl | rfl | hb
      · exact .inl rfl
      · exact .inr (.inl rfl)
      · exact .inr (.inr (hnew b hb))
end Go.Proofs.Ytlfednnfkejcjaa

namespace Go.Proofs.Ytlfednnfkejcjaa
open Go.Am
set_option maxRecDepth 10000
theorem perm_nd {α : Type} : ∀ {l m : List α}, l.Nodup → m.Nodup → (∀ x, x ∈ l ↔ x ∈ m) → l.Perm m
  | [], m, _, _, h => by
    cases m with
    | nil => exact List.Perm.refl _
    | cons y m => exact absurd ((h y).2 (List.mem_cons_self ..)) (by simp)
  | x :: l, m, hl, hm, h => by
    obtain ⟨a, b, rfl⟩ := List.append_of_mem ((h x).1 (List.mem_cons_self ..))
    obtain ⟨h1, h2⟩ := List.nodup_cons.1 hl
    have hp : (x :: (a ++ b)).Nodup := (List.perm_middle (a := x) (l₁ := a) (l₂ := b)).nodup_iff.1 hm
    obtain ⟨h3, h4⟩ := List.nodup_cons.1 hp
    refine ((perm_nd h2 h4 fun y => ?_).cons x).trans List.perm_middle.symm
    have hy := h y
    rw [List.mem_cons, List.perm_middle.mem_iff, List.mem_cons] at hy
    constructor
    · intro h5
      rcases hy.1 (.inr h5) with rfl | h6
      · exact absurd h5 h1
      · exact h6
    · intro h5
      rcases hy.2 (.inr h5) with rfl | h6
      · exact absurd h5 h3
      · exact h6
structure Rel (L R : List Ch) : Prop where
  mem : ∀ c, c ∈ R ↔ c ∈ L
  up : R.Pairwise (fun a b => a.id < b.id)
  nd : (L.map Ch.id).Nodup
  dd : (L.map Ch.data).Nodup
theorem nodup_of_map {α β : Type} {f : α → β} {l : List α} (h : (l.map f).Nodup) : l.Nodup := List.Pairwise.of_map f (fun _ _ hne e => hne (by rw [e])) h
section
variable {L R : List Ch}
theorem Rel.ndR (h : Rel L R) : (R.map Ch.id).Nodup := by
  rw [List.Nodup, List.pairwise_map]
  exact h.up.imp fun hlt e => by omega
theorem Rel.perm (h : Rel L R) : R.Perm L := perm_nd (nodup_of_map h.ndR) (nodup_of_map h.nd) h.mem
theorem Rel.len (h : Rel L R) : R.length = L.length := h.perm.length_eq
theorem Rel.ddR (h : Rel L R) : (R.map Ch.data).Nodup := (h.perm.map Ch.data).nodup_iff.2 h.dd
theorem Rel.nil : Rel [] [] := ⟨fun _ => Iff.rfl, List.Pairwise.nil, List.nodup_nil, List.nodup_nil⟩
theorem Rel.sortIds (h : Rel L R) : isort (L.map Ch.id) = R.map Ch.id := by
  refine sorted_eq ((isort_perm _).trans (h.perm.map Ch.id).symm) (isort_sorted _) ?_
  rw [List.pairwise_map]
  exact h.up.imp fun hlt => by omega
theorem Rel.at (h : Rel L R) {id : Int} {c : Ch} (hg : gtL L id = some c) : ∃ i : Nat, R[i]? = some c ∧ ∀ (j : Nat) (_ : j < i) (d : Ch), R[j]? = some d → d.id ≠ id := by
  obtain ⟨g1, g2⟩ := gt_some hg
  obtain ⟨i, hi⟩ := List.getElem?_of_mem ((h.mem c).2 g1)
  refine ⟨i, hi, fun j hj d hd e => ?_⟩
  obtain ⟨i1, i2⟩ := List.getElem?_eq_some_iff.1 hi
  obtain ⟨j1, j2⟩ := List.getElem?_eq_some_iff.1 hd
  have := List.pairwise_iff_getElem.1 h.up j i j1 i1 hj
  rw [i2, j2] at this
  omega
theorem Rel.none (h : Rel L R) {id : Int} (hg : gtL L id = .none) : ∀ (j : Nat) (d : Ch), R[j]? = some d → d.id ≠ id := fun j d hd => gt_none hg d ((h.mem d).1 (List.mem_of_getElem? hd))
theorem Rel.fd (h : Rel L R) {s : List Nat} {c : Ch} (hg : fdL L s = some c) : ∃ i : Nat, R[i]? = some c ∧ c.data = s ∧ ∀ (j : Nat) (_ : j < i) (d : Ch), R[j]? = some d → d.data ≠ s := by
  obtain ⟨g1, g2⟩ := fd_some hg
  obtain ⟨i, hi⟩ := List.getElem?_of_mem ((h.mem c).2 g1)
  refine ⟨i, hi, g2, fun j hj d hd e => ?_⟩
  obtain ⟨i1, i2⟩ := List.getElem?_eq_some_iff.1 hi
  obtain ⟨j1, j2⟩ := List.getElem?_eq_some_iff.1 hd
  have hn := List.pairwise_iff_getElem.1 h.ddR j i (by simpa using j1) (by simpa using i1) hj
  rw [List.getElem_map, List.getElem_map, i2, j2] at hn
  exact hn (e.trans g2.symm)
def posR (id : Int) : List Ch → Nat
  | [] => 0
  | c :: R => if c.id < id then posR id R + 1 else 0
def insR (x : Ch) (R : List Ch) : List Ch := R.take (posR x.id R) ++ x :: R.drop (posR x.id R)
theorem insR_mem {x : Ch} {R : List Ch} (c : Ch) : c ∈ insR x R ↔ c = x ∨ c ∈ R := by
  unfold insR
  rw [List.mem_append, List.mem_cons]
  have : c ∈ R ↔ c ∈ R.take (posR x.id R) ∨ c ∈ R.drop (posR x.id R) := by
    rw [← List.mem_append, List.take_append_drop]
  rw [this]
  constructor
  · rintro (h | h | h)
    · exact .inr (.inl h)
    · exact .inl h
    · exact .inr (.inr h)
  · rintro (h | h | h)
    · exact .inr (.inl h)
    · exact .inl h
    · exact .inr (.inr h)
theorem insR_up {x : Ch} : ∀ {R : List Ch}, R.Pairwise (fun a b => a.id < b.id) → (∀ c, c ∈ R → c.id ≠ x.id) → (insR x R).Pairwise (fun a b => a.id < b.id)
  | [], _, _ => List.pairwise_singleton _ _
  | d :: R, h, hx => by
    obtain ⟨h1, h2⟩ := List.pairwise_cons.1 h
    have hd := hx d (List.mem_cons_self ..)
    unfold insR posR
    by_cases hc : d.id < x.id
    · rw [if_pos hc]
      show (d :: insR x R).Pairwise _
      refine List.pairwise_cons.2 ⟨fun c hcm => ?_, insR_up h2 fun c hc => hx c (List.mem_cons_of_mem _ hc)⟩
      rcases (insR_mem c).1 hcm with rfl | hcm
      · exact hc
      · exact h1 c hcm
    · rw [if_neg hc]
      show (x :: d :: R).Pairwise _
      refine List.pairwise_cons.2 ⟨fun c hcm => ?_, h⟩
      rcases List.mem_cons.1 hcm with rfl | hcm
      · omega
      · have := h1 c hcm; omega
theorem Rel.add (h : Rel L R) {x : Ch} (hi : gtL L x.id = .none) (hd : fdL L x.data = .none) : Rel (L ++ [x]) (insR x R) := by
  refine ⟨fun c => ?_, insR_up h.up fun c hc => gt_none hi c ((h.mem c).1 hc), ?_, ?_⟩
  · rw [insR_mem, List.mem_append, List.mem_singleton, h.mem]; exact Or.comm
  · rw [List.map_append]
    exact nodup_snoc h.nd fun hm => by obtain ⟨c, c1, c2⟩ := List.mem_map.1 hm; exact gt_none hi c c1 c2
  · rw [List.map_append]
    exact nodup_snoc h.dd fun hm => by obtain ⟨c, c1, c2⟩ := List.mem_map.1 hm; exact fd_none hd c c1 c2
theorem putC_mem {c0 : Ch} : ∀ {L : List Ch} (c : Ch), (L.map Ch.id).Nodup → gtL L c.id = some c0 → ∀ d, d ∈ putC c L ↔ d = c ∨ (d ∈ L ∧ d.id ≠ c.id)
  | [], c, _, hg, _ => by cases hg
  | e :: L, c, hn, hg, d => by
    obtain ⟨n1, n2⟩ := List.nodup_cons.1 hn
    unfold putC
    by_cases he : e.id = c.id
    · have : (e.id == c.id) = true := by simpa using he
      first | rw [if_pos he] | rw [if_pos this] | simp only [he, if_true, this]
      rw [List.mem_cons, List.mem_cons]
      constructor
      · rintro (h | h)
        · exact .inl h
        · refine .inr ⟨.inr h, fun e' => n1 ?_⟩
          rw [he, ← e']; exact List.mem_map.2 ⟨d, h, rfl⟩
      · rintro (h | ⟨h | h, h'⟩)
        · exact .inl h
        · exact absurd (h ▸ he) h'
        · exact .inr h
    · have hb : (e.id == c.id) = false := by simpa using he
      have hg' : gtL L c.id = some c0 := by
        unfold gtL at hg ⊢
        rw [List.find?_cons] at hg
        simpa [hb] using hg
      first | rw [if_neg he] | rw [if_neg (by simpa using he)]
      rw [List.mem_cons, List.mem_cons, putC_mem c n2 hg' d]
      constructor
      · rintro (h | h | ⟨h, h'⟩)
        · exact .inr ⟨.inl h, h ▸ he⟩
        · exact .inl h
        · exact .inr ⟨.inr h, h'⟩
      · rintro (h | ⟨h | h, h'⟩)
        · exact .inr (.inl h)
        · exact .inl h
        · exact .inr (.inr ⟨h, h'⟩)
theorem set_memR {R : List Ch} (hn : (R.map Ch.id).Nodup) {i : Nat} {c0 c : Ch} (hi : R[i]? = some c0) (hc : c0.id = c.id) (d : Ch) : d ∈ R.set i c ↔ d = c ∨ (d ∈ R ∧ d.id ≠ c.id) := by
  obtain ⟨i1, i2⟩ := List.getElem?_eq_some_iff.1 hi
  have hs : R.set i c = R.take i ++ c :: R.drop (i + 1) := by rw [List.set_eq_take_append_cons_drop, if_pos i1]
  have hR : R = R.take i ++ c0 :: R.drop (i + 1) := by rw [← i2, List.getElem_cons_drop, List.take_append_drop]
  have hn' : ((R.take i).map Ch.id ++ c0.id :: (R.drop (i + 1)).map Ch.id).Nodup := by rw [← List.map_cons, ← List.map_append, ← hR]; exact hn
  obtain ⟨_, n2, n3⟩ := List.nodup_append.1 hn'
  obtain ⟨n4, _⟩ := List.nodup_cons.1 n2
  rw [hs, List.mem_append, List.mem_cons]
  have hm : d ∈ R ↔ d ∈ R.take i ∨ d = c0 ∨ d ∈ R.drop (i + 1) := by rw [← List.mem_cons, ← List.mem_append, ← hR]
  rw [hm]
  have a1 : d ∈ R.take i → d.id ≠ c.id := fun h e => n3 d.id (List.mem_map.2 ⟨d, h, rfl⟩) c0.id (List.mem_cons_self ..) (e.trans hc.symm)
  have a2 : d ∈ R.drop (i + 1) → d.id ≠ c.id := fun h e => n4 (by rw [hc, ← e]; exact List.mem_map.2 ⟨d, h, rfl⟩)
  constructor
  · rintro (h | h | h)
    · exact .inr ⟨.inl h, a1 h⟩
    · exact .inl h
    · exact .inr ⟨.inr (.inr h), a2 h⟩
  · rintro (h | ⟨h | h | h, h'⟩)
    · exact .inr (.inl h)
    · exact .inl h
    · exact absurd (h ▸ hc) h'
    · exact .inr (.inr h)
theorem set_ids {R : List Ch} {i : Nat} {c0 c : Ch} (hi : R[i]? = some c0) (hc : c0.id = c.id) : (R.set i c).map Ch.id = R.map Ch.id := by
  rw [List.map_set, ← hc]
  obtain ⟨i1, i2⟩ := List.getElem?_eq_some_iff.1 hi
  rw [← i2, show R[i].id = (R.map Ch.id)[i]'(by simpa using i1) by simp, List.set_getElem_self]
theorem pw_ids {R R' : List Ch} (h : R'.map Ch.id = R.map Ch.id) (hu : R.Pairwise (fun a b => a.id < b.id)) : R'.Pairwise (fun a b => a.id < b.id) := by
  have h1 : (R.map Ch.id).Pairwise (· < ·) := List.pairwise_map.2 hu
  rw [← h] at h1
  exact List.pairwise_map.1 h1
theorem Rel.upd (h : Rel L R) {c c0 : Ch} (hg : gtL L c.id = some c0) (hd : c0.data = c.data) {i : Nat} (hi : R[i]? = some c0) : Rel (putC c L) (R.set i c) := by
  have hc0 := (gt_some hg).2
  obtain ⟨p1, p2, _, _⟩ := putC_upd c hg hd
  refine ⟨fun d => ?_, pw_ids (set_ids hi hc0) h.up, by rw [p1]; exact h.nd, by rw [p2]; exact h.dd⟩
  rw [putC_mem c h.nd hg, set_memR h.ndR hi hc0, h.mem]
theorem Rel.cut (h : Rel L R) {id : Int} {c : Ch} (hg : gtL L id = some c) {i : Nat} (hi : R[i]? = some c) : Rel (cutC id L) (R.eraseIdx i) := by
  have hid := (gt_some hg).2
  obtain ⟨i1, i2⟩ := List.getElem?_eq_some_iff.1 hi
  have hR : R = R.take i ++ c :: R.drop (i + 1) := by rw [← i2, List.getElem_cons_drop, List.take_append_drop]
  have hn' : ((R.take i).map Ch.id ++ c.id :: (R.drop (i + 1)).map Ch.id).Nodup := by rw [← List.map_cons, ← List.map_append, ← hR]; exact h.ndR
  obtain ⟨_, n2, n3⟩ := List.nodup_append.1 hn'
  obtain ⟨n4, _⟩ := List.nodup_cons.1 n2
  have hsub := List.eraseIdx_sublist R i
  have hcs := cutC_sub id L
  refine ⟨fun d => ?_, h.up.sublist hsub, h.nd.sublist (hcs.map Ch.id), h.dd.sublist (hcs.map Ch.data)⟩
  rw [cutC_mem h.nd, ← h.mem, List.eraseIdx_eq_take_drop_succ, List.mem_append]
  have hm : d ∈ R ↔ d ∈ R.take i ∨ d = c ∨ d ∈ R.drop (i + 1) := by rw [← List.mem_cons, ← List.mem_append, ← hR]
  rw [hm]
  have a1 : d ∈ R.take i → d.id ≠ id := fun h e => n3 d.id (List.mem_map.2 ⟨d, h, rfl⟩) c.id (List.mem_cons_self ..) (e.trans hid.symm)
  have a2 : d ∈ R.drop (i + 1) → d.id ≠ id := fun h e => n4 (by rw [hid, ← e]; exact List.mem_map.2 ⟨d, h, rfl⟩)
  constructor
  · rintro (h | h)
    · exact ⟨.inl h, a1 h⟩
    · exact ⟨.inr (.inr h), a2 h⟩
  · rintro ⟨h | h | h, h'⟩
    · exact .inl h
    · exact absurd (h ▸ hid) h'
    · exact .inr h
end
end Go.Proofs.Ytlfednnfkejcjaa

namespace Go.Proofs.Ytlfednnfkejcjaa
open Go.Am
set_option maxRecDepth 10000
def blkOf : AV → Nat → Prop
  | .slice (some (b, _)) _ _ _, c => b = c
  | _, _ => False
theorem ld_part {h : Heap} {b o n : Nat} {vs : List AV} (hl : h.ld b o n = some vs) {i k : Nat} (hi : i + k ≤ n) : h.ld b (o + i) k = some ((vs.drop i).take k) := by
  obtain ⟨t, z, m, ro, h1, h2, h3, h4⟩ := ld_some hl
  unfold Heap.ld Heap.cells
  rw [h1]
  show (Bool.rec (motive := fun _ => Option (List AV)) none (loadC t z k (o + i)) (Nat.ble (o + i + k) m) : Option (List AV)) = _
  rw [show Nat.ble (o + i + k) m = true from Nat.ble_eq_true_of_le (by omega)]
  have hlen : ((vs.drop i).take k).length = k := by simp; omega
  have := Go.Am.loadC_of (t := t) (z := z) (vs := (vs.drop i).take k) (i := o + i) fun j hj => by
    rw [hlen] at hj
    rw [show o + i + j = o + (i + j) by omega, h4 _ (by omega), List.getElem?_take_of_lt hj, List.getElem?_drop]
  rw [hlen] at this
  exact this
theorem elsR_sm {F : Nat → Prop} {h h' : Heap} {v : AV} {n s : Nat} {cs : List AV} (hi : ElsR h v n s cs) (hs : Sm F h h') (hF : ∀ b, blkOf v b → ¬ F b) : ElsR h' v n s cs := by
  obtain ⟨h0, a, c, g, rfl, h1, h2⟩ := hi
  refine ⟨h0, a, c, g, rfl, h1, fun b o e => ?_⟩
  subst e
  obtain ⟨g1, g2⟩ := h2 b o rfl
  refine ⟨Nat.lt_of_lt_of_le g1 hs.1, fun hn => ?_⟩
  rw [← g2 hn]
  unfold Heap.ld Heap.cells
  rw [hs.2 b g1 (hF b rfl)]
theorem elsR_lt {h : Heap} {v : AV} {n s : Nat} {cs : List AV} (hi : ElsR h v n s cs) {b : Nat} (hb : blkOf v b) : b < h.next := by
  obtain ⟨h0, a, c, g, rfl, h1, h2⟩ := hi
  cases a with
  | none => exact hb.elim
  | some p => have : p.1 = b := hb; rw [← this]; exact (h2 p.1 p.2 rfl).1
theorem els_sm {F : Nat → Prop} {h h' : Heap} {v : AV} {n s : Nat} {cs : List AV} (hi : Els h v n s cs) (hs : Sm F h h') (hF : ∀ b, blkOf v b → ¬ F b) : Els h' v n s cs := by
  obtain ⟨h0, a, c, g, rfl, h1, h2⟩ := hi
  refine ⟨h0, a, c, g, rfl, h1, fun b o e => ?_⟩
  subst e
  obtain ⟨g1, g2⟩ := h2 b o rfl
  refine ⟨Nat.lt_of_lt_of_le g1 hs.1, ?_⟩
  rw [← g2]
  unfold Heap.ld Heap.cells
  rw [hs.2 b g1 (hF b rfl)]
theorem slo_blk {e s : Nat} {h : Heap} {v : AV} {n : Nat} {cs : List AV} {bs : List Nat} (ho : SlO e s h v n cs bs) {b : Nat} (hb : blkOf v b) : b ∈ bs := by
  rcases ho with ⟨rfl, _⟩ | ⟨b', c, _, _, rfl, _, _, _, _, _, rfl, _⟩
  · exact hb.elim
  · have : b' = b := hb; rw [this]; exact List.mem_singleton.2 rfl
theorem els_pre {h : Heap} {a : Option (Nat × Nat)} {n c s : Nat} {g : Option Nat} {cs : List AV} (hv : Els h (.slice a n c g) n s cs) {k c' : Nat} {g' : Option Nat} (hk : k ≤ n) :
    srcOf s (fun n => n) (.slice (a.map fun p => (p.1, p.2 + 0 * s)) (k - 0) c' g') h = some (cs.take (k * s), k) := by
  obtain ⟨h0, a', c1, g1, e, h1, h2⟩ := hv
  cases e
  cases a with
  | none =>
    obtain rfl : k = 0 := by have := h1 rfl; omega
    rw [Nat.zero_mul, List.take_zero]; rfl
  | some p =>
    show srcOf s (fun n => n) (.slice (some (p.1, p.2 + 0 * s)) (k - 0) c' g') h = _
    rw [srcOf_at, Nat.sub_zero]
    by_cases h0' : k = 0
    · subst h0'; rw [if_pos rfl, Nat.zero_mul, List.take_zero]
    · have hle := Nat.mul_le_mul_right s hk
      have := ld_part (h2 p.1 p.2 rfl).2 (i := 0) (k := k * s) (by omega)
      rw [if_neg h0']
      show (match h.ld p.1 (p.2 + 0 * s) (k * s) with | none => none | some vs => some (vs, k)) = _
      rw [Nat.zero_mul, this, List.drop_zero]
def Ch.rc (x : Ch) : List AV := [.int .u32 x.id, .str x.data, .int .i64 x.block, .int .i64 x.refs]
abbrev csR (L : List Ch) : List AV := L.flatMap Ch.rc
theorem csR_get : ∀ (L : List Ch) (i : Nat) (h : i < L.length) (f : Nat), f < 4 → (csR L)[i * 4 + f]? = (L[i].rc)[f]?
  | x :: L, 0, h, f, hf => by show (Ch.rc x ++ csR L)[0 * 4 + f]? = _; rw [List.getElem?_append_left (by simp [Ch.rc]; omega), Nat.zero_mul, Nat.zero_add]; rfl
  | x :: L, i + 1, h, f, hf => by
    show (Ch.rc x ++ csR L)[(i + 1) * 4 + f]? = _
    rw [List.getElem?_append_right (by simp [Ch.rc]; omega), show (i + 1) * 4 + f - (Ch.rc x).length = i * 4 + f by simp [Ch.rc]; omega]
    exact csR_get L i (by simpa using h) f hf
def Rz : Ch := ⟨0, [], 0, 0⟩
def Ri (L : List Ch) (i : Nat) : Ch := L.getD i Rz
theorem Ri_at {L : List Ch} {i : Nat} (h : i < L.length) : Ri L i = L[i] := by simp [Ri, List.getD_eq_getElem?_getD, List.getElem?_eq_getElem h]
def Chs (h : Heap) (v : AV) (L : List Ch) : Prop := ElsR h v L.length 4 (csR L)
section
variable {h h' : Heap} {v : AV} {L : List Ch}
theorem Chs.sl (hi : Chs h v L) : ∃ a c g, v = .slice a L.length c g := by
  obtain ⟨_, a, c, g, e, _⟩ := hi
  exact ⟨a, c, g, e⟩
theorem Chs.sm {F : Nat → Prop} (hi : Chs h v L) (hs : Sm F h h') (hF : ∀ b, blkOf v b → ¬ F b) : Chs h' v L := elsR_sm hi hs hF
theorem Chs.lt (hi : Chs h v L) {b : Nat} (hb : blkOf v b) : b < h.next := elsR_lt hi hb
theorem Chs.at {a : Option (Nat × Nat)} {c : Nat} {g : Option Nat} (hi : Chs h (.slice a L.length c g) L) {i : Nat} (hl : i < L.length) :
    ∃ b o, a = some (b, o) ∧ h.ld1 b (o + i * 4) = some (.int .u32 (Ri L i).id) ∧ h.ld1 b (o + i * 4 + 1) = some (.str (Ri L i).data) ∧ h.ld1 b (o + i * 4 + 2) = some (.int .i64 (Ri L i).block) ∧ h.ld1 b (o + i * 4 + 3) = some (.int .i64 (Ri L i).refs) ∧ h.ld b (o + i * 4) 4 = some (Ri L i).rc := by
  obtain ⟨h0, a', c', g', e, h1, h2⟩ := hi
  cases e
  cases a with
  | none => have := h1 rfl; omega
  | some p =>
    have hld := (h2 p.1 p.2 rfl).2 (by omega)
    have hc := (ld_ld1 hld).2
    have hp := ld_part hld (i := i * 4) (k := 4) (by omega)
    refine ⟨p.1, p.2, rfl, ?_, ?_, ?_, ?_, ?_⟩
    · rw [hc _ (by omega)]; rw [Ri_at hl]; exact (csR_get L i hl 0 (by omega))
    · rw [Nat.add_assoc]; rw [hc _ (by omega)]; rw [Ri_at hl]; exact (csR_get L i hl 1 (by omega))
    · rw [Nat.add_assoc]; rw [hc _ (by omega)]; rw [Ri_at hl]; exact (csR_get L i hl 2 (by omega))
    · rw [Nat.add_assoc]; rw [hc _ (by omega)]; rw [Ri_at hl]; exact (csR_get L i hl 3 (by omega))
    · rw [hp]; congr 1
      apply List.ext_getElem?
      intro f
      rw [Ri_at hl]
      by_cases hf : f < 4
      · rw [List.getElem?_take_of_lt hf, List.getElem?_drop]; exact csR_get L i hl f hf
      · rw [List.getElem?_eq_none (by simp; omega), List.getElem?_eq_none (by simp [Ch.rc]; omega)]
end
structure RefAt (h : Heap) (rb : Nat) (R : List Ch) (next : Int) (bs : List Nat) : Prop where
  ex : ∃ v, Rw h rb [v, u next] [] false ∧ SlO 114 4 h v R.length (csR R) bs
  lt : rb < h.next
  nb : rb ∉ bs
theorem RefAt.sm {h h' : Heap} {rb : Nat} {R : List Ch} {next : Int} {bs : List Nat} {G : Nat → Prop} (hr : RefAt h rb R next bs) (hs : Sm G h h') (h1 : ¬ G rb) (h2 : ∀ b, b ∈ bs → ¬ G b) : RefAt h' rb R next bs := by
  obtain ⟨v, r, o⟩ := hr.ex
  exact ⟨⟨v, r.sm hs hr.lt h1, o.sm hs h2⟩, Nat.lt_of_lt_of_le hr.lt hs.1, hr.nb⟩
theorem RefAt.no {h h' : Heap} {rb : Nat} {R : List Ch} {next : Int} {bs : List Nat} (hr : RefAt h rb R next bs) (hs : Sm NoB h h') : RefAt h' rb R next bs := hr.sm hs (fun h => h) (fun _ _ h => h)
def RefF (rb : Nat) (bs : List Nat) : Nat → Prop := fun b => b = rb ∨ b ∈ bs
theorem RefAt.flt {h : Heap} {rb : Nat} {R : List Ch} {next : Int} {bs : List Nat} (hr : RefAt h rb R next bs) : ∀ b, RefF rb bs b → b < h.next := by
  rintro b (rfl | hb)
  · exact hr.lt
  · obtain ⟨v, _, o⟩ := hr.ex
    exact o.lt b hb
end Go.Proofs.Ytlfednnfkejcjaa

namespace Go.Proofs.Ytlfednnfkejcjaa
open Go.Am
set_option maxRecDepth 10000
section
variable {L R : List Ch}
end
end Go.Proofs.Ytlfednnfkejcjaa

namespace Go.Proofs.Ytlfednnfkejcjaa
open Go.Am
set_option maxRecDepth 10000
section
variable {h : Heap} {rb : Nat} {R L : List Ch} {next : Int} {bs : List Nat}
end
end Go.Proofs.Ytlfednnfkejcjaa

namespace Go.Proofs.Ytlfednnfkejcjaa
open Go.Am
set_option maxRecDepth 10000
theorem call_prim {P : Program} {keep : Keeps} {prims : Prims} {lf n : Nat} {f : FuncId} {args : List AV} {h : Heap} {r : Res} (hp : prims.fn f args h = some r) : callN P keep prims lf (n + 1) (.fn f) args h = r := by
  show (Option.rec (motive := fun _ => Res) _ (fun r => r) (prims.fn f args h) : Res) = r
  rw [hp]
theorem bornB_mk {clock : Nat} : ∀ {es : List MEnt}, bornOk es clock → bornB clock es = true
  | [], _ => rfl
  | e :: es, h => by
    obtain ⟨p1, p2⟩ := List.pairwise_cons.1 h.2
    have hin : ∀ l : List MEnt, (∀ d, d ∈ l → e.born ≠ d.born) → bornIn e.born l = true := by
      intro l
      induction l with
      | nil => intro _; rfl
      | cons d l ih =>
        intro hd
        show and' (notB (Nat.beq e.born d.born)) (bornIn e.born l) = true
        have h1 := hd d (List.mem_cons_self ..)
        have h2 : Nat.beq e.born d.born = false := by
          cases hb : Nat.beq e.born d.born with
          | false => rfl
          | true => exact absurd (Nat.eq_of_beq_eq_true hb) h1
        rw [h2, and'_eq, ih fun x hx => hd x (List.mem_cons_of_mem _ hx)]; rfl
    show and' (and' (Nat.ble (e.born + 1) clock) (bornIn e.born es)) (bornB clock es) = true
    rw [show Nat.ble (e.born + 1) clock = true from Nat.ble_eq_true_of_le (h.1 e (List.mem_cons_self ..)), hin es p1, bornB_mk ⟨fun x hx => h.1 x (List.mem_cons_of_mem _ hx), p2⟩]; rfl
theorem fine_u {es : List MEnt} (h : AllInt .u32 es) : fineB suFine es = true := by
  induction es with
  | nil => rfl
  | cons e es ih =>
    obtain ⟨n, hn⟩ := h e (List.mem_cons_self ..)
    show and' (suFine e.key) (fineB suFine es) = true
    rw [hn, ih fun x hx => h x (List.mem_cons_of_mem _ hx)]; rfl
theorem sort_nil0 : ∃ r, SC 41 (.fn 102) [.slice none 0 0 none] ⟨.leaf, 0⟩ = some r := ⟨(.tuple [], ⟨.leaf, 0⟩), by kernel_rfl⟩
theorem Ents.keys {es : List MEnt} {L : List Ch} (h : Ents es L) : es.map (·.key) = (L.map Ch.id).map en := by
  have := congrArg (List.map Prod.fst) h
  simp only [List.map_map] at this
  rw [List.map_map]
  exact this
theorem skeys_ok {m : Nat} (hm : 1 ≤ m) {h : Heap} {cb mb k : Nat} {es : List MEnt} {L R : List Ch} (hc : h.ld1 cb 0 = some (.map (some mb))) (hmb : h.bs.gt mb = some (.map es k)) (he : EntsB k es L) (hr : Rel L R) (hl : L.length ≤ 1000) :
    C m (.fn 88) [.func (.func 103) [] [.ptr (some (cb, 0))]] h = some (if R = [] then (.slice none 0 0 none, h) else (.slice (some (h.next, 0)) R.length R.length (some 1), h.new h.next (.cells (fillC ((R.map Ch.id).map u) .leaf 0) [] ((R.map Ch.id).map u).length false))) := by
  obtain ⟨m, rfl⟩ : ∃ m', m = m' + 1 := ⟨m - 1, by omega⟩
  have hsr := sortedR_ok (n := 41) (by decide) (gs := [103]) (bs := 4) (fine := suFine) (g := 103) (l := L.map Ch.id) rfl hc hmb he.e.keys (bornB_mk he.b) (fine_u he.e.all) (room_le (by rw [List.length_map]; omega) (by rw [List.length_map]; omega)) (by rw [List.length_map]; omega) sort_nil0
  rw [hr.sortIds] at hsr
  have hp : prW.fn 88 [.func (.func 103) [] [.ptr (some (cb, 0))]] h = some (sortedR (SC 41) 102 [103] 1 4 ltU suFine (.func (.func 103) [] [.ptr (some (cb, 0))]) h) := rfl
  refine (call_prim (P := P) (keep := keepF P) (lf := 100000) hp).trans ?_
  rw [hsr]
  congr 1
  have hlen : (L.map Ch.id).length = R.length := by rw [List.length_map, hr.len]
  by_cases e : R = []
  · have eL : L.map Ch.id = [] := by rw [List.eq_nil_iff_length_eq_zero, hlen, e]; rfl
    rw [if_pos e, if_pos eL]
  · have eL : ¬ L.map Ch.id = [] := fun h' => e (List.eq_nil_of_length_eq_zero (by rw [← hlen, h']; rfl))
    rw [if_neg e, if_neg eL, hlen]
section
variable {h : Heap} {tb : Nat} {L R : List Ch} {next : Int} {F : Nat → Prop}
theorem TabAt.ok (ht : TabAt h tb L next F) : ∃ B, TabOk L next B := by obtain ⟨_, _, _, _, B, _, _, _, _, _, t5, _⟩ := ht.ex; exact ⟨B, t5⟩
theorem TabAt.nxt (ht : TabAt h tb L next F) : h.ld1 tb 2 = some (u next) := by
  obtain ⟨mb, x, es, k, B, X, t1, _⟩ := ht.ex
  rw [t1.ld1]; rfl
theorem tmay_full {n : Nat} (hn : 5 ≤ n) (ht : TabAt h tb L next F) {s : List Nat} (hl : s.length ≤ 1000) (hb : Byts s) :
    WC (C n (.fn 56) [.ptr (some (tb, 0)), .str s] h) fun r h' => Sm NoB h h' ∧ ((s.length < 1 ∨ 64 < s.length) ∧ r = .int .i64 4 ∨ ¬ (s.length < 1 ∨ 64 < s.length) ∧ ((∃ c, fdL L s = some c) ∧ r = .int .i64 6 ∨ fdL L s = none ∧ r = .int .i64 0)) := by
  obtain ⟨m, rfl⟩ : ∃ m, n = m + 1 := ⟨n - 1, by omega⟩
  refine call_fn _ f56A rfl (by simp [fn56]) fun QQ hQ => ?_
  simp only [fn56] at hQ
  simp only [fn56, fill_cons, fill_nil, Nat.zero_add, Nat.reduceAdd]
  by_cases c0 : s = []
  · subst c0
    simp only [F56, SS, Nat.reduceBEq, Nat.reduceEqDiff, Nat.reduceAdd, reduceIte, Nat.reduceMul, w_undef]
    refine hQ _ _ _ _ (.inr rfl) (by simp only [SS, Nat.reduceBEq]) (by simp only [SS, Nat.reduceBEq, Nat.reduceEqDiff, Nat.reduceAdd, reduceIte, Nat.reduceMul]; rfl) ?_
    exact ⟨Sm.refl _ _, .inl ⟨.inl (by simp), rfl⟩⟩
  have hpos : 1 ≤ s.length := by cases s with | nil => exact absurd rfl c0 | cons _ _ => simp
  by_cases c1 : 64 < s.length
  · have d1 : (64 : Int) < (s.length : Int) := by omega
    simp only [F56, x_len_9, c0, d1, SS, Nat.reduceBEq, Nat.reduceEqDiff, Nat.reduceAdd, reduceIte, Nat.reduceMul, w_undef]
    refine hQ _ _ _ _ (.inr rfl) (by simp only [SS, Nat.reduceBEq]) (by simp only [SS, Nat.reduceBEq, Nat.reduceEqDiff, Nat.reduceAdd, reduceIte, Nat.reduceMul]; rfl) ?_
    exact ⟨Sm.refl _ _, .inl ⟨.inr c1, rfl⟩⟩
  have d1 : ¬ (64 : Int) < (s.length : Int) := by omega
  obtain ⟨_, h1, ea, s1, rfl⟩ := tFind_ok (n := m) (by omega) ht (s := s) hl hb
  cases hd : fdL L s with
  | some c =>
    rw [hd] at ea
    simp only [F56, x_len_9, c0, d1, ea, SS, Nat.reduceBEq, Nat.reduceEqDiff, Nat.reduceAdd, reduceIte, Nat.reduceMul, w_undef]
    refine hQ _ _ _ _ (.inr rfl) (by simp only [SS, Nat.reduceBEq]) (by simp only [SS, Nat.reduceBEq, Nat.reduceEqDiff, Nat.reduceAdd, reduceIte, Nat.reduceMul]; rfl) ?_
    exact ⟨s1, .inr ⟨by omega, .inl ⟨⟨c, hd⟩, rfl⟩⟩⟩
  | none =>
    rw [hd] at ea
    simp only [F56, x_len_9, c0, d1, ea, SS, Nat.reduceBEq, Nat.reduceEqDiff, Nat.reduceAdd, reduceIte, Nat.reduceMul, w_undef]
    refine hQ _ _ _ _ (.inr rfl) (by simp only [SS, Nat.reduceBEq]) (by simp only [SS, Nat.reduceBEq, Nat.reduceEqDiff, Nat.reduceAdd, reduceIte, Nat.reduceMul]; rfl) ?_
    exact ⟨s1, .inr ⟨by omega, .inr ⟨hd, rfl⟩⟩⟩
theorem tnoid (ht : TabAt h tb L next F) : gtL L next = none := by
  obtain ⟨B, t5⟩ := ht.ok
  cases hg : gtL L next with
  | none => rfl
  | some c => obtain ⟨g1, g2⟩ := gt_some hg; have := (t5.ch c g1).2.1; omega
theorem tadd_full {n : Nat} (hn : 6 ≤ n) (ht : TabAt h tb L next F) {s : List Nat} (block : Int) (hl : s.length ≤ 1000) (hb : Byts s) (hlen : L.length ≤ 1000) :
    WC (C n (.fn 17) [.ptr (some (tb, 0)), .str s, .int .i64 block] h) fun r h' =>
      (s.length < 1 ∨ 64 < s.length) ∧ r = .tuple [u 0, .int .i64 4] ∧ Sm NoB h h' ∨ ¬ (s.length < 1 ∨ 64 < s.length) ∧ ((∃ c, fdL L s = some c) ∧ r = .tuple [u 0, .int .i64 6] ∧ Sm NoB h h' ∨ fdL L s = none ∧ (next = 4294967295 ∧ r = .tuple [u 0, .int .i64 12] ∧ Sm NoB h h' ∨
        next ≠ 4294967295 ∧ r = .tuple [u next, .int .i64 0] ∧ ∃ F', TabAt h' tb (L ++ [⟨next, s, block, 1⟩]) (next + 1) F' ∧ Sm F h h' ∧ ∀ b, F' b → F b ∨ h.next ≤ b)) := by
  by_cases good : ¬ (s.length < 1 ∨ 64 < s.length) ∧ fdL L s = none ∧ next ≠ 4294967295
  · obtain ⟨c1, c2, c3⟩ := good
    obtain ⟨r, h', e, rfl, F', t1, t2, t3⟩ := tadd_ok hn ht block (by omega) (by omega) hb c2 c3 (by omega)
    exact ⟨_, h', e, .inr ⟨c1, .inr ⟨c2, .inr ⟨c3, rfl, F', t1, t2, t3⟩⟩⟩⟩
  obtain ⟨m, rfl⟩ : ∃ m, n = m + 1 := ⟨n - 1, by omega⟩
  refine call_fn _ f17A rfl (by simp [fn17]) fun QQ hQ => ?_
  simp only [fn17] at hQ
  simp only [fn17, fill_cons, fill_nil, Nat.zero_add, Nat.reduceAdd]
  obtain ⟨_, h1, eb, s1, hcase⟩ := tmay_full (n := m) (by omega) ht hl hb
  obtain ⟨_, h0, ea, e0, rfl⟩ := tis_ok (n := m) (by omega) ht
  subst e0
  have ht1 := ht.sm s1 (fun _ _ h => h)
  rcases hcase with ⟨c1, rfl⟩ | ⟨c1, ⟨c2, rfl⟩ | ⟨c2, rfl⟩⟩
  · simp only [F17, ea, eb, SS, Nat.reduceBEq, Nat.reduceEqDiff, Nat.reduceAdd, reduceIte, Nat.reduceMul]
    refine hQ _ _ _ _ (.inr rfl) (by simp only [SS, Nat.reduceBEq]) (by simp only [SS, Nat.reduceBEq, Nat.reduceEqDiff, Nat.reduceAdd, reduceIte, Nat.reduceMul]; rfl) ?_
    exact .inl ⟨c1, rfl, s1⟩
  · simp only [F17, ea, eb, SS, Nat.reduceBEq, Nat.reduceEqDiff, Nat.reduceAdd, reduceIte, Nat.reduceMul]
    refine hQ _ _ _ _ (.inr rfl) (by simp only [SS, Nat.reduceBEq]) (by simp only [SS, Nat.reduceBEq, Nat.reduceEqDiff, Nat.reduceAdd, reduceIte, Nat.reduceMul]; rfl) ?_
    exact .inr ⟨c1, .inl ⟨c2, rfl, s1⟩⟩
  · by_cases c3 : next = 4294967295
    · have l2 := ht1.nxt
      simp only [F17, ea, eb, x_fa_87_2, l2, c3, SS, Nat.reduceBEq, Nat.reduceEqDiff, Nat.reduceAdd, reduceIte, Nat.reduceMul]
      refine hQ _ _ _ _ (.inr rfl) (by simp only [SS, Nat.reduceBEq]) (by simp only [SS, Nat.reduceBEq, Nat.reduceEqDiff, Nat.reduceAdd, reduceIte, Nat.reduceMul]; rfl) ?_
      exact .inr ⟨c1, .inr ⟨c2, .inl ⟨c3, rfl, s1⟩⟩⟩
    · exact absurd ⟨c1, c2, c3⟩ good
theorem tnext_ok {n : Nat} (hn : 2 ≤ n) (ht : TabAt h tb L next F) : WC (C n (.fn 38) [.ptr (some (tb, 0))] h) fun r h' => h' = h ∧ r = u next := by
  obtain ⟨m, rfl⟩ : ∃ m, n = m + 1 := ⟨n - 1, by omega⟩
  refine call_fn _ f38A rfl (by simp [fn38]) fun QQ hQ => ?_
  simp only [fn38] at hQ
  simp only [fn38, fill_cons, fill_nil, Nat.zero_add, Nat.reduceAdd]
  obtain ⟨_, h0, ea, e0, rfl⟩ := tis_ok (n := m) (by omega) ht
  subst e0
  have l2 := ht.nxt
  simp only [F38, ea, x_fa_87_2, l2, SS, Nat.reduceBEq, Nat.reduceEqDiff, Nat.reduceAdd, reduceIte, Nat.reduceMul]
  refine hQ _ _ _ _ (.inr rfl) (by simp only [SS, Nat.reduceBEq]) (by simp only [SS, Nat.reduceBEq, Nat.reduceEqDiff, Nat.reduceAdd, reduceIte, Nat.reduceMul]; rfl) ?_
  exact ⟨rfl, rfl⟩
theorem tskip_ok {n : Nat} (hn : 2 ≤ n) (ht : TabAt h tb L next F) (x : Int) (hx : 0 ≤ x ∧ x ≤ 4294967295) : WC (C n (.fn 37) [.ptr (some (tb, 0)), u x] h) fun r h' => TabAt h' tb L (max next x) F ∧ Sm F h h' := by
  obtain ⟨m, rfl⟩ : ∃ m, n = m + 1 := ⟨n - 1, by omega⟩
  refine call_fn _ f37A rfl (by simp [fn37]) fun QQ hQ => ?_
  simp only [fn37] at hQ
  simp only [fn37, fill_cons, fill_nil, Nat.zero_add, Nat.reduceAdd]
  obtain ⟨_, h0, ea, e0, rfl⟩ := tis_ok (n := m) (by omega) ht
  subst e0
  have l2 := ht.nxt
  have hlt := ht.lt
  obtain ⟨mb, xx, es, k, B, X, t1, t2, t3, t4, t5, hmb, hne, hx1, hx2, rfl⟩ := ht.ex
  obtain ⟨w1, w2, w3, w4⟩ := t1.st1 (o := 2) (v := u (max next x)) (by simp) rfl
  rw [show ([.map (some mb), .ptr (some (xx, 0)), u next] : List AV).set 2 (u (max next x)) = [.map (some mb), .ptr (some (xx, 0)), u (max next x)] from rfl] at w2
  simp only [F37, ea, x_fa_87_2, l2, w1, SS, Nat.reduceBEq, Nat.reduceEqDiff, Nat.reduceAdd, reduceIte, Nat.reduceMul]
  refine hQ _ _ _ _ (.inl rfl) (by simp only [SS, Nat.reduceBEq]) (by simp only [SS, Nat.reduceBEq, Nat.reduceEqDiff, Nat.reduceAdd, reduceIte, Nat.reduceMul]; rfl) ?_
  have hnx := t5.next
  have hs : Sm (· = tb) h0 (h0.wr tb 2 [u (max next x)]) := ⟨by omega, fun c _ hc => w4 c hc⟩
  refine ⟨⟨⟨mb, xx, es, k, B, X, w2, (w4 mb (fun e => hne e.symm)).trans t2, t3, t4.sm hs (fun b hb e => hx1 (e ▸ hb)), ⟨t5.ids, t5.datas, fun c hc => ?_, by omega, t5.inB, t5.ofB, t5.ndB, t5.len⟩, by omega, hne, hx1, hx2, rfl⟩, by omega⟩, hs.mono fun c _ hc => .inl hc⟩
  have := t5.ch c hc
  refine ⟨this.1, by omega, this.2.2⟩
end
end Go.Proofs.Ytlfednnfkejcjaa

namespace Go.Proofs.Ytlfednnfkejcjaa
open Go.Am
set_option maxRecDepth 10000
section
variable {h : Heap} {tb : Nat} {L R : List Ch} {next : Int} {F : Nat → Prop}
theorem hold_full {n : Nat} (hn : 3 ≤ n) (ht : TabAt h tb L next F) (id : Int) :
    WC (C n (.fn 16) [.ptr (some (tb, 0)), u id] h) fun r h' => gtL L id = none ∧ r = .int .i64 5 ∧ Sm NoB h h' ∨ ∃ c, gtL L id = some c ∧ (c.refs = 65535 ∧ r = .int .i64 12 ∧ Sm NoB h h' ∨
      c.refs ≠ 65535 ∧ r = .int .i64 0 ∧ TabAt h' tb (putC { c with refs := c.refs + 1 } L) next F ∧ Sm F h h') := by
  obtain ⟨B, t5⟩ := ht.ok
  by_cases good : ∃ c, gtL L id = some c ∧ c.refs ≠ 65535
  · obtain ⟨c, hg, hr⟩ := good
    have := (t5.ch c (gt_some hg).1)
    obtain ⟨r, h', e, rfl, t1, t2⟩ := hold_ok hn ht hg (by omega)
    exact ⟨_, h', e, .inr ⟨c, hg, .inr ⟨hr, rfl, t1, t2⟩⟩⟩
  obtain ⟨m, rfl⟩ : ∃ m, n = m + 1 := ⟨n - 1, by omega⟩
  refine call_fn _ f16A rfl (by simp [fn16]) fun QQ hQ => ?_
  simp only [fn16] at hQ
  simp only [fn16, fill_cons, fill_nil, Nat.zero_add, Nat.reduceAdd]
  obtain ⟨_, h1, ea, s1, rfl⟩ := tfind_ok (n := m) (by omega) ht id
  obtain ⟨h2, e2, r2, n2, g2⟩ := Rw.alloc h1 (id := h1.next) (n := 3) (vs := [.str [], .int .i64 0, .int .i64 0]) (z := tyMark 91 true) (ro := false) (Nat.le_refl _) rfl
  cases hg : gtL L id with
  | none =>
    rw [hg] at ea
    unfold zCh at ea
    obtain ⟨w1, w2, w3, w4⟩ := r2.sto (o := 0) (us := [.str [], .int .i64 0, .int .i64 0]) (by simp) rfl
    simp only [F16, ea, x_al_91, e2, w1, SS, Nat.reduceBEq, Nat.reduceEqDiff, Nat.reduceAdd, reduceIte, Nat.reduceMul]
    refine hQ _ _ _ _ (.inr rfl) (by simp only [SS, Nat.reduceBEq]) (by simp only [SS, Nat.reduceBEq, Nat.reduceEqDiff, Nat.reduceAdd, reduceIte, Nat.reduceMul]; rfl) ?_
    have := s1.1
    exact .inl ⟨hg, rfl, ⟨by omega, fun b hb hF => by rw [w4 b (by omega), g2 b (by omega), s1.2 b hb hF]⟩⟩
  | some c =>
    rw [hg] at ea
    unfold Ch.val at ea
    have hr : c.refs = 65535 := Classical.byContradiction fun h9 => good ⟨c, hg, h9⟩
    obtain ⟨w1, w2, w3, w4⟩ := r2.sto (o := 0) (us := [.str c.data, .int .i64 c.block, .int .i64 65535]) (by simp) rfl
    rw [full3 _ _ rfl rfl] at w2
    simp only [hr] at ea
    simp only [F16, ea, x_al_91, e2, w1, x_fa_91_2, w2.ld1, SS, Nat.reduceBEq, Nat.reduceEqDiff, Nat.reduceAdd, reduceIte, Nat.reduceMul]
    refine hQ _ _ _ _ (.inr rfl) (by simp only [SS, Nat.reduceBEq]) (by simp only [SS, Nat.reduceBEq, Nat.reduceEqDiff, Nat.reduceAdd, reduceIte, Nat.reduceMul]; rfl) ?_
    have := s1.1
    exact .inr ⟨c, hg, .inl ⟨hr, rfl, ⟨by omega, fun b hb hF => by rw [w4 b (by omega), g2 b (by omega), s1.2 b hb hF]⟩⟩⟩
theorem release_full {n : Nat} (hn : 4 ≤ n) (ht : TabAt h tb L next F) (id : Int) :
    WC (C n (.fn 15) [.ptr (some (tb, 0)), u id] h) fun r h' => gtL L id = none ∧ r = .tuple [.bool false, .int .i64 5] ∧ Sm NoB h h' ∨ ∃ c, gtL L id = some c ∧ Sm F h h' ∧ (1 < c.refs ∧ r = .tuple [.bool false, .int .i64 0] ∧ TabAt h' tb (putC { c with refs := c.refs - 1 } L) next F ∨
      ¬ 1 < c.refs ∧ r = .tuple [.bool true, .int .i64 0] ∧ ∃ F', TabAt h' tb (cutC id L) next F' ∧ ∀ b, F' b → F b) := by
  by_cases good : ∃ c, gtL L id = some c
  · obtain ⟨c, hg⟩ := good
    obtain ⟨r, h', e, s1, hc⟩ := release_ok hn ht hg
    by_cases c1 : 1 < c.refs
    · rw [if_pos c1] at hc
      exact ⟨_, h', e, .inr ⟨c, hg, s1, .inl ⟨c1, hc⟩⟩⟩
    · rw [if_neg c1] at hc
      exact ⟨_, h', e, .inr ⟨c, hg, s1, .inr ⟨c1, hc⟩⟩⟩
  obtain ⟨m, rfl⟩ : ∃ m, n = m + 1 := ⟨n - 1, by omega⟩
  refine call_fn _ f15A rfl (by simp [fn15]) fun QQ hQ => ?_
  simp only [fn15] at hQ
  simp only [fn15, fill_cons, fill_nil, Nat.zero_add, Nat.reduceAdd]
  obtain ⟨_, h1, ea, s1, rfl⟩ := tfind_ok (n := m) (by omega) ht id
  obtain ⟨h2, e2, r2, n2, g2⟩ := Rw.alloc h1 (id := h1.next) (n := 3) (vs := [.str [], .int .i64 0, .int .i64 0]) (z := tyMark 91 true) (ro := false) (Nat.le_refl _) rfl
  cases hg : gtL L id with
  | none =>
    rw [hg] at ea
    unfold zCh at ea
    obtain ⟨w1, w2, w3, w4⟩ := r2.sto (o := 0) (us := [.str [], .int .i64 0, .int .i64 0]) (by simp) rfl
    simp only [F15, ea, x_al_91, e2, w1, SS, Nat.reduceBEq, Nat.reduceEqDiff, Nat.reduceAdd, reduceIte, Nat.reduceMul]
    refine hQ _ _ _ _ (.inr rfl) (by simp only [SS, Nat.reduceBEq]) (by simp only [SS, Nat.reduceBEq, Nat.reduceEqDiff, Nat.reduceAdd, reduceIte, Nat.reduceMul]; rfl) ?_
    have := s1.1
    exact .inl ⟨hg, rfl, ⟨by omega, fun b hb hF => by rw [w4 b (by omega), g2 b (by omega), s1.2 b hb hF]⟩⟩
  | some c => exact absurd ⟨c, hg⟩ good
theorem tload_ok {n : Nat} (hn : 6 ≤ n) (ht : TabAt h tb L next F) (id : Int) (hid : 0 ≤ id ∧ id ≤ 4294967295) {s : List Nat} (block refs : Int) (hl : s.length ≤ 1000) (hb : Byts s) (hlen : L.length ≤ 1000) :
    WC (C n (.fn 36) [.ptr (some (tb, 0)), u id, .str s, .int .i64 block, .int .i64 refs] h) fun r h' =>
      (id = 0 ∨ id = 4294967295) ∧ r = .int .i64 2 ∧ Sm NoB h h' ∨ ¬ (id = 0 ∨ id = 4294967295) ∧ ((s.length < 1 ∨ 64 < s.length ∨ refs < 1 ∨ 65535 < refs) ∧ r = .int .i64 4 ∧ Sm NoB h h' ∨ ¬ (s.length < 1 ∨ 64 < s.length ∨ refs < 1 ∨ 65535 < refs) ∧
        (((∃ c, gtL L id = some c) ∨ ∃ c, fdL L s = some c) ∧ r = .int .i64 6 ∧ Sm NoB h h' ∨ gtL L id = none ∧ fdL L s = none ∧ r = .int .i64 0 ∧ ∃ F', TabAt h' tb (L ++ [⟨id, s, block, refs⟩]) (max next (id + 1)) F' ∧ Sm F h h' ∧ ∀ b, F' b → F b ∨ h.next ≤ b)) := by
  obtain ⟨m, rfl⟩ : ∃ m, n = m + 1 := ⟨n - 1, by omega⟩
  refine call_fn _ f36A rfl (by simp [fn36]) fun QQ hQ => ?_
  simp only [fn36] at hQ
  simp only [fn36, fill_cons, fill_nil, Nat.zero_add, Nat.reduceAdd]
  obtain ⟨_, h0, ea, e0, rfl⟩ := tis_ok (n := m) (by omega) ht
  subst e0
  by_cases c0 : id = 0
  · subst c0
    simp only [F36, SS, Nat.reduceBEq, Nat.reduceEqDiff, Nat.reduceAdd, reduceIte, Nat.reduceMul, ea, w_undef]
    refine hQ _ _ _ _ (.inr rfl) (by simp only [SS, Nat.reduceBEq]) (by simp only [SS, Nat.reduceBEq, Nat.reduceEqDiff, Nat.reduceAdd, reduceIte, Nat.reduceMul]; rfl) ?_
    exact .inl ⟨.inl rfl, rfl, Sm.refl _ _⟩
  by_cases c1 : id = 4294967295
  · subst c1
    simp only [F36, SS, Nat.reduceBEq, Nat.reduceEqDiff, Nat.reduceAdd, reduceIte, Nat.reduceMul, ea, c0, w_undef]
    refine hQ _ _ _ _ (.inr rfl) (by simp only [SS, Nat.reduceBEq]) (by simp only [SS, Nat.reduceBEq, Nat.reduceEqDiff, Nat.reduceAdd, reduceIte, Nat.reduceMul]; rfl) ?_
    exact .inl ⟨.inr rfl, rfl, Sm.refl _ _⟩
  have cid : ¬ (id = 0 ∨ id = 4294967295) := by omega
  obtain ⟨rm, h1, eb, s1, hcase⟩ := tmay_full (n := m) (by omega) ht hl hb
  have ht1 := ht.sm s1 (fun _ _ h => h)
  obtain ⟨mb, x, es, k, B, X, t1, t2, t3, _⟩ := ht1.ex
  obtain ⟨h2, e2, r2, n2, g2⟩ := Rw.alloc h1 (id := h1.next) (n := 3) (vs := [.str [], .int .i64 0, .int .i64 0]) (z := tyMark 91 true) (ro := false) (Nat.le_refl _) rfl
  obtain ⟨vb, sd, b0, q0, hlk, hvb⟩ : ∃ vb sd b0 q0, lookup2 P 84 true (.map (some mb)) (u id) h1 = some (.tuple [.agg [.str sd, .int .i64 b0, .int .i64 q0], .bool vb]) ∧ (vb = true ∧ (∃ c, gtL L id = some c) ∨ vb = false ∧ gtL L id = none) := by
    cases hg : gtL L id with
    | none => exact ⟨false, _, _, _, lkT_none t2 t3.e hg, .inr ⟨rfl, rfl⟩⟩
    | some c => exact ⟨true, _, _, _, lkT_some t2 t3.e hg, .inl ⟨rfl, c, rfl⟩⟩
  obtain ⟨w1, w2, w3, w4⟩ := r2.sto (o := 0) (us := [.str sd, .int .i64 b0, .int .i64 q0]) (by simp) rfl
  have hs1 := s1.1
  obtain ⟨h3, e3⟩ : ∃ h3, h2.wr h1.next 0 [.str sd, .int .i64 b0, .int .i64 q0] = h3 := ⟨_, rfl⟩
  rw [e3] at w1 w3 w4
  have s3 : Sm NoB h1 h3 := ⟨by omega, fun b hb hF => by rw [w4 b (by omega), g2 b (by omega)]⟩
  have s03 : Sm NoB h0 h3 := s1.trans s3 (fun _ _ h => h) (fun _ _ h => h)
  have k64 : ¬ (6 : Int) = 4 := by decide
  have k04 : ¬ (0 : Int) = 4 := by decide
  have k60 : ¬ (6 : Int) = 0 := by decide
  obtain ⟨e, rfl, hcs⟩ : ∃ e : Int, rm = AV.int .i64 e ∧ ((s.length < 1 ∨ 64 < s.length) ∧ e = 4 ∨ ¬ (s.length < 1 ∨ 64 < s.length) ∧ ((∃ c, fdL L s = some c) ∧ e = 6 ∨ fdL L s = none ∧ e = 0)) := by
    rcases hcase with ⟨q, rfl⟩ | ⟨q, ⟨q2, rfl⟩ | ⟨q2, rfl⟩⟩
    · exact ⟨4, rfl, .inl ⟨q, rfl⟩⟩
    · exact ⟨6, rfl, .inr ⟨q, .inl ⟨q2, rfl⟩⟩⟩
    · exact ⟨0, rfl, .inr ⟨q, .inr ⟨q2, rfl⟩⟩⟩
  by_cases c2 : e = 4
  · have hq : s.length < 1 ∨ 64 < s.length := by
      rcases hcs with ⟨q, _⟩ | ⟨_, ⟨_, q⟩ | ⟨_, q⟩⟩
      · exact q
      · omega
      · omega
    subst c2
    simp only [F36, SS, Nat.reduceBEq, Nat.reduceEqDiff, Nat.reduceAdd, reduceIte, Nat.reduceMul, ea, c0, c1, w_undef, eb, x_fa_87_0, t1.ld1, hlk, x_al_91, e2, w1]
    refine hQ _ _ _ _ (.inr rfl) (by simp only [SS, Nat.reduceBEq]) (by simp only [SS, Nat.reduceBEq, Nat.reduceEqDiff, Nat.reduceAdd, reduceIte, Nat.reduceMul]; rfl) ?_
    exact .inr ⟨cid, .inl ⟨by omega, rfl, s03⟩⟩
  have hq : ¬ (s.length < 1 ∨ 64 < s.length) := by
    rcases hcs with ⟨_, q⟩ | ⟨q, _⟩
    · exact absurd q c2
    · exact q
  by_cases c3 : refs < 1
  · simp only [F36, SS, Nat.reduceBEq, Nat.reduceEqDiff, Nat.reduceAdd, reduceIte, Nat.reduceMul, ea, c0, c1, w_undef, eb, x_fa_87_0, t1.ld1, hlk, x_al_91, e2, w1, c2, c3]
    refine hQ _ _ _ _ (.inr rfl) (by simp only [SS, Nat.reduceBEq]) (by simp only [SS, Nat.reduceBEq, Nat.reduceEqDiff, Nat.reduceAdd, reduceIte, Nat.reduceMul]; rfl) ?_
    exact .inr ⟨cid, .inl ⟨by omega, rfl, s03⟩⟩
  by_cases c4 : 65535 < refs
  · simp only [F36, SS, Nat.reduceBEq, Nat.reduceEqDiff, Nat.reduceAdd, reduceIte, Nat.reduceMul, ea, c0, c1, w_undef, eb, x_fa_87_0, t1.ld1, hlk, x_al_91, e2, w1, c2, c3, c4]
    refine hQ _ _ _ _ (.inr rfl) (by simp only [SS, Nat.reduceBEq]) (by simp only [SS, Nat.reduceBEq, Nat.reduceEqDiff, Nat.reduceAdd, reduceIte, Nat.reduceMul]; rfl) ?_
    exact .inr ⟨cid, .inl ⟨by omega, rfl, s03⟩⟩
  have hq2 : ¬ (s.length < 1 ∨ 64 < s.length ∨ refs < 1 ∨ 65535 < refs) := by omega
  by_cases c5 : e = 0
  · have hd : fdL L s = none := by
      rcases hcs with ⟨_, q⟩ | ⟨_, ⟨_, q⟩ | ⟨q, _⟩⟩
      · exact absurd q c2
      · omega
      · exact q
    subst c5
    rcases hvb with ⟨rfl, hg⟩ | ⟨rfl, hg⟩
    · simp only [F36, SS, Nat.reduceBEq, Nat.reduceEqDiff, Nat.reduceAdd, reduceIte, Nat.reduceMul, ea, c0, c1, w_undef, eb, x_fa_87_0, t1.ld1, hlk, x_al_91, e2, w1, c2, c3, c4]
      refine hQ _ _ _ _ (.inr rfl) (by simp only [SS, Nat.reduceBEq]) (by simp only [SS, Nat.reduceBEq, Nat.reduceEqDiff, Nat.reduceAdd, reduceIte, Nat.reduceMul]; rfl) ?_
      exact .inr ⟨cid, .inr ⟨hq2, .inl ⟨.inl hg, rfl, s03⟩⟩⟩
    · obtain ⟨_, h4, ec, rfl, F', ht4, s4, f4⟩ := tput_ok (n := m) (by omega) (ht1.sm s3 (fun _ _ h => h)) ⟨id, s, block, refs⟩ (by show 1 ≤ id; omega) (by show id < _; omega) hg hd (by show 1 ≤ s.length; omega) (by show s.length ≤ 64; omega) hb (by show 1 ≤ refs; omega) (by show refs ≤ 65535; omega) (by omega)
      unfold Ch.val at ec
      simp only at ec
      simp only [F36, SS, Nat.reduceBEq, Nat.reduceEqDiff, Nat.reduceAdd, reduceIte, Nat.reduceMul, ea, c0, c1, w_undef, eb, x_fa_87_0, t1.ld1, hlk, x_al_91, e2, w1, c2, c3, c4, x_bd_91_0_1_2, ec]
      refine hQ _ _ _ _ (.inr rfl) (by simp only [SS, Nat.reduceBEq]) (by simp only [SS, Nat.reduceBEq, Nat.reduceEqDiff, Nat.reduceAdd, reduceIte, Nat.reduceMul]; rfl) ?_
      exact .inr ⟨cid, .inr ⟨hq2, .inr ⟨hg, hd, rfl, F', ht4, s03.trans s4 (fun _ _ h => h.elim) (fun _ _ h => h), fun b hb => (f4 b hb).imp (fun h9 => h9) fun h9 => Nat.le_trans s03.1 h9⟩⟩⟩
  · have hd : ∃ c, fdL L s = some c := by
      rcases hcs with ⟨_, q⟩ | ⟨_, ⟨q, _⟩ | ⟨_, q⟩⟩
      · exact absurd q c2
      · exact q
      · exact absurd q c5
    simp only [F36, SS, Nat.reduceBEq, Nat.reduceEqDiff, Nat.reduceAdd, reduceIte, Nat.reduceMul, ea, c0, c1, w_undef, eb, x_fa_87_0, t1.ld1, hlk, x_al_91, e2, w1, c2, c3, c4, c5]
    refine hQ _ _ _ _ (.inr rfl) (by simp only [SS, Nat.reduceBEq]) (by simp only [SS, Nat.reduceBEq, Nat.reduceEqDiff, Nat.reduceAdd, reduceIte, Nat.reduceMul]; rfl) ?_
    exact .inr ⟨cid, .inr ⟨hq2, .inl ⟨.inr hd, rfl, s03⟩⟩⟩
end
end Go.Proofs.Ytlfednnfkejcjaa

namespace Go.Proofs.Ytlfednnfkejcjaa
open Go.Am
set_option maxRecDepth 10000
section
variable {h : Heap} {rb : Nat} {R L : List Ch} {next : Int} {bs : List Nat}
end
end Go.Proofs.Ytlfednnfkejcjaa

namespace Go.Proofs.Ytlfednnfkejcjaa
open Go.Am
set_option maxRecDepth 10000
structure Ac where
  what : Int
  id : Int
  data : List Nat
  block : Int
  refs : Int
  ask : Int
  other : List Nat
def Ac.c (x : Ac) : List AV := [.int .u8 x.what, .int .u32 x.id, .str x.data, .int .i64 x.block, .int .i64 x.refs, .int .u32 x.ask, .str x.other]
abbrev csA (L : List Ac) : List AV := L.flatMap Ac.c
theorem csA_len (L : List Ac) : (csA L).length = L.length * 7 := by
  induction L with
  | nil => rfl
  | cons x L ih => show (Ac.c x ++ csA L).length = _; rw [List.length_append, ih, List.length_cons]; simp [Ac.c]; omega
theorem csA_get : ∀ (L : List Ac) (i : Nat) (h : i < L.length) (f : Nat), f < 7 → (csA L)[i * 7 + f]? = (L[i].c)[f]?
  | x :: L, 0, h, f, hf => by show (Ac.c x ++ csA L)[0 * 7 + f]? = _; rw [List.getElem?_append_left (by simp [Ac.c]; omega), Nat.zero_mul, Nat.zero_add]; rfl
  | x :: L, i + 1, h, f, hf => by
    show (Ac.c x ++ csA L)[(i + 1) * 7 + f]? = _
    rw [List.getElem?_append_right (by simp [Ac.c]; omega), show (i + 1) * 7 + f - (Ac.c x).length = i * 7 + f by simp [Ac.c]; omega]
    exact csA_get L i (by simpa using h) f hf
def Az : Ac := ⟨0, 0, [], 0, 0, 0, []⟩
def Ai (L : List Ac) (i : Nat) : Ac := L.getD i Az
theorem Ai_at {L : List Ac} {i : Nat} (h : i < L.length) : Ai L i = L[i] := by simp [Ai, List.getD_eq_getElem?_getD, List.getElem?_eq_getElem h]
def Acs (h : Heap) (v : AV) (L : List Ac) : Prop := ElsR h v L.length 7 (csA L)
section
variable {h h' : Heap} {v : AV} {L : List Ac}
theorem Acs.sl (hi : Acs h v L) : ∃ a c g, v = .slice a L.length c g := by
  obtain ⟨_, a, c, g, e, _⟩ := hi
  exact ⟨a, c, g, e⟩
theorem Acs.sm {F : Nat → Prop} (hi : Acs h v L) (hs : Sm F h h') (hF : ∀ b, blkOf v b → ¬ F b) : Acs h' v L := elsR_sm hi hs hF
theorem Acs.lt (hi : Acs h v L) {b : Nat} (hb : blkOf v b) : b < h.next := elsR_lt hi hb
theorem Acs.at {a : Option (Nat × Nat)} {c : Nat} {g : Option Nat} (hi : Acs h (.slice a L.length c g) L) {i : Nat} (hl : i < L.length) :
    ∃ b o, a = some (b, o) ∧ h.ld1 b (o + i * 7) = some (.int .u8 (Ai L i).what) ∧ h.ld1 b (o + i * 7 + 1) = some (.int .u32 (Ai L i).id) ∧ h.ld1 b (o + i * 7 + 2) = some (.str (Ai L i).data) ∧ h.ld1 b (o + i * 7 + 3) = some (.int .i64 (Ai L i).block) ∧ h.ld1 b (o + i * 7 + 4) = some (.int .i64 (Ai L i).refs) ∧ h.ld1 b (o + i * 7 + 5) = some (.int .u32 (Ai L i).ask) ∧ h.ld1 b (o + i * 7 + 6) = some (.str (Ai L i).other) ∧ h.ld b (o + i * 7) 7 = some (Ai L i).c := by
  obtain ⟨h0, a', c', g', e, h1, h2⟩ := hi
  cases e
  cases a with
  | none => have := h1 rfl; omega
  | some p =>
    have hld := (h2 p.1 p.2 rfl).2 (by omega)
    have hc := (ld_ld1 hld).2
    have hp := ld_part hld (i := i * 7) (k := 7) (by omega)
    refine ⟨p.1, p.2, rfl, ?_, ?_, ?_, ?_, ?_, ?_, ?_, ?_⟩
    · rw [hc _ (by omega)]; rw [Ai_at hl]; exact (csA_get L i hl 0 (by omega))
    · rw [Nat.add_assoc]; rw [hc _ (by omega)]; rw [Ai_at hl]; exact (csA_get L i hl 1 (by omega))
    · rw [Nat.add_assoc]; rw [hc _ (by omega)]; rw [Ai_at hl]; exact (csA_get L i hl 2 (by omega))
    · rw [Nat.add_assoc]; rw [hc _ (by omega)]; rw [Ai_at hl]; exact (csA_get L i hl 3 (by omega))
    · rw [Nat.add_assoc]; rw [hc _ (by omega)]; rw [Ai_at hl]; exact (csA_get L i hl 4 (by omega))
    · rw [Nat.add_assoc]; rw [hc _ (by omega)]; rw [Ai_at hl]; exact (csA_get L i hl 5 (by omega))
    · rw [Nat.add_assoc]; rw [hc _ (by omega)]; rw [Ai_at hl]; exact (csA_get L i hl 6 (by omega))
    · rw [hp]; congr 1
      apply List.ext_getElem?
      intro f
      rw [Ai_at hl]
      by_cases hf : f < 7
      · rw [List.getElem?_take_of_lt hf, List.getElem?_drop]; exact csA_get L i hl f hf
      · rw [List.getElem?_eq_none (by simp; omega), List.getElem?_eq_none (by simp [Ac.c]; omega)]
end
theorem few_ok {n : Nat} (hn : 1 ≤ n) {h : Heap} {v : AV} {L : List Ac} (hi : Acs h v L) :
    WC (C n (.fn 32) [v] h) fun r h' => h' = h ∧ ∃ b, r = .bool b ∧ (b = true → L.length ≤ 60 ∧ ∀ i, i < L.length → (Ai L i).data.length ≤ 100 ∧ (Ai L i).other.length ≤ 100) := by
  obtain ⟨a, c, g, rfl⟩ := hi.sl
  obtain ⟨m, rfl⟩ : ∃ m, n = m + 1 := ⟨n - 1, by omega⟩
  refine call_fn _ f32A rfl (by simp [fn32]) fun QQ hQ => ?_
  simp only [fn32] at hQ
  simp only [fn32, fill_cons, fill_nil, Nat.zero_add, Nat.reduceAdd]
  simp only [F32, SS, Nat.reduceBEq, Nat.reduceEqDiff, Nat.reduceAdd, reduceIte, Nat.reduceMul]
  refine run_loop (c := c32_7) (I := fun m' tm' h' => ∃ i, i ≤ 70 ∧ m' = 70 - i ∧ i ≤ L.length ∧ h' = h ∧ (∀ j, j < i → (Ai L j).data.length ≤ 100 ∧ (Ai L j).other.length ≤ 100) ∧ tm'.gt 0 = some (.slice a L.length c g) ∧ tm'.gt 3 = some (I i) ∧ tm'.gt 33 = none) (n := 70)
    ⟨0, by omega, rfl, by omega, rfl, (fun j hj => by omega), by simp only [SS, Nat.reduceBEq], by simp only [SS, Nat.reduceBEq, Nat.reduceEqDiff, Nat.reduceAdd, reduceIte, Nat.reduceMul]; rfl, by simp only [SS, Nat.reduceBEq]⟩ (by omega) ?_
  rintro _ tm h1 ⟨i, hi7, rfl, hil, rfl, hno, t0, t3, t33⟩ Q1 hN1 hE
  by_cases hlt : i < L.length
  · have hlt' : (i : Int) < (L.length : Int) := by omega
    by_cases h70 : i < 70
    · have h70' : (i : Int) < 70 := by omega
      obtain ⟨b, o, rfl, i0, i1, i2, i3, i4, i5, i6, _⟩ := hi.at hlt
      have x2 := x_ia_60 (k := .i64) (b := b) (o := o) (c := c) (g := g) hlt
      by_cases d1 : 100 < (Ai L i).data.length
      · have d1' : (100 : Int) < ((Ai L i).data.length : Int) := by omega
        simp only [F32, SS, Nat.reduceBEq, Nat.reduceEqDiff, Nat.reduceAdd, reduceIte, Nat.reduceMul, t0, t3, x_len_60, hlt', h70', x2, x_fa_65_2, i2, x_len_9, d1', w_undef]
        refine hE _ _ _ (by simp) ?_
        simp only [SS, Nat.reduceBEq, Nat.reduceEqDiff, Nat.reduceAdd, reduceIte, Nat.reduceMul]
        refine hQ _ _ _ _ (.inr rfl) (by simp only [SS, Nat.reduceBEq, t33]) (by simp only [SS, Nat.reduceBEq, Nat.reduceEqDiff, Nat.reduceAdd, reduceIte, Nat.reduceMul]; rfl) ⟨rfl, false, rfl, fun h => by cases h⟩
      have d1' : ¬ (100 : Int) < ((Ai L i).data.length : Int) := by omega
      by_cases d2 : 100 < (Ai L i).other.length
      · have d2' : (100 : Int) < ((Ai L i).other.length : Int) := by omega
        simp only [F32, SS, Nat.reduceBEq, Nat.reduceEqDiff, Nat.reduceAdd, reduceIte, Nat.reduceMul, t0, t3, x_len_60, hlt', h70', x2, x_fa_65_2, i2, x_len_9, d1', x_fa_65_6, i6, d2', w_undef]
        refine hE _ _ _ (by simp) ?_
        simp only [SS, Nat.reduceBEq, Nat.reduceEqDiff, Nat.reduceAdd, reduceIte, Nat.reduceMul]
        refine hQ _ _ _ _ (.inr rfl) (by simp only [SS, Nat.reduceBEq, t33]) (by simp only [SS, Nat.reduceBEq, Nat.reduceEqDiff, Nat.reduceAdd, reduceIte, Nat.reduceMul]; rfl) ⟨rfl, false, rfl, fun h => by cases h⟩
      have d2' : ¬ (100 : Int) < ((Ai L i).other.length : Int) := by omega
      simp only [F32, SS, Nat.reduceBEq, Nat.reduceEqDiff, Nat.reduceAdd, reduceIte, Nat.reduceMul, t0, t3, x_len_60, hlt', h70', x2, x_fa_65_2, i2, x_len_9, d1', x_fa_65_6, i6, d2', w_undef, wAdd1 (show i ≤ 1000000 by omega)]
      refine hN1 _ _ (70 - (i + 1)) (by omega) ⟨i + 1, h70, rfl, hlt, rfl, fun j hj => ?_, by simp only [SS, Nat.reduceBEq, t0], by simp only [SS, Nat.reduceBEq], by simp only [SS, Nat.reduceBEq, t33]⟩
      by_cases e : j = i
      · subst e; exact ⟨by omega, by omega⟩
      · exact hno j (by omega)
    · have h70' : ¬ (i : Int) < 70 := by omega
      simp only [F32, SS, Nat.reduceBEq, Nat.reduceEqDiff, Nat.reduceAdd, reduceIte, Nat.reduceMul, t0, t3, x_len_60, hlt', h70', w_undef]
      refine hE _ _ _ (by simp) ?_
      simp only [F32, SS, Nat.reduceBEq, Nat.reduceEqDiff, Nat.reduceAdd, reduceIte, Nat.reduceMul, t0, x_len_60]
      refine hQ _ _ _ _ (.inr rfl) (by simp only [SS, Nat.reduceBEq, t33]) (by simp only [SS, Nat.reduceBEq, Nat.reduceEqDiff, Nat.reduceAdd, reduceIte, Nat.reduceMul]; rfl) ⟨rfl, _, rfl, fun h => ?_⟩
      have := of_decide_eq_true h
      omega
  · have hlt' : ¬ (i : Int) < (L.length : Int) := by omega
    simp only [F32, SS, Nat.reduceBEq, Nat.reduceEqDiff, Nat.reduceAdd, reduceIte, Nat.reduceMul, t0, t3, x_len_60, hlt', w_undef]
    refine hE _ _ _ (by simp) ?_
    simp only [F32, SS, Nat.reduceBEq, Nat.reduceEqDiff, Nat.reduceAdd, reduceIte, Nat.reduceMul, t0, x_len_60]
    refine hQ _ _ _ _ (.inr rfl) (by simp only [SS, Nat.reduceBEq, t33]) (by simp only [SS, Nat.reduceBEq, Nat.reduceEqDiff, Nat.reduceAdd, reduceIte, Nat.reduceMul]; rfl) ⟨rfl, _, rfl, fun h => ?_⟩
    have := of_decide_eq_true h
    exact ⟨by omega, fun j hj => hno j (by omega)⟩
end Go.Proofs.Ytlfednnfkejcjaa

namespace Go.Proofs.Ytlfednnfkejcjaa
open Go.Am
set_option maxRecDepth 10000
theorem TabAt.flt {h : Heap} {tb : Nat} {L : List Ch} {next : Int} {F : Nat → Prop} (ht : TabAt h tb L next F) : ∀ b, F b → b < h.next := by
  obtain ⟨mb, x, es, c, B, X, h1, h2, h3, h4, h5, h6, h7, h8, h9, rfl⟩ := ht.ex
  rintro b (rfl | rfl | rfl | ⟨i, hi, hb⟩)
  · exact ht.lt
  · exact h6
  · exact h4.lt
  · obtain ⟨S, _, _, h3⟩ := h4.ex
    obtain ⟨v, _, o⟩ := h3 i hi
    exact o.lt b hb
structure St (h : Heap) (tb rb : Nat) (L R : List Ch) (next : Int) (F : Nat → Prop) (bs : List Nat) : Prop where
  t : TabAt h tb L next F
  r : RefAt h rb R next bs
  rel : Rel L R
  dj : ∀ b, F b → ¬ RefF rb bs b
section
variable {h h1 h2 h3 : Heap} {tb rb : Nat} {L R L' R' : List Ch} {next next' : Int} {F F' : Nat → Prop} {bs bs' : List Nat}
theorem St.r2 (hs : St h1 tb rb L R next F bs) (s : Sm F h1 h2) : RefAt h2 rb R next bs := hs.r.sm s (fun h => hs.dj _ h (.inl rfl)) (fun b hb h => hs.dj _ h (.inr hb))
theorem St.no (hs : St h1 tb rb L R next F bs) (s : Sm NoB h1 h2) : St h2 tb rb L R next F bs := ⟨hs.t.sm s (fun _ _ h => h), hs.r.no s, hs.rel, hs.dj⟩
def StF (F : Nat → Prop) (rb : Nat) (bs : List Nat) : Nat → Prop := fun b => F b ∨ RefF rb bs b
theorem St.flt (hs : St h tb rb L R next F bs) : ∀ b, StF F rb bs b → b < h.next := fun b hb => hb.elim (hs.t.flt b) (hs.r.flt b)
structure Nx (h1 h3 : Heap) (tb rb : Nat) (L R : List Ch) (next : Int) (F : Nat → Prop) (bs : List Nat) (n : Nat) : Prop where
  ex : ∃ L' R' next' F' bs', St h3 tb rb L' R' next' F' bs' ∧ L'.length ≤ n + 1 ∧ ∀ b, StF F' rb bs' b → StF F rb bs b ∨ h1.next ≤ b
  sm : Sm (StF F rb bs) h1 h3
theorem St.step {n : Nat} (hs : St h1 tb rb L R next F bs) (s12 : Sm F h1 h2) (t2 : TabAt h2 tb L' next' F') (hF : ∀ b, F' b → F b ∨ h1.next ≤ b) (s23 : Sm (RefF rb bs) h2 h3) (r3 : RefAt h3 rb R' next' bs') (hb : ∀ b, b ∈ bs' → b ∈ bs ∨ h2.next ≤ b) (rel : Rel L' R') (hn : L'.length ≤ n + 1) : Nx h1 h3 tb rb L R next F bs n := by
  have hfr := hs.r.flt
  have hft := t2.flt
  have hn12 := s12.1
  have d2 : ∀ b, F' b → ¬ RefF rb bs b := by
    intro b hb h9
    rcases hF b hb with h8 | h8
    · exact hs.dj b h8 h9
    · have := hfr b h9; omega
  refine ⟨⟨L', R', next', F', bs', ⟨t2.sm s23 d2, r3, rel, ?_⟩, hn, ?_⟩, s12.trans s23 (fun c _ hc => .inl hc) (fun c _ hc => .inr hc)⟩
  · rintro b hb' (rfl | h9)
    · exact d2 b hb' (.inl rfl)
    · rcases hb b h9 with h8 | h8
      · exact d2 b hb' (.inr h8)
      · have := hft b hb'; omega
  · rintro b (h9 | rfl | h9)
    · exact (hF b h9).imp (fun h => .inl h) (fun h => h)
    · exact .inl (.inr (.inl rfl))
    · rcases hb b h9 with h8 | h8
      · exact .inl (.inr (.inr h8))
      · exact .inr (by omega)
theorem St.stay {n : Nat} (hs : St h1 tb rb L R next F bs) (s : Sm NoB h1 h3) (hn : L.length ≤ n + 1) : Nx h1 h3 tb rb L R next F bs n :=
  ⟨⟨L, R, next, F, bs, hs.no s, hn, fun b hb => .inl hb⟩, s.no⟩
theorem St.refs (hs : St h tb rb L R next F bs) : ∀ c, c ∈ L → 1 ≤ c.refs ∧ c.refs ≤ 65535 := by
  obtain ⟨B, t5⟩ := hs.t.ok
  intro c hc
  exact ⟨(t5.ch c hc).2.2.2.2.2.1, (t5.ch c hc).2.2.2.2.2.2⟩
end
end Go.Proofs.Ytlfednnfkejcjaa

namespace Go.Proofs.Ytlfednnfkejcjaa
open Go.Am
set_option maxRecDepth 10000
def Ac.Ok (x : Ac) : Prop := (0 ≤ x.id ∧ x.id ≤ 4294967295) ∧ Byts x.data ∧ Byts x.other ∧ (0 ≤ x.ask ∧ x.ask ≤ 4294967295) ∧ x.data.length ≤ 100 ∧ x.other.length ≤ 100
section
variable {h h1 h3 : Heap} {tb rb : Nat} {L R : List Ch} {next : Int} {F : Nat → Prop} {bs : List Nat}
theorem Nx.pre {n : Nat} (s : Sm NoB h h1) (x : Nx h1 h3 tb rb L R next F bs n) : Nx h h3 tb rb L R next F bs n := by
  obtain ⟨⟨L', R', next', F', bs', a, b, c⟩, d⟩ := x
  exact ⟨⟨L', R', next', F', bs', a, b, fun q hq => (c q hq).imp (fun h => h) (fun h => Nat.le_trans s.1 h)⟩, s.trans d (fun _ _ h => h.elim) (fun _ _ h => h)⟩
end
end Go.Proofs.Ytlfednnfkejcjaa

namespace Go.Proofs.Ytlfednnfkejcjaa
open Go.Am
set_option maxRecDepth 10000
section
variable {h h1 h3 : Heap} {tb rb : Nat} {L R : List Ch} {next : Int} {F : Nat → Prop} {bs : List Nat}
theorem keys_ok {n : Nat} (hn : 1 ≤ n) {mb : Nat} : WC (C n (.fn 89) [.map (some mb)] h) fun r h' => ∃ cb, r = .func (.func 103) [] [.ptr (some (cb, 0))] ∧ h'.ld1 cb 0 = some (.map (some mb)) ∧ Sm NoB h h' := by
  obtain ⟨m, rfl⟩ : ∃ m, n = m + 1 := ⟨n - 1, by omega⟩
  refine call_fn _ f89A rfl (by simp [fn89]) fun QQ hQ => ?_
  simp only [fn89] at hQ
  simp only [fn89, fill_cons, fill_nil, Nat.zero_add, Nat.reduceAdd]
  obtain ⟨h1, e1, rx, n1, g1⟩ := Rw.alloc h (id := h.next) (n := 1) (vs := [.map (some mb)]) (z := []) (ro := false) (Nat.le_refl _) rfl
  have eb : box1 (.map (some mb)) = some (.cells (fillC [.map (some mb)] .leaf 0) [] 1 false, ptrTo) := rfl
  have ef : ∀ b, mkFunc (Fn.func 103) 0 [.ptr (some (b, 0))] = some (.func (.func 103) [] [.ptr (some (b, 0))]) := fun b => rfl
  simp only [F89, SS, Nat.reduceBEq, Nat.reduceEqDiff, Nat.reduceAdd, reduceIte, Nat.reduceMul, eb, e1, ef]
  refine hQ _ _ _ _ (.inr rfl) (by simp only [SS, Nat.reduceBEq]) (by simp only [SS, Nat.reduceBEq, Nat.reduceEqDiff, Nat.reduceAdd, reduceIte, Nat.reduceMul]; rfl) ?_
  exact ⟨h.next, rfl, rx.ld1 0, ⟨by omega, fun c hc _ => g1 c (by omega)⟩⟩
theorem all_ok {n : Nat} (hn : 1 ≤ n) : WC (C n (.fn 63) [.ptr (some (tb, 0))] h) fun r h' => ∃ bx, r = .func (.func 87) [] [.ptr (some (bx, 0))] ∧ Rw h' bx [.ptr (some (tb, 0))] [] false ∧ bx < h'.next ∧ Sm NoB h h' ∧ h.next ≤ bx := by
  obtain ⟨m, rfl⟩ : ∃ m, n = m + 1 := ⟨n - 1, by omega⟩
  refine call_fn _ f63A rfl (by simp [fn63]) fun QQ hQ => ?_
  simp only [fn63] at hQ
  simp only [fn63, fill_cons, fill_nil, Nat.zero_add, Nat.reduceAdd]
  obtain ⟨h1, e1, rx, n1, g1⟩ := Rw.alloc h (id := h.next) (n := 1) (vs := [.ptr (some (tb, 0))]) (z := []) (ro := false) (Nat.le_refl _) rfl
  have eb : box1 (.ptr (some (tb, 0))) = some (.cells (fillC [.ptr (some (tb, 0))] .leaf 0) [] 1 false, ptrTo) := rfl
  have ef : ∀ b, mkFunc (Fn.func 87) 0 [.ptr (some (b, 0))] = some (.func (.func 87) [] [.ptr (some (b, 0))]) := fun b => rfl
  simp only [F63, SS, Nat.reduceBEq, Nat.reduceEqDiff, Nat.reduceAdd, reduceIte, Nat.reduceMul, eb, e1, ef]
  refine hQ _ _ _ _ (.inr rfl) (by simp only [SS, Nat.reduceBEq]) (by simp only [SS, Nat.reduceBEq, Nat.reduceEqDiff, Nat.reduceAdd, reduceIte, Nat.reduceMul]; rfl) ?_
  exact ⟨h.next, rfl, rx, by omega, ⟨by omega, fun c hc _ => g1 c (by omega)⟩, Nat.le_refl _⟩
theorem allIt_ok {n : Nat} (hn : 3 ≤ n) (ht : TabAt h tb L next F) (hrel : Rel L R) (hlen : L.length ≤ 1000) {bx l : Nat} (hbx : Rw h bx [.ptr (some (tb, 0))] [] false)
    (J : Nat → Nat → Heap → Prop) (D : Heap → Prop) (hJ0 : ∀ h1, Sm NoB h h1 → J h1.next 0 h1)
    (hround : ∀ hi i h1 (_ : i < R.length), J hi i h1 → h.next ≤ hi → WC (C (n - 1) (.loop l) [u (Ri R i).id] h1) fun v h2 => (v = .bool true ∧ J hi (i + 1) h2 ∨ v = .bool false ∧ D h2) ∧ ∀ b, h.next ≤ b → b < hi → h2.bs.gt b = h1.bs.gt b) :
    WC (C n (.fn 87) [.func (.yield l) [] [], .ptr (some (bx, 0))] h) fun _ h' => (∃ hi, J hi R.length h') ∨ D h' := by
  have hrl := hrel.len
  obtain ⟨m, rfl⟩ : ∃ m, n = m + 1 := ⟨n - 1, by omega⟩
  refine call_fn _ f87A rfl (by simp [fn87]) fun QQ hQ => ?_
  simp only [fn87] at hQ
  simp only [fn87, fill_cons, fill_nil, Nat.zero_add, Nat.reduceAdd]
  simp only [Nat.add_sub_cancel] at hround
  have l0 := hbx.ld1 0
  rw [List.getElem?_cons_zero] at l0
  obtain ⟨_, h0, ea, e0, rfl⟩ := tis_ok (n := m) (by omega) ht
  subst e0
  obtain ⟨mb, x, es, k, B, X, t1, t2, t3, _, _, hmb, _⟩ := ht.ex
  obtain ⟨_, h1, eb, cb, rfl, hcb, s1⟩ := keys_ok (n := m) (by omega) (h := h0) (mb := mb)
  have hsk := skeys_ok (m := m) (by omega) hcb ((s1.2 mb hmb (fun h => h)).trans t2) t3 hrel (by omega)
  obtain ⟨a, cc, gg, h2, ec, s2, hld⟩ : ∃ a cc gg h2, C m (.fn 88) [.func (.func 103) [] [.ptr (some (cb, 0))]] h1 = some (.slice a R.length cc gg, h2) ∧ Sm NoB h1 h2 ∧ (∀ i, i < R.length → ∃ sb, a = some (sb, 0) ∧ h0.next ≤ sb ∧ sb < h2.next ∧ ∀ h' : Heap, h'.bs.gt sb = h2.bs.gt sb → h'.ld1 sb i = some (u (Ri R i).id)) := by
    by_cases hR : R = []
    · rw [if_pos hR] at hsk
      refine ⟨none, 0, none, h1, ?_, Sm.refl _ _, fun i hi => ?_⟩
      · rw [hsk, hR]; rfl
      · rw [hR] at hi; cases hi
    · rw [if_neg hR] at hsk
      obtain ⟨h2, e2, r2, n2, g2⟩ := Rw.alloc h1 (id := h1.next) (n := ((R.map Ch.id).map u).length) (vs := (R.map Ch.id).map u) (z := []) (ro := false) (Nat.le_refl _) rfl
      rw [e2] at hsk
      have hs1 := s1.1
      refine ⟨_, _, _, h2, hsk, ⟨by omega, fun c hc _ => g2 c (by omega)⟩, fun i hi => ⟨h1.next, rfl, by omega, by omega, fun h' e => ?_⟩⟩
      rw [(r2.same e).ld1, Ri_at hi]
      simp [hi]
  have s02 : Sm NoB h0 h2 := s1.trans s2 (fun _ _ h => h) (fun _ _ h => h)
  simp only [F87, SS, Nat.reduceBEq, Nat.reduceEqDiff, Nat.reduceAdd, reduceIte, Nat.reduceMul, l0, ea, x_fa_87_0, t1.ld1, eb, ec, x_len_43]
  refine run_loop (c := c87_10) (I := fun m' tm' h' => ∃ i, i ≤ R.length ∧ m' = R.length - i ∧ J h2.next i h' ∧ (∀ b, h0.next ≤ b → b < h2.next → h'.bs.gt b = h2.bs.gt b) ∧ tm'.gt 0 = some (.func (.yield l) [] []) ∧ tm'.gt 13 = some (.slice a R.length cc gg) ∧ tm'.gt 14 = some (I R.length) ∧ tm'.gt 15 = some (I i) ∧ tm'.gt 24 = none) (n := R.length)
    ⟨0, by omega, rfl, hJ0 h2 s02, fun _ _ _ => rfl, by simp only [SS, Nat.reduceBEq], by simp only [SS, Nat.reduceBEq], by simp only [SS, Nat.reduceBEq], by simp only [SS, Nat.reduceBEq, Nat.reduceEqDiff, Nat.reduceAdd, reduceIte, Nat.reduceMul]; rfl, by simp only [SS, Nat.reduceBEq]⟩ (by omega) ?_
  rintro _ tm h3 ⟨i, hil, rfl, hJ, hk, t0, t13, t14, t15, t24⟩ Q1 hN1 hE
  by_cases hlt : i < R.length
  · have hlt' : (i : Int) < (R.length : Int) := by omega
    obtain ⟨sb, rfl, hsb1, hsb2, hl1⟩ := hld i hlt
    have hl1 := hl1 h3 (hk sb hsb1 hsb2)
    obtain ⟨v, h4, ey, hv, hk4⟩ := hround h2.next i h3 hlt hJ s02.1
    have x2 := x_ia_43 (k := .i64) (b := sb) (o := 0) (c := cc) (g := gg) hlt
    rcases hv with ⟨rfl, hJ4⟩ | ⟨rfl, hD⟩
    · simp only [F87, SS, Nat.reduceBEq, Nat.reduceEqDiff, Nat.reduceAdd, reduceIte, Nat.reduceMul, t0, t13, t14, t15, hlt', x2, hl1, ey, wAdd1 (show i ≤ 1000000 by omega)]
      refine hN1 _ _ (R.length - (i + 1)) (by omega) ⟨i + 1, hlt, rfl, hJ4, fun b h8 h9 => (hk4 b h8 h9).trans (hk b h8 h9), by simp only [SS, Nat.reduceBEq, t0], by simp only [SS, Nat.reduceBEq, t13], by simp only [SS, Nat.reduceBEq, t14], by simp only [SS, Nat.reduceBEq], by simp only [SS, Nat.reduceBEq, t24]⟩
    · simp only [F87, SS, Nat.reduceBEq, Nat.reduceEqDiff, Nat.reduceAdd, reduceIte, Nat.reduceMul, t0, t13, t14, t15, hlt', x2, hl1, ey]
      refine hE _ _ _ (by simp) ?_
      simp only [SS, Nat.reduceBEq, Nat.reduceEqDiff, Nat.reduceAdd, reduceIte, Nat.reduceMul]
      refine hQ _ _ _ _ (.inr rfl) (by simp only [SS, Nat.reduceBEq, t24]) (by simp only [SS, Nat.reduceBEq, Nat.reduceEqDiff, Nat.reduceAdd, reduceIte, Nat.reduceMul]; rfl) (.inr hD)
  · obtain rfl : i = R.length := by omega
    have hlt' : ¬ (R.length : Int) < (R.length : Int) := by omega
    simp only [F87, SS, Nat.reduceBEq, Nat.reduceEqDiff, Nat.reduceAdd, reduceIte, Nat.reduceMul, t0, t13, t14, t15, hlt']
    refine hE _ _ _ (by simp) ?_
    simp only [SS, Nat.reduceBEq, Nat.reduceEqDiff, Nat.reduceAdd, reduceIte, Nat.reduceMul]
    refine hQ _ _ _ _ (.inl rfl) (by simp only [SS, Nat.reduceBEq, t24]) (by simp only [SS, Nat.reduceBEq, Nat.reduceEqDiff, Nat.reduceAdd, reduceIte, Nat.reduceMul]; rfl) (.inl ⟨_, hJ⟩)
end
end Go.Proofs.Ytlfednnfkejcjaa

namespace Go.Proofs.Ytlfednnfkejcjaa
open Go.Am
set_option maxRecDepth 10000
theorem put_sm {h : Heap} {b : Nat} {x : Blk} : ∃ h', h.put b x = h' ∧ h'.bs.gt b = some x ∧ h'.next = h.next ∧ Sm (· = b) h h' :=
  ⟨_, rfl, by rw [put_get, if_pos rfl], rfl, ⟨Nat.le_refl _, fun c _ hc => by rw [put_get, if_neg hc]⟩⟩
structure Rec45 (l b3 b4 b6 : Nat) (h : Heap) (b : LRec) : Prop where
  at' : h.bs.gt l = some (.loop b)
  st : b.st = .ready
  pd : b.pending = none
  fn : b.fn = 45
  ps : b.params = [13]
  asg : b.assign = c45_18A
  bo : b.body = c45_18B
  t3 : b.tm.gt 3 = some (.ptr (some (b3, 0)))
  t4 : b.tm.gt 4 = some (.ptr (some (b4, 0)))
  t6 : b.tm.gt 6 = some (.ptr (some (b6, 0)))
  t42 : b.tm.gt 42 = none
structure J45 (h0 : Heap) (l b3 b4 b6 rb : Nat) (R : List Ch) (next : Int) (bs : List Nat) (i : Nat) (h : Heap) : Prop where
  rc : ∃ b, Rec45 l b3 b4 b6 h b
  r3 : ∃ z, Rw h b3 [.ptr (some (rb, 0))] z false
  r4 : ∃ z, Rw h b4 [.bool false] z false
  r6 : ∃ z, Rw h b6 [I i] z false
  rf : RefAt h rb R next bs
  sm : Sm NoB h0 h
  lt : b3 < h.next ∧ b4 < h.next ∧ b6 < h.next ∧ l < h.next
  ge : h0.next ≤ b3 ∧ h0.next ≤ b4 ∧ h0.next ≤ b6 ∧ h0.next ≤ l
  ne : l ≠ b3 ∧ l ≠ b4 ∧ l ≠ b6 ∧ b6 ≠ b3 ∧ b6 ≠ b4
  fb : ∀ b, RefF rb bs b → b < h0.next
section
variable {h0 h : Heap} {l b3 b4 b6 rb : Nat} {R : List Ch} {next : Int} {bs : List Nat} {i : Nat}
theorem J45.no {h' : Heap} (hj : J45 h0 l b3 b4 b6 rb R next bs i h) (hs : Sm NoB h h') : J45 h0 l b3 b4 b6 rb R next bs i h' := by
  obtain ⟨⟨b, q1, q2, q3, q4, q5, q6, q7, q8, q9, q10, q11⟩, ⟨z3, r3⟩, ⟨z4, r4⟩, ⟨z6, r6⟩, rf, sm, ⟨l3, l4, l6, ll⟩, ge, ne, fb⟩ := hj
  have := hs.1
  exact ⟨⟨b, (hs.2 l ll (fun h => h)).trans q1, q2, q3, q4, q5, q6, q7, q8, q9, q10, q11⟩, ⟨z3, r3.sm hs l3 (fun h => h)⟩, ⟨z4, r4.sm hs l4 (fun h => h)⟩, ⟨z6, r6.sm hs l6 (fun h => h)⟩, rf.no hs, sm.trans hs (fun _ _ h => h) (fun _ _ h => h), ⟨by omega, by omega, by omega, by omega⟩, ge, ne, fb⟩
end
end Go.Proofs.Ytlfednnfkejcjaa

namespace Go.Proofs.Ytlfednnfkejcjaa
open Go.Am
set_option maxRecDepth 10000
theorem x_eq_104 (cap : List AV) : bin2 P .eql 104 (.func (.func 87) [] cap) .nilFunc = some (.bool false) := by kernel_rfl
section
variable {h : Heap} {tb rb : Nat} {L R : List Ch} {next : Int} {F : Nat → Prop} {bs : List Nat}
end
end Go.Proofs.Ytlfednnfkejcjaa

namespace Go.Proofs.Ytlfednnfkejcjaa
open Go.Am
set_option maxRecDepth 10000
theorem take_fresh {α β : Type} {f : α → β} {R : List α} (hn : (R.map f).Nodup) {i : Nat} (hi : i < R.length) : ∀ d, d ∈ R.take i → f d ≠ f R[i] := by
  have h1 : ((R.take (i + 1)).map f).Nodup := hn.sublist ((List.take_sublist _ _).map f)
  rw [List.take_succ_eq_append_getElem hi, List.map_append, List.nodup_append] at h1
  intro d hd e
  exact h1.2.2 _ (List.mem_map.2 ⟨d, hd, rfl⟩) (f R[i]) (List.mem_map.2 ⟨R[i], List.mem_singleton.2 rfl, rfl⟩) e
theorem gt_no {L : List Ch} {id : Int} (h : ∀ c, c ∈ L → c.id ≠ id) : gtL L id = none := by
  unfold gtL
  rw [List.find?_eq_none]
  intro c hc; simpa using h c hc
theorem fd_no {L : List Ch} {s : List Nat} (h : ∀ c, c ∈ L → c.data ≠ s) : fdL L s = none := by
  unfold fdL
  rw [List.find?_eq_none]
  intro c hc; simpa using h c hc
structure Rec41 (l b1 b3 : Nat) (h : Heap) (b : LRec) : Prop where
  at' : h.bs.gt l = some (.loop b)
  st : b.st = .ready
  pd : b.pending = none
  fn : b.fn = 41
  ps : b.params = [11]
  asg : b.assign = c41_16A
  bo : b.body = c41_16B
  t1 : b.tm.gt 1 = some (.ptr (some (b1, 0)))
  t3 : b.tm.gt 3 = some (.ptr (some (b3, 0)))
  t29 : b.tm.gt 29 = none
structure J41 (h0 : Heap) (l b1 b3 tb ctb lo hi : Nat) (L R : List Ch) (next : Int) (F : Nat → Prop) (i : Nat) (h : Heap) : Prop where
  rc : ∃ b, Rec41 l b1 b3 h b
  r1 : ∃ z, Rw h b1 [.ptr (some (tb, 0))] z false
  r3 : ∃ z, Rw h b3 [.ptr (some (ctb, 0))] z false
  t : TabAt h tb L next F
  c : ∃ nx Fc, TabAt h ctb (R.take i) nx Fc ∧ ∀ b, Fc b → h0.next ≤ b ∧ b ≠ b1 ∧ b ≠ b3 ∧ b ≠ l ∧ (b < lo ∨ hi ≤ b)
  sm : Sm NoB h0 h
  lt : b1 < h.next ∧ b3 < h.next ∧ l < h.next ∧ hi ≤ h.next
  ge : h0.next ≤ b1 ∧ h0.next ≤ b3 ∧ h0.next ≤ l
  ne : l ≠ b1 ∧ l ≠ b3
  fb : ∀ b, F b → b < h0.next
section
variable {h0 h : Heap} {l b1 b3 tb ctb lo hi : Nat} {L R : List Ch} {next : Int} {F : Nat → Prop} {i : Nat}
end
end Go.Proofs.Ytlfednnfkejcjaa

namespace Go.Proofs.Ytlfednnfkejcjaa
open Go.Am
set_option maxRecDepth 10000
def AcR (x : Ac) : Prop := (0 ≤ x.id ∧ x.id ≤ 4294967295) ∧ Byts x.data ∧ Byts x.other ∧ (0 ≤ x.ask ∧ x.ask ≤ 4294967295)
end Go.Proofs.Ytlfednnfkejcjaa

namespace Go.Proofs.Ytlfednnfkejcjaa
open Go.ChangeShapes Go.WideShapes Go.Am Go.Deep
set_option maxRecDepth 10000
theorem exists_list {α : Type} {Pr : Nat → α → Prop} : ∀ n, (∀ i, i < n → ∃ x, Pr i x) → ∃ l : List α, l.length = n ∧ ∀ i, i < n → ∃ x, l[i]? = some x ∧ Pr i x
  | 0, _ => ⟨[], rfl, fun i h => by omega⟩
  | n + 1, h => by
    obtain ⟨l, hl, hp⟩ := exists_list n fun i hi => h i (by omega)
    obtain ⟨x, hx⟩ := h n (by omega)
    refine ⟨l ++ [x], by simp [hl], fun i hi => ?_⟩
    by_cases e : i < n
    · obtain ⟨y, hy, hp'⟩ := hp i e
      exact ⟨y, by rw [List.getElem?_append_left (by omega)]; exact hy, hp'⟩
    · obtain rfl : i = n := by omega
      refine ⟨x, ?_, hx⟩
      rw [List.getElem?_append_right (by omega), hl]; simp
def bts (s : ByteArray) : List Nat := s.data.toList.map (·.toNat)
theorem byts_bts {l : List Nat} {s : ByteArray} (h : l = bts s) : Byts l := by
  subst h
  intro i c hc
  unfold bts at hc
  rw [List.getElem?_map] at hc
  cases hx : s.data.toList[i]? with
  | none => rw [hx] at hc; cases hc
  | some y => rw [hx] at hc; cases hc; exact y.toNat_lt
noncomputable def fs65 : Array Field := match Try.prog.underlying 65 with
  | some (.struct fs) => fs
  | _ => #[]
theorem un65 : Try.prog.underlying 65 = some (.struct fs65) := by kernel_rfl
theorem one65 : oneCellFields Try.prog fs65 = true := by kernel_rfl
theorem size65 : fs65.size = 7 := by kernel_rfl
theorem ce65 : Try.prog.cellsOf 65 = 7 := by kernel_rfl
theorem us60 : Try.prog.underlying 60 = some (.slice 65) := by kernel_rfl
theorem ty65_0 : (fs65[0]?).map (·.type) = some 5 := by kernel_rfl
theorem ty65_1 : (fs65[1]?).map (·.type) = some 27 := by kernel_rfl
theorem ty65_2 : (fs65[2]?).map (·.type) = some 9 := by kernel_rfl
theorem ty65_3 : (fs65[3]?).map (·.type) = some 3 := by kernel_rfl
theorem ty65_4 : (fs65[4]?).map (·.type) = some 3 := by kernel_rfl
theorem ty65_5 : (fs65[5]?).map (·.type) = some 27 := by kernel_rfl
theorem ty65_6 : (fs65[6]?).map (·.type) = some 9 := by kernel_rfl
theorem un65_3 : Try.prog.underlying 3 = some (.int .i64) := by kernel_rfl
theorem un65_5 : Try.prog.underlying 5 = some (.int .u8) := by kernel_rfl
theorem un65_9 : Try.prog.underlying 9 = some .string := by kernel_rfl
theorem un65_27 : Try.prog.underlying 27 = some (.int .u32) := by kernel_rfl
def AcAt (W : World) (a : Addr) (i : Nat) (x : Ac) : Prop := ∃ s2 s6, W.cell? (a.add (i * 7)) = some (.int .u8 x.what) ∧ 0 ≤ x.what ∧ x.what ≤ 255 ∧ W.cell? (a.add (i * 7 + 1)) = some (.int .u32 x.id) ∧ 0 ≤ x.id ∧ x.id ≤ 4294967295 ∧ x.data = bts s2 ∧ W.cell? (a.add (i * 7 + 2)) = some (.string s2) ∧ W.cell? (a.add (i * 7 + 3)) = some (.int .i64 x.block) ∧ -9223372036854775808 ≤ x.block ∧ x.block ≤ 9223372036854775807 ∧ W.cell? (a.add (i * 7 + 4)) = some (.int .i64 x.refs) ∧ -9223372036854775808 ≤ x.refs ∧ x.refs ≤ 9223372036854775807 ∧ W.cell? (a.add (i * 7 + 5)) = some (.int .u32 x.ask) ∧ 0 ≤ x.ask ∧ x.ask ≤ 4294967295 ∧ x.other = bts s6 ∧ W.cell? (a.add (i * 7 + 6)) = some (.string s6)
def Ac.Rng (x : Ac) : Prop := 0 ≤ x.what ∧ x.what ≤ 255 ∧ 0 ≤ x.id ∧ x.id ≤ 4294967295 ∧ Byts x.data ∧ -9223372036854775808 ≤ x.block ∧ x.block ≤ 9223372036854775807 ∧ -9223372036854775808 ≤ x.refs ∧ x.refs ≤ 9223372036854775807 ∧ 0 ≤ x.ask ∧ x.ask ≤ 4294967295 ∧ Byts x.other
section
variable {H : Type} {enc : TypeId × Value → H}
theorem Ac_in {W : World} {base n : Nat} {sp : Nat → Bool} {held : Bool} {a : Addr} {i : Nat} {cs' : List Value} {x : DataW H × List MemPlace} (hc : W.cells? base (a.add (i * 7)) 7 = some cs') (ht : DataW.trod enc Try.prog W base sp held n 65 cs' = some x) : ∃ x, AcAt W a i x := by
  obtain ⟨ys, n', _, _, hlen, hyl, hf⟩ := DataW.trod_struct un65 ht
  obtain ⟨_, hcl, hat⟩ := World.cells?_some hc
  rw [size65] at hyl
  have get : ∀ j t, j < 7 → (fs65[j]?).map (·.type) = some t → ∃ v y, W.cell? (a.add (i * 7 + j)) = some v ∧ DataW.trod enc Try.prog W base sp held n' t [v] = some y := by
    intro j t hj htj
    cases hfj : fs65[j]? with
    | none => rw [hfj] at htj; cases htj
    | some f =>
      rw [hfj] at htj
      have htj : f.type = t := Option.some.inj htj
      obtain ⟨ho, hk⟩ := hone_of one65 j f hfj
      have h1 := hf j f hfj
      rw [ho, hk] at h1
      have hone' : (cs'.drop j).take 1 = [cs'[j]'(by omega)] := by
        rw [List.drop_eq_getElem_cons (by omega)]; rfl
      rw [hone', List.getElem?_eq_getElem (by omega), htj] at h1
      refine ⟨cs'[j]'(by omega), _, ?_, h1⟩
      rw [← add_add, hat j hj, List.getElem?_eq_getElem (by omega)]
  obtain ⟨v0, y0, c0, t0⟩ := get 0 5 (by omega) ty65_0
  obtain ⟨v1, y1, c1, t1⟩ := get 1 27 (by omega) ty65_1
  obtain ⟨v2, y2, c2, t2⟩ := get 2 9 (by omega) ty65_2
  obtain ⟨v3, y3, c3, t3⟩ := get 3 3 (by omega) ty65_3
  obtain ⟨v4, y4, c4, t4⟩ := get 4 3 (by omega) ty65_4
  obtain ⟨v5, y5, c5, t5⟩ := get 5 27 (by omega) ty65_5
  obtain ⟨v6, y6, c6, t6⟩ := get 6 9 (by omega) ty65_6
  obtain ⟨n0, e0, _, w0⟩ := DataW.trod_int un65_5 t0
  obtain ⟨n1, e1, _, w1⟩ := DataW.trod_int un65_27 t1
  obtain ⟨s2, e2, _, _⟩ := DataW.trod_string un65_9 t2
  obtain ⟨n3, e3, _, w3⟩ := DataW.trod_int un65_3 t3
  obtain ⟨n4, e4, _, w4⟩ := DataW.trod_int un65_3 t4
  obtain ⟨n5, e5, _, w5⟩ := DataW.trod_int un65_27 t5
  obtain ⟨s6, e6, _, _⟩ := DataW.trod_string un65_9 t6
  cases e0; cases e1; cases e2; cases e3; cases e4; cases e5; cases e6
  simp only [Lit.wf, Bool.and_eq_true, decide_eq_true_eq] at w0
  simp only [Lit.wf, Bool.and_eq_true, decide_eq_true_eq] at w1
  simp only [Lit.wf, Bool.and_eq_true, decide_eq_true_eq] at w3
  simp only [Lit.wf, Bool.and_eq_true, decide_eq_true_eq] at w4
  simp only [Lit.wf, Bool.and_eq_true, decide_eq_true_eq] at w5
  exact ⟨⟨n0, n1, bts s2, n3, n4, n5, bts s6⟩, s2, s6, c0, w0.1, w0.2, c1, w1.1, w1.2, rfl, c2, c3, w3.1, w3.2, c4, w4.1, w4.2, c5, w5.1, w5.2, rfl, c6⟩
theorem Acs_in {W : World} {base : Nat} {v : Value} {d : DataW H} {p : List MemPlace} {r : Reach} {b0 : Nat} (hok : Value.okWide Try.prog W r b0 60 v)
    (h : DataW.Trod enc Try.prog W base (fun _ => true) true 60 v d p) (i : Nat) :
    ∃ (it : ArgIt) (lv : AV) (L : List Ac), (∀ l1 l2 : List ArgIt, l1.length = i → VR (argP (l1 ++ it :: l2)) lv v ∧ Acs (argH (l1 ++ it :: l2)) lv L) ∧ (∀ ρ, ArgOk W ρ it) ∧ (∀ i, i < L.length → (Ai L i).Rng) := by
  obtain ⟨a0, len, cap, rfl⟩ := okWide_slice us60 hok
  obtain ⟨n, hn⟩ := h
  have hn : DataW.trod enc Try.prog W base (fun _ => true) true n 60 [.slice a0 len cap] = some (d, p) := hn
  have hat : ∀ (l1 l2 : List ArgIt) (it : ArgIt), l1.length = i → (l1 ++ it :: l2)[i]? = some it := fun l1 l2 it hl => by subst hl; simp
  rcases open_slice us60 hn with ⟨e1, _⟩ | ⟨a, len', cap', m, n', D, Pl, e1, _, hle, _, hm, _, hi⟩
  · cases e1
    exact ⟨⟨none, ⟨0, 0, 0⟩⟩, .slice none 0 0 none, [], fun l1 l2 _ => ⟨⟨rfl, rfl, rfl, rfl⟩, rfl, none, 0, none, rfl, fun _ => rfl, (fun _ _ e => by cases e)⟩, (fun _ _ e => by cases e), (fun _ h => absurd h (Nat.not_lt_zero _))⟩
  · cases e1
    have hm : m = cap := hm
    subst hm
    by_cases h0 : m = 0
    · subst h0
      obtain rfl : len = 0 := by omega
      refine ⟨⟨none, ⟨0, 0, 0⟩⟩, .slice (some (i, 0)) 0 0 none, [], fun l1 l2 hl => ⟨⟨⟨0, 0, 0⟩, a, 0, ?_, rfl, Nat.le_refl _, Nat.le_refl _, fun _ => rfl, (fun _ e => by cases e), fun h => absurd rfl h⟩, rfl, some (i, 0), 0, none, rfl, (fun e => by cases e), fun b o e => ?_⟩, (fun _ _ e => by cases e), (fun _ h => absurd h (Nat.not_lt_zero _))⟩
      · unfold argP; rw [hat l1 l2 _ hl]; rfl
      · cases e; exact ⟨args_lt (hat l1 l2 _ hl), fun h => absurd h (Nat.lt_irrefl 0)⟩
    · rw [ce65] at hi
      obtain ⟨L, hL, hLi⟩ := exists_list (Pr := AcAt W a) len fun j hj => by
        obtain ⟨cs', hc, ht⟩ := hi j (by omega)
        exact Ac_in hc ht
      obtain ⟨x0, h00⟩ := (fun ⟨cs', hc, ht⟩ => Ac_in hc ht : _ → ∃ x, AcAt W a 0 x) (hi 0 (by omega))
      obtain ⟨ps2, ps6, pc0, pa0, pb0, pc1, pa1, pb1, pe2, pc2, pc3, pa3, pb3, pc4, pa4, pb4, pc5, pa5, pb5, pe6, pc6⟩ := h00
      obtain ⟨blk, off, spot⟩ := a
      have hadd : ∀ j, (⟨blk, off, spot⟩ : Addr).add j = if j = 0 then ⟨blk, off, spot⟩ else ⟨blk, off + j, none⟩ := fun j => rfl
      rw [Nat.zero_mul, hadd, if_pos rfl] at pc0
      have hex : ∃ c e fz, W.heap[blk]? = some (.cells c e fz) ∧ spot = none := by
        unfold World.cell? at pc0
        cases hh : W.heap[blk]? with
        | none => rw [hh] at pc0; cases pc0
        | some ob =>
          rw [hh] at pc0
          cases ob with
          | cells c e fz =>
            cases spot with
            | none => exact ⟨c, e, fz, rfl, rfl⟩
            | some k => cases pc0
          | _ => cases pc0
      obtain ⟨c, e', fz, hblk, rfl⟩ := hex
      have hcell : ∀ j w, W.cell? ((⟨blk, off, none⟩ : Addr).add j) = some w → c[off + j]? = some w := fun j w hw => by
        rw [hadd] at hw
        split at hw
        · rename_i e0; subst e0; rw [cell_of_heap hblk] at hw; exact hw
        · rw [cell_of_heap hblk] at hw; exact hw
      obtain ⟨xl, hl0⟩ := (fun ⟨cs', hc, ht⟩ => Ac_in hc ht : _ → ∃ x, AcAt W ⟨blk, off, none⟩ (m - 1) x) (hi (m - 1) (by omega))
      obtain ⟨ls2, ls6, lc0, la0, lb0, lc1, la1, lb1, le2, lc2, lc3, la3, lb3, lc4, la4, lb4, lc5, la5, lb5, le6, lc6⟩ := hl0
      have hsz : off + m * 7 ≤ c.size := by
        have := (Array.getElem?_eq_some_iff.1 (hcell _ _ lc6)).1
        omega
      have hLv : ∀ j (hj : j < L.length), AcAt W ⟨blk, off, none⟩ j L[j] := fun j hj => by
        obtain ⟨x, hx, hp⟩ := hLi j (by omega)
        rw [List.getElem?_eq_getElem hj] at hx
        rw [Option.some.inj hx]; exact hp
      refine ⟨⟨some (csA L), ⟨blk, off, c.size⟩⟩, .slice (some (i, 0)) len m none, L, fun l1 l2 hl => ⟨⟨⟨blk, off, c.size⟩, ⟨blk, off, none⟩, m, ?_, rfl, hle, Nat.le_refl _, fun _ => rfl, (fun _ e => by cases e), fun _ => rfl⟩, ?_⟩, ?_, ?_⟩
      · unfold argP; rw [hat l1 l2 _ hl]; rfl
      · refine ⟨csA_len L, some (i, 0), m, none, by rw [hL], (fun e => by cases e), fun b o e => ?_⟩
        cases e
        refine ⟨args_lt (hat l1 l2 _ hl), fun _ => ?_⟩
        rw [(args_Rw (hat l1 l2 _ hl)).ld (by rw [csA_len]; omega), List.drop_zero, List.take_of_length_le (by rw [csA_len]; omega)]
      · intro ρ xs hcs
        cases hcs
        refine ⟨c, e', fz, hblk, rfl, by rw [csA_len, hL]; exact Nat.le_trans (Nat.add_le_add_left (Nat.mul_le_mul_right 7 hle) _) hsz, fun j w hw => ?_⟩
        have hjl : j < L.length * 7 := by have := (List.getElem?_eq_some_iff.1 hw).1; rw [csA_len] at this; exact this
        have hq : j / 7 < L.length := by omega
        have hjk : j = j / 7 * 7 + j % 7 := by omega
        obtain ⟨qs2, qs6, qc0, qa0, qb0, qc1, qa1, qb1, qe2, qc2, qc3, qa3, qb3, qc4, qa4, qb4, qc5, qa5, qb5, qe6, qc6⟩ := hLv (j / 7) hq
        rw [hjk, csA_get L (j / 7) hq (j % 7) (Nat.mod_lt _ (by omega))] at hw
        have hr : j % 7 = 0 ∨ j % 7 = 1 ∨ j % 7 = 2 ∨ j % 7 = 3 ∨ j % 7 = 4 ∨ j % 7 = 5 ∨ j % 7 = 6 := by omega
        rcases hr with hr | hr | hr | hr | hr | hr | hr
        · rw [hr] at hw; cases hw
          have h5 := hcell _ _ qc0
          rw [show j / 7 * 7 = j by omega] at h5
          exact ⟨rfl, _, h5, rfl⟩
        · rw [hr] at hw; cases hw
          have h5 := hcell _ _ qc1
          rw [show j / 7 * 7 + 1 = j by omega] at h5
          exact ⟨rfl, _, h5, rfl⟩
        · rw [hr] at hw; cases hw
          have h5 := hcell _ _ qc2
          rw [show j / 7 * 7 + 2 = j by omega] at h5
          exact ⟨rfl, _, h5, qs2, rfl, qe2.symm⟩
        · rw [hr] at hw; cases hw
          have h5 := hcell _ _ qc3
          rw [show j / 7 * 7 + 3 = j by omega] at h5
          exact ⟨rfl, _, h5, rfl⟩
        · rw [hr] at hw; cases hw
          have h5 := hcell _ _ qc4
          rw [show j / 7 * 7 + 4 = j by omega] at h5
          exact ⟨rfl, _, h5, rfl⟩
        · rw [hr] at hw; cases hw
          have h5 := hcell _ _ qc5
          rw [show j / 7 * 7 + 5 = j by omega] at h5
          exact ⟨rfl, _, h5, rfl⟩
        · rw [hr] at hw; cases hw
          have h5 := hcell _ _ qc6
          rw [show j / 7 * 7 + 6 = j by omega] at h5
          exact ⟨rfl, _, h5, qs6, rfl, qe6.symm⟩
      · intro j hj
        rw [Ai_at hj]
        obtain ⟨qs2, qs6, qc0, qa0, qb0, qc1, qa1, qb1, qe2, qc2, qc3, qa3, qb3, qc4, qa4, qb4, qc5, qa5, qb5, qe6, qc6⟩ := hLv j hj
        exact ⟨qa0, qb0, qa1, qb1, byts_bts qe2, qa3, qb3, qa4, qb4, qa5, qb5, byts_bts qe6⟩
end
end Go.Proofs.Ytlfednnfkejcjaa

namespace Go.Proofs.Ytlfednnfkejcjaa
open Go.Am
set_option maxRecDepth 10000
def addS (L : List Ch) (next : Int) (s : List Nat) (block : Int) : (Int × Bool × Int) × List Ch × Int :=
  if s.length < 1 ∨ 64 < s.length then ((0, false, 4), L, next) else if (fdL L s).isSome then ((0, false, 6), L, next) else if next = 4294967295 then ((0, false, 12), L, next) else ((next, false, 0), L ++ [⟨next, s, block, 1⟩], next + 1)
def loadS (L : List Ch) (next : Int) (id : Int) (s : List Nat) (block refs : Int) : (Int × Bool × Int) × List Ch × Int :=
  if id = 0 ∨ id = 4294967295 then ((0, false, 2), L, next) else if s.length < 1 ∨ 64 < s.length ∨ refs < 1 ∨ 65535 < refs then ((0, false, 4), L, next) else if (gtL L id).isSome ∨ (fdL L s).isSome then ((0, false, 6), L, next) else ((0, false, 0), L ++ [⟨id, s, block, refs⟩], max next (id + 1))
def holdS (L : List Ch) (next : Int) (id : Int) : (Int × Bool × Int) × List Ch × Int :=
  match gtL L id with
  | none => ((0, false, 5), L, next)
  | some c => if c.refs = 65535 then ((0, false, 12), L, next) else ((0, false, 0), putC { c with refs := c.refs + 1 } L, next)
def relS (L : List Ch) (next : Int) (id : Int) : (Int × Bool × Int) × List Ch × Int :=
  match gtL L id with
  | none => ((0, false, 5), L, next)
  | some c => if 1 < c.refs then ((0, false, 0), putC { c with refs := c.refs - 1 } L, next) else ((0, true, 0), cutC id L, next)
def doS (a : Ac) (L : List Ch) (next : Int) : (Int × Bool × Int) × List Ch × Int :=
  if a.what.tmod 9 = 0 ∨ a.what.tmod 9 = 1 ∨ a.what.tmod 9 = 2 then addS L next a.data a.block
  else if a.what.tmod 9 = 3 then loadS L next a.id a.data a.block a.refs
  else if a.what.tmod 9 = 4 then holdS L next a.id
  else if a.what.tmod 9 = 5 ∨ a.what.tmod 9 = 6 then relS L next a.id
  else ((0, false, 0), L, max next a.id)
structure Same (L M : List Ch) : Prop where
  mem : ∀ c, c ∈ L ↔ c ∈ M
  nL : (L.map Ch.id).Nodup
  dL : (L.map Ch.data).Nodup
  nM : (M.map Ch.id).Nodup
  dM : (M.map Ch.data).Nodup
theorem Same.gt {L M : List Ch} (h : Same L M) (id : Int) : gtL M id = gtL L id := by
  cases hg : gtL L id with
  | none => exact gt_no fun c hc e => gt_none hg c ((h.mem c).2 hc) e
  | some c =>
    obtain ⟨g1, g2⟩ := gt_some hg
    rw [← g2]
    exact gt_mem h.nM ((h.mem c).1 g1)
theorem Same.fd {L M : List Ch} (h : Same L M) (s : List Nat) : fdL M s = fdL L s := by
  cases hg : fdL L s with
  | none => exact fd_no fun c hc e => fd_none hg c ((h.mem c).2 hc) e
  | some c =>
    obtain ⟨g1, g2⟩ := fd_some hg
    rw [← g2]
    exact fd_mem h.dM ((h.mem c).1 g1)
theorem Same.add {L M : List Ch} (h : Same L M) {x : Ch} (hi : gtL L x.id = none) (hd : fdL L x.data = none) : Same (L ++ [x]) (M ++ [x]) := by
  have hiM := hi; have hdM := hd
  rw [← h.gt] at hiM
  rw [← h.fd] at hdM
  have ni : ∀ (K : List Ch), gtL K x.id = none → x.id ∉ K.map Ch.id := fun K hk hm => by
    obtain ⟨c, hc, e⟩ := List.mem_map.1 hm
    exact gt_none hk c hc e
  have nd : ∀ (K : List Ch), fdL K x.data = none → x.data ∉ K.map Ch.data := fun K hk hm => by
    obtain ⟨c, hc, e⟩ := List.mem_map.1 hm
    exact fd_none hk c hc e
  refine ⟨fun c => by rw [List.mem_append, List.mem_append, h.mem c], ?_, ?_, ?_, ?_⟩
  · rw [List.map_append]; exact nodup_snoc h.nL (ni L hi)
  · rw [List.map_append]; exact nodup_snoc h.dL (nd L hd)
  · rw [List.map_append]; exact nodup_snoc h.nM (ni M hiM)
  · rw [List.map_append]; exact nodup_snoc h.dM (nd M hdM)
theorem Same.upd {L M : List Ch} (h : Same L M) {c c0 : Ch} (hg : gtL L c.id = some c0) (hd : c0.data = c.data) : Same (putC c L) (putC c M) := by
  have hgM := hg
  rw [← h.gt] at hgM
  obtain ⟨p1, p2, _, _⟩ := putC_upd c hg hd
  obtain ⟨q1, q2, _, _⟩ := putC_upd c hgM hd
  refine ⟨fun d => ?_, by rw [p1]; exact h.nL, by rw [p2]; exact h.dL, by rw [q1]; exact h.nM, by rw [q2]; exact h.dM⟩
  rw [putC_mem c h.nL hg, putC_mem c h.nM hgM, h.mem d]
theorem Same.cut {L M : List Ch} (h : Same L M) (id : Int) : Same (cutC id L) (cutC id M) :=
  ⟨fun d => by rw [cutC_mem h.nL, cutC_mem h.nM, h.mem d], h.nL.sublist ((cutC_sub id L).map _), h.dL.sublist ((cutC_sub id L).map _), h.nM.sublist ((cutC_sub id M).map _), h.dM.sublist ((cutC_sub id M).map _)⟩
theorem Same.does {L M : List Ch} (h : Same L M) (a : Ac) {next : Int} (hn : gtL L next = none) : (doS a M next).1 = (doS a L next).1 ∧ (doS a M next).2.2 = (doS a L next).2.2 ∧ Same (doS a L next).2.1 (doS a M next).2.1 := by
  unfold doS
  split
  · unfold addS
    rw [h.fd]
    split
    · exact ⟨rfl, rfl, h⟩
    · split
      · exact ⟨rfl, rfl, h⟩
      · rename_i hf
        split
        · exact ⟨rfl, rfl, h⟩
        · exact ⟨rfl, rfl, h.add hn (by simpa using hf)⟩
  · split
    · unfold loadS
      rw [h.fd, h.gt]
      split
      · exact ⟨rfl, rfl, h⟩
      · split
        · exact ⟨rfl, rfl, h⟩
        · split
          · exact ⟨rfl, rfl, h⟩
          · rename_i hf
            simp only [not_or, Bool.not_eq_true, Option.isSome_eq_false_iff, Option.isNone_iff_eq_none] at hf
            exact ⟨rfl, rfl, h.add hf.1 hf.2⟩
    · split
      · unfold holdS
        rw [h.gt]
        cases hg : gtL L a.id with
        | none => exact ⟨rfl, rfl, h⟩
        | some c =>
          simp only
          split
          · exact ⟨rfl, rfl, h⟩
          · exact ⟨rfl, rfl, h.upd (c := { c with refs := c.refs + 1 }) (c0 := c) (by show gtL L c.id = _; rw [(gt_some hg).2]; exact hg) rfl⟩
      · split
        · unfold relS
          rw [h.gt]
          cases hg : gtL L a.id with
          | none => exact ⟨rfl, rfl, h⟩
          | some c =>
            simp only
            split
            · exact ⟨rfl, rfl, h.upd (c := { c with refs := c.refs - 1 }) (c0 := c) (by show gtL L c.id = _; rw [(gt_some hg).2]; exact hg) rfl⟩
            · exact ⟨rfl, rfl, h.cut a.id⟩
        · exact ⟨rfl, rfl, h⟩
end Go.Proofs.Ytlfednnfkejcjaa

namespace Go.Proofs.Ytlfednnfkejcjaa
open Go.Am
set_option maxRecDepth 10000
def Tx (h h' : Heap) (tb : Nat) (F : Nat → Prop) (L' : List Ch) (next' : Int) : Prop := ∃ F', TabAt h' tb L' next' F' ∧ Sm F h h' ∧ ∀ b, F' b → F b ∨ h.next ≤ b
section
variable {h h1 h2 : Heap} {tb : Nat} {L L' : List Ch} {next next' : Int} {F : Nat → Prop}
theorem Tx.stay (ht : TabAt h tb L next F) (s : Sm NoB h h1) : Tx h h1 tb F L next := ⟨F, ht.sm s (fun _ _ h => h), s.no, fun _ h => .inl h⟩
theorem Tx.pre (s : Sm NoB h h1) (x : Tx h1 h2 tb F L' next') : Tx h h2 tb F L' next' := by
  obtain ⟨F', a, b, c⟩ := x
  exact ⟨F', a, s.trans b (fun _ _ h => h.elim) (fun _ _ h => h), fun q hq => (c q hq).imp (fun h => h) (fun h => Nat.le_trans s.1 h)⟩
theorem add_pl {n : Nat} (hn : 6 ≤ n) (ht : TabAt h tb L next F) {s : List Nat} (block : Int) (hl : s.length ≤ 1000) (hb : Byts s) (hlen : L.length ≤ 1000) :
    ∃ h', C n (.fn 17) [.ptr (some (tb, 0)), .str s, .int .i64 block] h = some (.tuple [u (addS L next s block).1.1, .int .i64 (addS L next s block).1.2.2], h') ∧ (addS L next s block).1.2.1 = false ∧ Tx h h' tb F (addS L next s block).2.1 (addS L next s block).2.2 := by
  obtain ⟨r, h', e, hc⟩ := tadd_full hn ht block hl hb hlen
  refine ⟨h', ?_⟩
  unfold addS
  rcases hc with ⟨c1, rfl, s1⟩ | ⟨c1, ⟨⟨c, c2⟩, rfl, s1⟩ | ⟨c2, ⟨c3, rfl, s1⟩ | ⟨c3, rfl, F', t, s1, f⟩⟩⟩
  · rw [if_pos c1]; exact ⟨e, rfl, Tx.stay ht s1⟩
  · rw [if_neg c1, c2, if_pos (show (some c).isSome = true from rfl)]; exact ⟨e, rfl, Tx.stay ht s1⟩
  · rw [if_neg c1, c2, if_neg (by simp), if_pos c3]; exact ⟨e, rfl, Tx.stay ht s1⟩
  · rw [if_neg c1, c2, if_neg (by simp), if_neg c3]; exact ⟨e, rfl, F', t, s1, f⟩
theorem load_pl {n : Nat} (hn : 6 ≤ n) (ht : TabAt h tb L next F) (id : Int) (hid : 0 ≤ id ∧ id ≤ 4294967295) {s : List Nat} (block refs : Int) (hl : s.length ≤ 1000) (hb : Byts s) (hlen : L.length ≤ 1000) :
    ∃ h', C n (.fn 36) [.ptr (some (tb, 0)), u id, .str s, .int .i64 block, .int .i64 refs] h = some (.int .i64 (loadS L next id s block refs).1.2.2, h') ∧ (loadS L next id s block refs).1.1 = 0 ∧ (loadS L next id s block refs).1.2.1 = false ∧ Tx h h' tb F (loadS L next id s block refs).2.1 (loadS L next id s block refs).2.2 := by
  obtain ⟨r, h', e, hc⟩ := tload_ok hn ht id hid block refs hl hb hlen
  refine ⟨h', ?_⟩
  unfold loadS
  rcases hc with ⟨c1, rfl, s1⟩ | ⟨c1, ⟨c2, rfl, s1⟩ | ⟨c2, ⟨c3, rfl, s1⟩ | ⟨c3, c4, rfl, F', t, s1, f⟩⟩⟩
  · rw [if_pos c1]; exact ⟨e, rfl, rfl, Tx.stay ht s1⟩
  · rw [if_neg c1, if_pos c2]; exact ⟨e, rfl, rfl, Tx.stay ht s1⟩
  · have c3' : (gtL L id).isSome = true ∨ (fdL L s).isSome = true := by
      rcases c3 with ⟨c, h⟩ | ⟨c, h⟩
      · exact .inl (by rw [h]; rfl)
      · exact .inr (by rw [h]; rfl)
    rw [if_neg c1, if_neg c2, if_pos c3']; exact ⟨e, rfl, rfl, Tx.stay ht s1⟩
  · rw [if_neg c1, if_neg c2, c3, c4, if_neg (by simp)]; exact ⟨e, rfl, rfl, F', t, s1, f⟩
theorem hold_pl {n : Nat} (hn : 3 ≤ n) (ht : TabAt h tb L next F) (id : Int) :
    ∃ h', C n (.fn 16) [.ptr (some (tb, 0)), u id] h = some (.int .i64 (holdS L next id).1.2.2, h') ∧ (holdS L next id).1.1 = 0 ∧ (holdS L next id).1.2.1 = false ∧ Tx h h' tb F (holdS L next id).2.1 (holdS L next id).2.2 := by
  obtain ⟨r, h', e, hc⟩ := hold_full hn ht id
  refine ⟨h', ?_⟩
  unfold holdS
  rcases hc with ⟨c1, rfl, s1⟩ | ⟨c, c1, ⟨c2, rfl, s1⟩ | ⟨c2, rfl, t, s1⟩⟩
  · rw [c1]; exact ⟨e, rfl, rfl, Tx.stay ht s1⟩
  · rw [c1]; simp only; rw [if_pos c2]; exact ⟨e, rfl, rfl, Tx.stay ht s1⟩
  · rw [c1]; simp only; rw [if_neg c2]; exact ⟨e, rfl, rfl, F, t, s1, fun _ h => .inl h⟩
theorem rel_pl {n : Nat} (hn : 4 ≤ n) (ht : TabAt h tb L next F) (id : Int) :
    ∃ h', C n (.fn 15) [.ptr (some (tb, 0)), u id] h = some (.tuple [.bool (relS L next id).1.2.1, .int .i64 (relS L next id).1.2.2], h') ∧ (relS L next id).1.1 = 0 ∧ Tx h h' tb F (relS L next id).2.1 (relS L next id).2.2 := by
  obtain ⟨r, h', e, hc⟩ := release_full hn ht id
  refine ⟨h', ?_⟩
  unfold relS
  rcases hc with ⟨c1, rfl, s1⟩ | ⟨c, c1, s1, ⟨c2, rfl, t⟩ | ⟨c2, rfl, F', t, f⟩⟩
  · rw [c1]; exact ⟨e, rfl, Tx.stay ht s1⟩
  · rw [c1]; simp only; rw [if_pos c2]; exact ⟨e, rfl, F, t, s1, fun _ h => .inl h⟩
  · rw [c1]; simp only; rw [if_neg c2]; exact ⟨e, rfl, F', t, s1, fun b h => .inl (f b h)⟩
end
end Go.Proofs.Ytlfednnfkejcjaa

namespace Go.Proofs.Ytlfednnfkejcjaa
open Go.Am
set_option maxRecDepth 10000
section
variable {h h1 h2 : Heap} {tb : Nat} {L L' : List Ch} {next next' : Int} {F : Nat → Prop}
theorem does_ok {n : Nat} (hn : 7 ≤ n) (ht : TabAt h tb L next F) (hlen : L.length ≤ 900) (a : Ac) (ok : a.Ok) :
    WC (C n (.fn 33) [.ptr (some (tb, 0)), .agg a.c] h) fun r h' => r = .tuple [u (doS a L next).1.1, .bool (doS a L next).1.2.1, .int .i64 (doS a L next).1.2.2] ∧ Tx h h' tb F (doS a L next).2.1 (doS a L next).2.2 := by
  obtain ⟨hid, hbd, _, _, hld, _⟩ := ok
  obtain ⟨m, rfl⟩ : ∃ m, n = m + 1 := ⟨n - 1, by omega⟩
  refine call_fn _ f33A rfl (by simp [fn33]) fun QQ hQ => ?_
  simp only [fn33] at hQ
  simp only [fn33, fill_cons, fill_nil, Nat.zero_add, Nat.reduceAdd]
  obtain ⟨h1, e1, rx, n1, g1⟩ := Rw.alloc h (id := h.next) (n := 7) (vs := a.c) (z := []) (ro := false) (Nat.le_refl _) rfl
  have s1 : Sm NoB h h1 := ⟨by omega, fun c hc _ => g1 c (by omega)⟩
  have ht1 := ht.sm s1 (fun _ _ h => h)
  have i0 := rx.ld1 0
  have i1 := rx.ld1 1
  have i2 := rx.ld1 2
  have i3 := rx.ld1 3
  have i4 := rx.ld1 4
  unfold Ac.c at e1 i0 i1 i2 i3 i4
  simp only [List.getElem?_cons_zero, List.getElem?_cons_succ] at i0 i1 i2 i3 i4
  obtain ⟨q, hq⟩ : ∃ q, q = a.what.tmod 9 := ⟨_, rfl⟩
  have hrem : bin2 P .rem 5 (.int .u8 a.what) (.int .u8 9) = some (.int .u8 q) := by rw [hq]; exact b_rem (by decide)
  by_cases q0 : q = 0
  · obtain ⟨h2, ea, f1, tx⟩ := add_pl (n := m) (by omega) ht1 (s := a.data) a.block (by omega) hbd (by omega)
    have hd : doS a L next = addS L next a.data a.block := by unfold doS; rw [← hq, q0]; rfl
    simp only [F33, SS, Nat.reduceBEq, Nat.reduceEqDiff, Nat.reduceAdd, reduceIte, Nat.reduceMul, e1, Ac.c, x_fa_65_0, x_fa_65_1, x_fa_65_2, x_fa_65_3, x_fa_65_4, i0, i1, i2, i3, i4, hrem, decide_eq_true q0, ea]
    refine hQ _ _ _ _ (.inr rfl) (by simp only [SS, Nat.reduceBEq]) (by simp only [SS, Nat.reduceBEq, Nat.reduceEqDiff, Nat.reduceAdd, reduceIte, Nat.reduceMul]; rfl) ?_
    rw [hd, f1]
    exact ⟨rfl, tx.pre s1⟩
  by_cases q1 : q = 1
  · obtain ⟨h2, ea, f1, tx⟩ := add_pl (n := m) (by omega) ht1 (s := a.data) a.block (by omega) hbd (by omega)
    have hd : doS a L next = addS L next a.data a.block := by unfold doS; rw [← hq, q1]; rfl
    simp only [F33, SS, Nat.reduceBEq, Nat.reduceEqDiff, Nat.reduceAdd, reduceIte, Nat.reduceMul, e1, Ac.c, x_fa_65_0, x_fa_65_1, x_fa_65_2, x_fa_65_3, x_fa_65_4, i0, i1, i2, i3, i4, hrem, decide_eq_false (show ¬ q = 0 by omega), decide_eq_true q1, ea]
    refine hQ _ _ _ _ (.inr rfl) (by simp only [SS, Nat.reduceBEq]) (by simp only [SS, Nat.reduceBEq, Nat.reduceEqDiff, Nat.reduceAdd, reduceIte, Nat.reduceMul]; rfl) ?_
    rw [hd, f1]
    exact ⟨rfl, tx.pre s1⟩
  by_cases q2 : q = 2
  · obtain ⟨h2, ea, f1, tx⟩ := add_pl (n := m) (by omega) ht1 (s := a.data) a.block (by omega) hbd (by omega)
    have hd : doS a L next = addS L next a.data a.block := by unfold doS; rw [← hq, q2]; rfl
    simp only [F33, SS, Nat.reduceBEq, Nat.reduceEqDiff, Nat.reduceAdd, reduceIte, Nat.reduceMul, e1, Ac.c, x_fa_65_0, x_fa_65_1, x_fa_65_2, x_fa_65_3, x_fa_65_4, i0, i1, i2, i3, i4, hrem, decide_eq_false (show ¬ q = 0 by omega), decide_eq_false (show ¬ q = 1 by omega), decide_eq_true q2, ea]
    refine hQ _ _ _ _ (.inr rfl) (by simp only [SS, Nat.reduceBEq]) (by simp only [SS, Nat.reduceBEq, Nat.reduceEqDiff, Nat.reduceAdd, reduceIte, Nat.reduceMul]; rfl) ?_
    rw [hd, f1]
    exact ⟨rfl, tx.pre s1⟩
  by_cases q3 : q = 3
  · obtain ⟨h2, ea, f1, f2, tx⟩ := load_pl (n := m) (by omega) ht1 a.id hid (s := a.data) a.block a.refs (by omega) hbd (by omega)
    have hd : doS a L next = loadS L next a.id a.data a.block a.refs := by unfold doS; rw [← hq, q3]; rfl
    simp only [F33, SS, Nat.reduceBEq, Nat.reduceEqDiff, Nat.reduceAdd, reduceIte, Nat.reduceMul, e1, Ac.c, x_fa_65_0, x_fa_65_1, x_fa_65_2, x_fa_65_3, x_fa_65_4, i0, i1, i2, i3, i4, hrem, decide_eq_false (show ¬ q = 0 by omega), decide_eq_false (show ¬ q = 1 by omega), decide_eq_false (show ¬ q = 2 by omega), decide_eq_true q3, ea]
    refine hQ _ _ _ _ (.inr rfl) (by simp only [SS, Nat.reduceBEq]) (by simp only [SS, Nat.reduceBEq, Nat.reduceEqDiff, Nat.reduceAdd, reduceIte, Nat.reduceMul]; rfl) ?_
    rw [hd, f1, f2]
    exact ⟨rfl, tx.pre s1⟩
  by_cases q4 : q = 4
  · obtain ⟨h2, ea, f1, f2, tx⟩ := hold_pl (n := m) (by omega) ht1 a.id
    have hd : doS a L next = holdS L next a.id := by unfold doS; rw [← hq, q4]; rfl
    simp only [F33, SS, Nat.reduceBEq, Nat.reduceEqDiff, Nat.reduceAdd, reduceIte, Nat.reduceMul, e1, Ac.c, x_fa_65_0, x_fa_65_1, x_fa_65_2, x_fa_65_3, x_fa_65_4, i0, i1, i2, i3, i4, hrem, decide_eq_false (show ¬ q = 0 by omega), decide_eq_false (show ¬ q = 1 by omega), decide_eq_false (show ¬ q = 2 by omega), decide_eq_false (show ¬ q = 3 by omega), decide_eq_true q4, ea]
    refine hQ _ _ _ _ (.inr rfl) (by simp only [SS, Nat.reduceBEq]) (by simp only [SS, Nat.reduceBEq, Nat.reduceEqDiff, Nat.reduceAdd, reduceIte, Nat.reduceMul]; rfl) ?_
    rw [hd, f1, f2]
    exact ⟨rfl, tx.pre s1⟩
  by_cases q5 : q = 5
  · obtain ⟨h2, ea, f1, tx⟩ := rel_pl (n := m) (by omega) ht1 a.id
    have hd : doS a L next = relS L next a.id := by unfold doS; rw [← hq, q5]; rfl
    simp only [F33, SS, Nat.reduceBEq, Nat.reduceEqDiff, Nat.reduceAdd, reduceIte, Nat.reduceMul, e1, Ac.c, x_fa_65_0, x_fa_65_1, x_fa_65_2, x_fa_65_3, x_fa_65_4, i0, i1, i2, i3, i4, hrem, decide_eq_false (show ¬ q = 0 by omega), decide_eq_false (show ¬ q = 1 by omega), decide_eq_false (show ¬ q = 2 by omega), decide_eq_false (show ¬ q = 3 by omega), decide_eq_false (show ¬ q = 4 by omega), decide_eq_true q5, ea]
    refine hQ _ _ _ _ (.inr rfl) (by simp only [SS, Nat.reduceBEq]) (by simp only [SS, Nat.reduceBEq, Nat.reduceEqDiff, Nat.reduceAdd, reduceIte, Nat.reduceMul]; rfl) ?_
    rw [hd, f1]
    exact ⟨rfl, tx.pre s1⟩
  by_cases q6 : q = 6
  · obtain ⟨h2, ea, f1, tx⟩ := rel_pl (n := m) (by omega) ht1 a.id
    have hd : doS a L next = relS L next a.id := by unfold doS; rw [← hq, q6]; rfl
    simp only [F33, SS, Nat.reduceBEq, Nat.reduceEqDiff, Nat.reduceAdd, reduceIte, Nat.reduceMul, e1, Ac.c, x_fa_65_0, x_fa_65_1, x_fa_65_2, x_fa_65_3, x_fa_65_4, i0, i1, i2, i3, i4, hrem, decide_eq_false (show ¬ q = 0 by omega), decide_eq_false (show ¬ q = 1 by omega), decide_eq_false (show ¬ q = 2 by omega), decide_eq_false (show ¬ q = 3 by omega), decide_eq_false (show ¬ q = 4 by omega), decide_eq_false (show ¬ q = 5 by omega), decide_eq_true q6, ea]
    refine hQ _ _ _ _ (.inr rfl) (by simp only [SS, Nat.reduceBEq]) (by simp only [SS, Nat.reduceBEq, Nat.reduceEqDiff, Nat.reduceAdd, reduceIte, Nat.reduceMul]; rfl) ?_
    rw [hd, f1]
    exact ⟨rfl, tx.pre s1⟩
  obtain ⟨_, h2, ea, t2, s2⟩ := tskip_ok (n := m) (by omega) ht1 a.id hid
  have hd : doS a L next = ((0, false, 0), L, max next a.id) := by
    unfold doS; rw [← hq, if_neg (by omega), if_neg q3, if_neg q4, if_neg (by omega)]
  simp only [F33, SS, Nat.reduceBEq, Nat.reduceEqDiff, Nat.reduceAdd, reduceIte, Nat.reduceMul, e1, Ac.c, x_fa_65_0, x_fa_65_1, x_fa_65_2, x_fa_65_3, x_fa_65_4, i0, i1, i2, i3, i4, hrem, decide_eq_false q0, decide_eq_false q1, decide_eq_false q2, decide_eq_false q3, decide_eq_false q4, decide_eq_false q5, decide_eq_false q6, ea]
  refine hQ _ _ _ _ (.inr rfl) (by simp only [SS, Nat.reduceBEq]) (by simp only [SS, Nat.reduceBEq, Nat.reduceEqDiff, Nat.reduceAdd, reduceIte, Nat.reduceMul]; rfl) ?_
  rw [hd]
  exact ⟨rfl, Tx.pre s1 ⟨F, t2, s2, fun _ h => .inl h⟩⟩
end
end Go.Proofs.Ytlfednnfkejcjaa

namespace Go.Proofs.Ytlfednnfkejcjaa
open Go.Am
set_option maxRecDepth 10000
theorem app_full {P : Program} {t : TypeId} {e k by' m n b o id : Nat} {h : Heap} {zv x : AV} {ys old : List AV} (hu : P.underlying t = some (.slice e)) (hs : tSize P e = some (k + 1)) (hb : tBytes P e = some by') (hz : tZero P e = some zv) (hzl : zv.cells.length = k + 1)
    (hsrc : srcOf (k + 1) (fun n => n) x h = some (ys, m)) (hyl : ys.length = m * (k + 1)) (hy1 : (old ++ ys).all AV.one = true) (hr : room by' (n + m) = true) (hld : h.ld b o (n * (k + 1)) = some old) :
    appendS P t (.slice (some (b, o)) n n none) x id h = if m = 0 then some (.slice (some (b, o)) n n none, h) else some (.slice (some (id, 0)) (n + m) (n + m) (some (k + 1)), h.new id (.cells (fillC (old ++ ys) .leaf 0) (tyMark e false) (old ++ ys).length false)) := by
  rw [appendS_eq hu hs hb hz hzl hsrc hyl hr]
  cases m with
  | zero => rfl
  | succ m =>
    rw [if_neg (by omega), if_neg (by omega)]
    have hble : Nat.ble (n + (m + 1)) n = false := by
      cases hb' : Nat.ble (n + (m + 1)) n with
      | false => rfl
      | true => have := Nat.le_of_ble_eq_true hb'; omega
    have e1 : appAt (k + 1) e (some (b, o)) n n none id h ys (m + 1) = Option.rec (motive := fun _ => Option (AV × Heap)) none (fun old => appNew (k + 1) (n + (m + 1)) (tyMark e false) id h (app' old ys)) (h.ld b o (n * (k + 1))) := by
      show (Bool.rec (motive := fun _ => Option (AV × Heap)) _ _ (Nat.ble (n + (m + 1)) n) : Option (AV × Heap)) = _
      rw [hble]
      rfl
    rw [e1, hld]
    show appNew (k + 1) (n + (m + 1)) (tyMark e false) id h (app' old ys) = _
    rw [app'_eq, appNew_eq hy1]
theorem keep34 : keepF P 34 38 = false := by kernel_rfl
theorem nt34 : ntOf P 34 = 38 := by kernel_rfl
structure Rec34 (l b6 : Nat) (h : Heap) (b : LRec) : Prop where
  at' : h.bs.gt l = some (.loop b)
  st : b.st = .ready
  pd : b.pending = none
  fn : b.fn = 34
  ps : b.params = [14]
  asg : b.assign = c34_18A
  bo : b.body = c34_18B
  t6 : b.tm.gt 6 = some (.ptr (some (b6, 0)))
  t38 : b.tm.gt 38 = none
abbrev idsR (R : List Ch) : List AV := (R.map Ch.id).map u
structure J34 (h0 : Heap) (l b6 lo hi : Nat) (R : List Ch) (i : Nat) (h : Heap) : Prop where
  rc : ∃ b, Rec34 l b6 h b
  o : ∃ v z bs, Rw h b6 [v] z false ∧ SlO 27 1 h v i (idsR (R.take i)) bs ∧ ∀ b, b ∈ bs → h0.next ≤ b ∧ b ≠ b6 ∧ b ≠ l ∧ (b < lo ∨ hi ≤ b)
  sm : Sm NoB h0 h
  lt : b6 < h.next ∧ l < h.next ∧ hi ≤ h.next
  ge : h0.next ≤ b6 ∧ h0.next ≤ l
  ne : l ≠ b6
section
variable {h0 h : Heap} {l b6 lo hi : Nat} {R : List Ch} {i : Nat}
theorem iround_ok {m : Nat} (hm : 1 ≤ m) (hj : J34 h0 l b6 lo hi R i h) (hi' : i < R.length) (hR : R.length ≤ 1000) (hlo : l < lo ∧ b6 < lo) :
    WC (C m (.loop l) [u (Ri R i).id] h) fun v h2 => v = .bool true ∧ J34 h0 l b6 lo hi R (i + 1) h2 ∧ ∀ b, lo ≤ b → b < hi → h2.bs.gt b = h.bs.gt b := by
  obtain ⟨m, rfl⟩ : ∃ m', m = m' + 1 := ⟨m - 1, by omega⟩
  obtain ⟨⟨b, hat, hst, hpd, hfn, hps, has, hbo, t6, t38⟩, ⟨v, z, bs, r6, ow, hbs⟩, sm, ⟨l6, ll, lhi⟩, ge, ne⟩ := hj
  refine call_loop _ hat (nt := 38) (CA := c34_19) (CB := c34_20) (tm' := b.tm.up (some (u (Ri R i).id)) 14) (by rw [hfn]; exact nt34) (by rw [hps]; rfl) (by rw [hfn]; exact keep34) t38 (by rw [hfn, has]; exact q34_18a) (by rw [hfn, hbo]; exact q34_18b) fun QA hA => ?_
  rw [hfn] at hA ⊢
  simp only [F34, SS, Nat.reduceBEq, Nat.reduceEqDiff, Nat.reduceAdd, reduceIte, Nat.reduceMul]
  refine hA _ _ b hat hst fun QB hB => ?_
  obtain ⟨h3, e3, m3, n3, s3⟩ := put_sm (h := h) (b := l) (x := .loop { b with st := .busy })
  rw [e3]
  have hq0 := sm.1
  have r63 := r6.sm s3 l6 (fun e => ne e.symm)
  have ow3 := ow.sm s3 (fun b hb e => (hbs b hb).2.2.1 e)
  have hbl := ow3.lt
  have k6 := r63.ld1 0
  rw [List.getElem?_cons_zero] at k6
  obtain ⟨h4, e4, r4, n4, g4⟩ := Rw.alloc h3 (id := h3.next) (n := 1) (vs := [u (Ri R i).id]) (z := []) (ro := false) (Nat.le_refl _) rfl
  have ow4 : SlO 27 1 h4 v i (idsR (R.take i)) bs := ow3.same (fun b hb => g4 b (by have := hbl b hb; omega)) (by omega)
  have hs4 : srcOf 1 (fun n => n) (.slice (some (h3.next, 0)) 1 1 none) h4 = some ([u (Ri R i).id], 1) := srcOf_row r4 (Nat.le_refl _)
  obtain ⟨v5, h5, bs5, e5, o5, n5, g5, b5, _⟩ := app_own (t := 43) (id := h4.next) u_43 s_27 b_27 z_27 rfl ow4 hs4 (by decide) rfl rfl (room_le (by omega) (by omega)) (Nat.le_refl _)
  have h6b : b6 ∉ bs := fun h => (hbs b6 h).2.1 rfl
  have hlb : l ∉ bs := fun h => (hbs l h).2.2.1 rfl
  have r65 : Rw h5 b6 [v] z false := r63.same (by rw [g5 b6 h6b (by omega), g4 b6 (by omega)])
  obtain ⟨w1, w2, w3, w4⟩ := r65.st1 (o := 0) (v := v5) (by simp) (by rcases o5 with ⟨rfl, _⟩ | ⟨_, _, _, _, rfl, _⟩ <;> rfl)
  rw [show ([v] : List AV).set 0 v5 = [v5] from rfl] at w2
  simp only [F34, SS, Nat.reduceBEq, Nat.reduceEqDiff, Nat.reduceAdd, reduceIte, Nat.reduceMul, t6, k6, x_bs_43_1, e4, e5, w1]
  have hla : (h5.wr b6 0 [v5]).bs.gt l = some (.loop { b with st := .busy }) := by rw [w4 l ne, g5 l hlb (by omega), g4 l (by omega)]; exact m3
  refine hB _ _ _ _ hla rfl ?_
  obtain ⟨h6, e6, m6, n6, s6⟩ := put_sm (h := h5.wr b6 0 [v5]) (b := l) (x := .loop (endL .normal { b with st := .busy }).2)
  rw [e6]
  have hkeep : ∀ c, c < h.next → c ∉ bs → c ≠ b6 → c ≠ l → h6.bs.gt c = h.bs.gt c := fun c hc h1 h2 h3' => by
    rw [s6.2 c (by omega) h3', w4 c h2, g5 c h1 (by omega), g4 c (by omega), s3.2 c hc h3']
  have hb5 : ∀ c, c ∈ bs5 → h0.next ≤ c ∧ c ≠ b6 ∧ c ≠ l ∧ (c < lo ∨ hi ≤ c) := fun c hc => by
    rcases b5 c hc with h | h
    · exact hbs c h
    · exact ⟨by omega, by omega, by omega, .inr (by omega)⟩
  refine ⟨rfl, ⟨⟨_, m6, rfl, rfl, hfn, hps, has, hbo, t6, t38⟩, ⟨v5, z, bs5, w2.sm s6 (by omega) (fun e => ne e.symm), ?_, hb5⟩, ⟨by omega, fun c hc _ => ?_⟩, ⟨by omega, by omega, by omega⟩, ge, ne⟩, fun c h7 h8 => hkeep c (by omega) (fun h => by have := (hbs c h).2.2.2; omega) (by omega) (by omega)⟩
  · have : idsR (R.take (i + 1)) = idsR (R.take i) ++ [u (Ri R i).id] := by
      rw [List.take_succ_eq_append_getElem hi', ← Ri_at hi']; simp [idsR]
    rw [this]
    exact o5.same (fun c hc => by rw [s6.2 c (by have := o5.lt c hc; omega) (hb5 c hc).2.2.1, w4 c (hb5 c hc).2.1]) (by omega)
  · rw [hkeep c (by omega) (fun h => by have := (hbs c h).1; omega) (by omega) (by omega), sm.2 c hc (fun h => h)]
end
end Go.Proofs.Ytlfednnfkejcjaa

namespace Go.Proofs.Ytlfednnfkejcjaa
open Go.Am
set_option maxRecDepth 10000
theorem rg1 {h : Heap} {a : Option (Nat × Nat)} {n c : Nat} {g : Option Nat} {cs : List AV} {bs : List Nat} {e : Nat} (ho : SlO e 1 h (.slice a n c g) n cs bs) : gOk g 1 = true ∧ n ≤ c := by
  rcases ho with ⟨e1, h0, _⟩ | ⟨b, c', _, _, e1, _, _, hle, _⟩
  · cases e1; exact ⟨rfl, Nat.le_refl _⟩
  · cases e1; exact ⟨rfl, hle⟩
section
variable {h : Heap} {tb : Nat} {L R : List Ch} {next : Int} {F : Nat → Prop}
theorem ids_ok {n : Nat} (hn : 5 ≤ n) (ht : TabAt h tb L next F) (hrel : Rel L R) (hlen : L.length ≤ 900) (f : Nat) (hf : f ≤ 255) :
    WC (C n (.fn 34) [.ptr (some (tb, 0)), .int .u8 (f : Int)] h) fun r h' => ∃ cs : List Ch, Els h' r R.length 1 ((cs.map Ch.id).map u) ∧ cs.Perm R ∧ Sm NoB h h' ∧ ∀ b, blkOf r b → h.next ≤ b := by
  have hrl := hrel.len
  obtain ⟨m, rfl⟩ : ∃ m, n = m + 1 := ⟨n - 1, by omega⟩
  refine call_fn _ f34A rfl (by simp [fn34]) fun QQ hQ => ?_
  simp only [fn34] at hQ
  simp only [fn34, fill_cons, fill_nil, Nat.zero_add, Nat.reduceAdd]
  obtain ⟨_, h1, ea, bx, rfl, rx, lx, s01, gx⟩ := all_ok (n := m) (by omega) (h := h) (tb := tb)
  obtain ⟨h2, e2, r2, n2, g2⟩ := Rw.alloc h1 (id := h1.next) (n := 1) (vs := [.slice none 0 0 none]) (z := tyMark 43 true) (ro := false) (Nat.le_refl _) rfl
  have s12 : Sm NoB h1 h2 := ⟨by omega, fun c hc _ => g2 c (by omega)⟩
  have s02 : Sm NoB h h2 := s01.trans s12 (fun _ _ h => h) (fun _ _ h => h)
  have q01 := s01.1
  have key : ∀ tm, tm.gt 1 = some (.int .u8 (f : Int)) → tm.gt 6 = some (.ptr (some (h1.next, 0))) → tm.gt 13 = some (.func (.func 87) [] [.ptr (some (bx, 0))]) → tm.gt 38 = none → run (C m) 100000 38 34 none c34_18 [.blk 0, .seq c34_22] tm h2 QQ := by
    intro tm t1 t6 t13 t38
    refine run_rangeF (t := 13) (i := 87) (ps := [14]) (A := c34_18A) (B := c34_18B) t13 ?_
    generalize hlb : LRec.mk .ready none 34 (tm.up none 38) [14] c34_18A c34_18B = lr
    have b6 : lr.tm.gt 6 = some (.ptr (some (h1.next, 0))) := by rw [← hlb]; show (tm.up none 38).gt 6 = _; simp only [SS, Nat.reduceBEq, Nat.reduceEqDiff, Nat.reduceAdd, reduceIte, Nat.reduceMul, t6]
    have b38 : lr.tm.gt 38 = none := by rw [← hlb]; show (tm.up none 38).gt 38 = _; simp only [SS, Nat.reduceBEq, Nat.reduceEqDiff, Nat.reduceAdd, reduceIte, Nat.reduceMul]
    obtain ⟨h7, e7⟩ : ∃ h7, h2.new h2.next (.loop lr) = h7 := ⟨_, rfl⟩
    have m7 : h7.bs.gt h2.next = some (.loop lr) := by rw [← e7, new_get' (Nat.le_refl _), if_pos rfl]
    have n7 : h7.next = h2.next + 1 := by rw [← e7, new_next' (Nat.le_refl _)]
    have s27 : Sm NoB h2 h7 := ⟨by omega, fun c hc _ => by rw [← e7, new_get' (Nat.le_refl _), if_neg (by omega)]⟩
    rw [e7]
    have s07 : Sm NoB h h7 := s02.trans s27 (fun _ _ h => h) (fun _ _ h => h)
    have ht7 := ht.sm s07 (fun _ _ h => h)
    have rx7 := (rx.sm s12 lx (fun h => h)).sm s27 (by omega) (fun h => h)
    have hJ : ∀ h1', Sm NoB h7 h1' → J34 h h2.next h1.next h7.next h1'.next R 0 h1' := fun h1' s => by
      have q := s.1
      exact ⟨⟨lr, (s.2 _ (by omega) (fun h => h)).trans m7, by rw [← hlb], by rw [← hlb], by rw [← hlb], by rw [← hlb], by rw [← hlb], by rw [← hlb], b6, b38⟩, ⟨_, _, [], (r2.sm s27 (by omega) (fun h => h)).sm s (by omega) (fun h => h), SlO.nil, fun b hb => by cases hb⟩, s07.trans s (fun _ _ h => h) (fun _ _ h => h), ⟨by omega, by omega, Nat.le_refl _⟩, ⟨by omega, by omega⟩, by omega⟩
    obtain ⟨_, h8, e8, hres⟩ := allIt_ok (n := m) (by omega) ht7 hrel (by omega) (bx := bx) (l := h2.next) rx7
      (fun hi i h' => J34 h h2.next h1.next h7.next hi R i h') (fun _ => False) hJ
      (fun hi i h1' hlt hj' hle => by
        obtain ⟨v, h2', e, rfl, j2, s2⟩ := iround_ok (m := m - 1) (by omega) hj' hlt (by omega) ⟨by omega, by omega⟩
        exact ⟨_, h2', e, .inl ⟨rfl, j2⟩, s2⟩)
    obtain ⟨hi, hj8⟩ := hres.resolve_right (fun h => h)
    obtain ⟨⟨b, q1, q2, q3, q4, q5, q6, q7, q8, q9⟩, ⟨v, z, bs, r6, ow, hbs⟩, sm8, ⟨l6, ll, _⟩, ge, ne⟩ := hj8
    rw [List.take_length] at ow
    refine ⟨_, h8, e8, b, q1, (by rw [q2]; exact fun e => by cases e), ?_⟩
    rw [q3]
    obtain ⟨h9, e9, m9, n9, s9⟩ := put_sm (h := h8) (b := h2.next) (x := .loop { b with st := .exhausted, pending := none })
    show ret (C m) 100000 38 34 none .normal [.blk 0, .seq c34_22] tm (h8.put h2.next (.loop { b with st := .exhausted, pending := none })) QQ
    rw [e9]
    have q8' := sm8.1
    have r69 := r6.sm s9 l6 (fun e => ne e.symm)
    have ow9 := ow.sm s9 (fun b hb e => (hbs b hb).2.2.1 e)
    have k6 := r69.ld1 0
    rw [List.getElem?_cons_zero] at k6
    have s09 : Sm NoB h h9 := ⟨by omega, fun c hc _ => by rw [s9.2 c (by omega) (by omega), sm8.2 c hc (fun h => h)]⟩
    obtain ⟨a, c, g, rfl⟩ := (show ∃ a c g, v = .slice a R.length c g by obtain ⟨_, a, c, g, e, _⟩ := ow9.els; exact ⟨a, c, g, e⟩)
    obtain ⟨hg1, hnc⟩ := rg1 ow9
    by_cases hR : R.length = 0
    · have hRn := List.eq_nil_of_length_eq_zero hR
      rw [hR] at k6
      simp only [F34, SS, Nat.reduceBEq, Nat.reduceEqDiff, Nat.reduceAdd, reduceIte, Nat.reduceMul, t6, k6, x_len_43]
      refine hQ _ _ _ _ (.inr rfl) (by simp only [SS, Nat.reduceBEq, t38]) (by simp only [SS, Nat.reduceBEq, Nat.reduceEqDiff, Nat.reduceAdd, reduceIte, Nat.reduceMul, t38]; rfl) ?_
      exact ⟨[], by rw [hR]; exact ⟨rfl, none, 0, none, rfl, fun _ => rfl, fun _ _ e => by cases e⟩, by rw [hRn], s09, fun b hb => hb.elim⟩
    · have hne0 : ¬ ((R.length : Nat) : Int) = 0 := by omega
      obtain ⟨k, hk⟩ : ∃ k, f % R.length = k := ⟨_, rfl⟩
      have hkl : k < R.length := by rw [← hk]; exact Nat.mod_lt _ (by omega)
      have ew : IntKind.i64.wrap (f : Int) = (f : Int) := wrap_i64 (by omega) (by omega)
      have hrem : bin2 P .rem 3 (.int .i64 (f : Int)) (.int .i64 (R.length : Int)) = some (.int .i64 (k : Int)) := by
        rw [b_rem hne0, ← hk]; rfl
      obtain ⟨h10, e10, s10, b10, n10⟩ := Sm.bump h9 12
      have ow10 := ow9.sm s10 (fun _ _ h => h)
      have k10 := (r69.sm s10 (by have := s9.1; omega) (fun h => h)).ld1 0
      rw [List.getElem?_cons_zero] at k10
      have hel := ow10.els
      obtain ⟨hl0, a', c', g', ee, hn0, hld⟩ := id hel
      cases ee
      cases a with
      | none => have := hn0 rfl; omega
      | some p =>
      obtain ⟨pb, po⟩ := p
      have hld1 := (hld pb po rfl).2
      have hpb := slo_blk ow10 (b := pb) rfl
      have hpo := hbs pb hpb
      have hsl1 := x_sl_43_111 (a := some (pb, po)) (n := R.length) (c := c) (g := g) (lo := k) (hi := R.length) (mx := R.length) (k := .i64) (k' := .i64) (k'' := .i64) hnc (Nat.le_refl _) (by omega)
      have hsl2 := x_sl_43_010 (a := some (pb, po)) (n := R.length) (c := c) (g := g) (hi := k) (k := .i64) hg1 (by omega)
      have hsrc := els_pre (c' := c - 0) (g' := g) hel (k := k) (by omega)
      have hold : h10.ld pb (po + k * 1) ((R.length - k) * 1) = some ((idsR R).drop k) := by
        have := ld_part hld1 (i := k) (k := R.length - k) (by omega)
        rw [Nat.mul_one, Nat.mul_one, this, List.take_of_length_le (by simp [idsR])]
      have happ := app_full (t := 43) (id := h9.next + 12) (n := R.length - k) u_43 s_27 b_27 z_27 rfl hsrc (by simp [idsR]; omega) (by rw [List.all_append, Bool.and_eq_true]; exact ⟨by rw [← List.map_drop]; exact one_map _, by rw [← List.map_take]; exact one_map _⟩) (room_le (by omega) (by omega)) hold
      simp only [Option.map_some] at hsl1 hsl2 hsrc
      have hids : ((R.drop k ++ R.take k).map Ch.id).map u = (idsR R).drop k ++ (idsR R).take k := by simp only [idsR, List.map_append, List.map_drop, List.map_take]
      have hperm : (R.drop k ++ R.take k).Perm R := List.perm_append_comm.trans (by rw [List.take_append_drop])
      simp only [Option.map_some, Nat.mul_one, Nat.zero_mul, Nat.add_zero, Nat.sub_zero] at hsl1 hsl2 happ hold
      have s010 : Sm NoB h h10 := s09.trans s10 (fun _ _ h => h) (fun _ _ h => h)
      by_cases hk0 : k = 0
      · rw [if_pos hk0] at happ
        simp only [F34, SS, Nat.reduceBEq, Nat.reduceEqDiff, Nat.reduceAdd, reduceIte, Nat.reduceMul, t1, t6, k6, x_len_43, hne0, x_cv_5_3, ew, hrem, e10, k10, hsl1, hsl2, happ]
        refine hQ _ _ _ _ (.inr rfl) (by simp only [SS, Nat.reduceBEq, t38]) (by simp only [SS, Nat.reduceBEq, Nat.reduceEqDiff, Nat.reduceAdd, reduceIte, Nat.reduceMul, t38]; rfl) ?_
        refine ⟨_, ⟨?_, some (pb, po + k), R.length - k, none, ?_, (fun e => by cases e), fun b' o' e => ?_⟩, hperm, s010, fun b hb => ?_⟩
        · simp [hrl]; omega
        · rw [hk0]; rfl
        · cases e
          refine ⟨(hld pb po rfl).1, ?_⟩
          rw [hids, hk0, List.drop_zero, List.take_zero, List.append_nil]
          exact hld1
        · have : pb = b := hb
          rw [← this]; exact hpo.1
      · rw [if_neg hk0] at happ
        obtain ⟨h11, e11, r11, n11, g11⟩ := Rw.alloc h10 (id := h9.next + 12) (vs := (idsR R).drop k ++ (idsR R).take k) (z := tyMark 27 false) (ro := false) (by omega) rfl
        rw [e11] at happ
        simp only [F34, SS, Nat.reduceBEq, Nat.reduceEqDiff, Nat.reduceAdd, reduceIte, Nat.reduceMul, t1, t6, k6, x_len_43, hne0, x_cv_5_3, ew, hrem, e10, k10, hsl1, hsl2, happ]
        refine hQ _ _ _ _ (.inr rfl) (by simp only [SS, Nat.reduceBEq, t38]) (by simp only [SS, Nat.reduceBEq, Nat.reduceEqDiff, Nat.reduceAdd, reduceIte, Nat.reduceMul, t38]; rfl) ?_
        have hll : ((idsR R).drop k ++ (idsR R).take k).length = R.length := by simp [idsR]; omega
        refine ⟨_, ⟨?_, some (h9.next + 12, 0), R.length - k + k, some 1, ?_, (fun e => by cases e), fun b' o' e => ?_⟩, hperm, ⟨by have := s010.1; omega, fun c hc hF => ?_⟩, fun b hb => ?_⟩
        · rw [hids, hll, Nat.mul_one]
        · rw [show R.length - k + k = R.length by omega]; rfl
        · cases e
          refine ⟨by omega, ?_⟩
          rw [hids, r11.ld (by rw [hll]; omega), List.drop_zero, List.take_of_length_le (by rw [hll]; omega)]
        · rw [g11 c (by have := s09.1; omega), s010.2 c hc hF]
        · have : h9.next + 12 = b := hb
          have := s09.1; omega
  simp only [F34, SS, Nat.reduceBEq, Nat.reduceEqDiff, Nat.reduceAdd, reduceIte, Nat.reduceMul, ea, x_eq_104, x_al_43, e2]
  exact key _ (by simp only [SS, Nat.reduceBEq]) (by simp only [SS, Nat.reduceBEq]) (by simp only [SS, Nat.reduceBEq]) (by simp only [SS, Nat.reduceBEq])
end
end Go.Proofs.Ytlfednnfkejcjaa

namespace Go.Proofs.Ytlfednnfkejcjaa
open Go.Am
set_option maxRecDepth 10000
theorem rel_ex {L : List Ch} (hn : (L.map Ch.id).Nodup) (hd : (L.map Ch.data).Nodup) : ∃ R, Rel L R := by
  have key : ∀ i, i ≤ L.length → ∃ R, Rel (L.take i) R := by
    intro i
    induction i with
    | zero => intro _; exact ⟨[], Rel.nil⟩
    | succ i ih =>
      intro hi
      obtain ⟨R, h⟩ := ih (by omega)
      have hi' : i < L.length := by omega
      refine ⟨insR L[i] R, ?_⟩
      rw [List.take_succ_eq_append_getElem hi']
      exact h.add (gt_no (take_fresh hn hi')) (fd_no (take_fresh hd hi'))
  obtain ⟨R, h⟩ := key L.length (Nat.le_refl _)
  rw [List.take_length] at h
  exact ⟨R, h⟩
theorem doS_len (a : Ac) (L : List Ch) (next : Int) : (doS a L next).2.1.length ≤ L.length + 1 := by
  unfold doS
  split
  · unfold addS
    split
    · simp
    · split
      · simp
      · split
        · simp
        · simp
  · split
    · unfold loadS
      split
      · simp
      · split
        · simp
        · split
          · simp
          · simp
    · split
      · unfold holdS
        cases hg : gtL L a.id with
        | none => simp
        | some c =>
          simp only
          split
          · simp
          · rw [(putC_upd (c0 := c) { c with refs := c.refs + 1 } (by show gtL L c.id = _; rw [(gt_some hg).2]; exact hg) rfl).2.2.1]; omega
      · split
        · unfold relS
          cases hg : gtL L a.id with
          | none => simp
          | some c =>
            simp only
            split
            · rw [(putC_upd (c0 := c) { c with refs := c.refs - 1 } (by show gtL L c.id = _; rw [(gt_some hg).2]; exact hg) rfl).2.2.1]; omega
            · have := cutC_len hg
              show (cutC a.id L).length ≤ _
              omega
        · simp
theorem Same.len {L M : List Ch} (h : Same L M) : M.length = L.length := (perm_nd (nodup_of_map h.nL) (nodup_of_map h.nM) h.mem).length_eq.symm
theorem loadS_fresh {L : List Ch} {nx : Int} {c : Ch} (h1 : 1 ≤ c.id) (h2 : c.id < 4294967295) (hl1 : 1 ≤ c.data.length) (hl2 : c.data.length ≤ 64) (hr1 : 1 ≤ c.refs) (hr2 : c.refs ≤ 65535) (hi : gtL L c.id = none) (hd : fdL L c.data = none) :
    loadS L nx c.id c.data c.block c.refs = ((0, false, 0), L ++ [c], max nx (c.id + 1)) := by
  unfold loadS
  rw [if_neg (by omega), if_neg (by omega), hi, hd, if_neg (by simp)]
end Go.Proofs.Ytlfednnfkejcjaa

namespace Go.Proofs.Ytlfednnfkejcjaa
open Go.Am
set_option maxRecDepth 10000
theorem chunk_get {cs : List Ch} {j : Nat} (hj : j < cs.length) : ((cs.map Ch.id).map u)[j]? = some (u (Ri cs j).id) := by
  rw [Ri_at hj]; simp [hj]
theorem loop3_ok {m : Nat} (hm : 9 ≤ m) {h0 : Heap} {tb ub : Nat} {B : List Ac} {a2 : Option (Nat × Nat)} {c2 : Nat} {g2 : Option Nat} (hv : Acs h0 (.slice a2 B.length c2 g2) B) (hB : B.length ≤ 60) (hok : ∀ i, i < B.length → (Ai B i).Ok)
    {h : Heap} {L M : List Ch} {next : Int} {F G : Nat → Prop} (ht : TabAt h tb L next F) (hu : TabAt h ub M next G) (hs : Same L M) (hlen : L.length ≤ 60) (hF : ∀ b, F b → h0.next ≤ b ∧ ¬ G b) (hG : ∀ b, G b → h0.next ≤ b) (s0 : Sm NoB h0 h) {QQ : XQ}
    (hQ : ∀ (e : Ex) (tm : Tr AV) (h' : Heap) (vs : List AV), e = .normal ∨ e = .ret → tm.gt 202 = none → resA P [.tmp 6] ⟨tm, h'⟩ = some vs → tupled vs = .bool true → QQ e tm h')
    {tm : Tr AV} (t1 : tm.gt 1 = some (.slice a2 B.length c2 g2)) (t7 : tm.gt 7 = some (.ptr (some (tb, 0)))) (t8 : tm.gt 8 = some (.ptr (some (ub, 0)))) (t16 : tm.gt 16 = some (I 0)) (t202 : tm.gt 202 = none) :
    run (C m) 100000 202 8 none (.loop c8_59) [.blk 4, .seq (.seq c8_92 .ret)] tm h QQ := by
  refine run_loop (c := c8_59) (I := fun m' tm' h' => ∃ i L M next F G, i ≤ B.length ∧ m' = B.length - i ∧ TabAt h' tb L next F ∧ TabAt h' ub M next G ∧ Same L M ∧ L.length ≤ 60 + i ∧ (∀ b, F b → h0.next ≤ b ∧ ¬ G b) ∧ (∀ b, G b → h0.next ≤ b) ∧ Sm NoB h0 h' ∧ tm'.gt 1 = some (.slice a2 B.length c2 g2) ∧ tm'.gt 7 = some (.ptr (some (tb, 0))) ∧ tm'.gt 8 = some (.ptr (some (ub, 0))) ∧ tm'.gt 16 = some (I i) ∧ tm'.gt 202 = none) (n := B.length)
    ⟨0, L, M, next, F, G, by omega, rfl, ht, hu, hs, by omega, hF, hG, s0, t1, t7, t8, t16, t202⟩ (by omega) ?_
  clear ht hu hs hlen hF hG s0 t1 t7 t8 t16 t202
  rintro _ tm h ⟨i, L, M, next, F, G, hil, rfl, ht, hu, hs, hlen, hF, hG, s0, t1, t7, t8, t16, t202⟩ Q1 hN1 hE
  have hml := hs.len
  by_cases hlt : i < B.length
  · have hlt' : (i : Int) < (B.length : Int) := by omega
    have hv1 : Acs h (.slice a2 B.length c2 g2) B := hv.sm s0 (fun _ _ h => h)
    obtain ⟨ab, ao, rfl, _, _, _, _, _, _, _, ldn⟩ := hv1.at hlt
    have x2 := x_ia_60 (k := .i64) (b := ab) (o := ao) (c := c2) (g := g2) hlt
    have ok := hok i hlt
    have hft := ht.flt
    have hgt := hu.flt
    obtain ⟨_, h1, e1, rfl, F', ht1, s1, f1⟩ := does_ok (n := m) (by omega) ht (by omega) (Ai B i) ok
    have hu1 := hu.sm s1 (fun b hb h => (hF b h).2 hb)
    obtain ⟨d1, d2, d3⟩ := hs.does (Ai B i) (tnoid ht)
    obtain ⟨_, h2, e2, rfl, G', hu2, s2, g2'⟩ := does_ok (n := m) (by omega) hu1 (by omega) (Ai B i) ok
    have n1 := s1.1
    have hft1 := ht1.flt
    have hdj : ∀ b, F' b → ¬ G b := fun b hb hg => by
      rcases f1 b hb with h | h
      · exact (hF b h).2 hg
      · have := hgt b hg; omega
    have ht2 := ht1.sm s2 hdj
    rw [d1] at e2
    rw [d2] at hu2
    have s01 : Sm NoB h0 h1 := s0.trans s1 (fun _ _ h => h) (fun c hc h => by have := (hF c h).1; omega)
    have s02 : Sm NoB h0 h2 := s01.trans s2 (fun _ _ h => h) (fun c hc h => by have := hG c h; omega)
    have ldn1 := ((hv.sm s01 (fun _ _ h => h)).at hlt)
    obtain ⟨_, _, ee, _, _, _, _, _, _, _, ldn1⟩ := ldn1
    cases ee
    obtain ⟨_, _, ee, _, _, _, _, _, ask2, _, _⟩ := ((hv.sm s02 (fun _ _ h => h)).at hlt)
    cases ee
    obtain ⟨_, h3, e3, s3, rfl⟩ := tget_ok (n := m) (by omega) ht2 (Ai B i).ask
    have s03 : Sm NoB h0 h3 := s02.trans s3 (fun _ _ h => h) (fun _ _ h => h)
    obtain ⟨_, _, ee, _, _, _, _, _, ask3, _, _⟩ := ((hv.sm s03 (fun _ _ h => h)).at hlt)
    cases ee
    obtain ⟨_, h4, e4, s4, rfl⟩ := tget_ok (n := m) (by omega) (hu2.sm s3 (fun _ _ h => h)) (Ai B i).ask
    rw [d3.gt] at e4
    have ht4 := (ht2.sm s3 (fun _ _ h => h)).sm s4 (fun _ _ h => h)
    have hu4 := (hu2.sm s3 (fun _ _ h => h)).sm s4 (fun _ _ h => h)
    obtain ⟨_, h5, e5, e0, rfl⟩ := count_ok (n := m) (by omega) ht4
    subst e0
    obtain ⟨_, h5', e6, e0, rfl⟩ := count_ok (n := m) (by omega) hu4
    subst e0
    rw [d3.len] at e6
    obtain ⟨_, h5'', e7, e0, rfl⟩ := tnext_ok (n := m) (by omega) ht4
    subst e0
    obtain ⟨_, h6, e8, e0, rfl⟩ := tnext_ok (n := m) (by omega) hu4
    subst e0
    have hl1 := doS_len (Ai B i) L next
    have fin : ∀ tm' : Tr AV, tm'.gt 1 = some (.slice (some (ab, ao)) B.length c2 g2) → tm'.gt 7 = some (.ptr (some (tb, 0))) → tm'.gt 8 = some (.ptr (some (ub, 0))) → tm'.gt 16 = some (I (i + 1)) → tm'.gt 202 = none → Q1 .normal tm' h6 := fun tm' k1 k7 k8 k16 k202 =>
      hN1 _ _ (B.length - (i + 1)) (by omega) ⟨i + 1, _, _, _, F', G', hlt, rfl, ht4, hu4, d3, by omega, fun b hb => ⟨by rcases f1 b hb with h | h; exact (hF b h).1; have := s0.1; omega, fun hg => by
        rcases g2' b hg with h | h
        · exact hdj b hb h
        · have := hft1 b hb; omega⟩, fun b hb => by rcases g2' b hb with h | h; exact hG b h; have := s01.1; omega, s03.trans s4 (fun _ _ h => h) (fun _ _ h => h), k1, k7, k8, k16, k202⟩
    cases hg : gtL (doS (Ai B i) L next).2.1 (Ai B i).ask with
    | none =>
      rw [hg] at e3 e4
      simp only at e3 e4
      simp only [F8, SS, Nat.reduceBEq, Nat.reduceEqDiff, Nat.reduceAdd, reduceIte, Nat.reduceMul, t1, t7, t8, t16, x_len_60, hlt', x2, ldn, e1, ldn1, e2, x_ne_4, beq_self_eq_true, x_fa_65_5, ask2, e3, ask3, e4, e5, e6, e7, e8, w_undef, wAdd1 (show i ≤ 1000000 by omega)]
      exact fin _ (by simp only [SS, Nat.reduceBEq, t1]) (by simp only [SS, Nat.reduceBEq, t7]) (by simp only [SS, Nat.reduceBEq, t8]) (by simp only [SS, Nat.reduceBEq]) (by simp only [SS, Nat.reduceBEq, t202])
    | some c =>
      rw [hg] at e3 e4
      simp only at e3 e4
      simp only [F8, SS, Nat.reduceBEq, Nat.reduceEqDiff, Nat.reduceAdd, reduceIte, Nat.reduceMul, t1, t7, t8, t16, x_len_60, hlt', x2, ldn, e1, ldn1, e2, x_ne_4, beq_self_eq_true, x_fa_65_5, ask2, e3, ask3, e4, e5, e6, e7, e8, w_undef, wAdd1 (show i ≤ 1000000 by omega)]
      exact fin _ (by simp only [SS, Nat.reduceBEq, t1]) (by simp only [SS, Nat.reduceBEq, t7]) (by simp only [SS, Nat.reduceBEq, t8]) (by simp only [SS, Nat.reduceBEq]) (by simp only [SS, Nat.reduceBEq, t202])
  · have hlt' : ¬ (i : Int) < (B.length : Int) := by omega
    obtain ⟨_, h5, e5, e0, rfl⟩ := count_ok (n := m) (by omega) ht
    subst e0
    obtain ⟨_, h5', e6, e0, rfl⟩ := count_ok (n := m) (by omega) hu
    subst e0
    rw [hml] at e6
    obtain ⟨_, h5'', e7, e0, rfl⟩ := tnext_ok (n := m) (by omega) ht
    subst e0
    obtain ⟨_, h6, e8, e0, rfl⟩ := tnext_ok (n := m) (by omega) hu
    subst e0
    have e9 := works_ok (n := m) (by omega) h6
    simp only [F8, SS, Nat.reduceBEq, Nat.reduceEqDiff, Nat.reduceAdd, reduceIte, Nat.reduceMul, t1, t16, x_len_60, hlt']
    refine hE _ _ _ (by simp) ?_
    simp only [F8, SS, Nat.reduceBEq, Nat.reduceEqDiff, Nat.reduceAdd, reduceIte, Nat.reduceMul, t7, t8, e5, e6, e7, e8, e9]
    refine hQ _ _ _ _ (.inr rfl) (by simp only [SS, Nat.reduceBEq, t202]) (by simp only [SS, Nat.reduceBEq, Nat.reduceEqDiff, Nat.reduceAdd, reduceIte, Nat.reduceMul, t202]; rfl) ?_
    rfl
end Go.Proofs.Ytlfednnfkejcjaa

namespace Go.Proofs.Ytlfednnfkejcjaa
open Go.Am
set_option maxRecDepth 10000
theorem loads_ok {n : Nat} (hn : 12 ≤ n) {h : Heap} {v1 v2 : AV} {A B : List Ac} (hv1 : Acs h v1 A) (hv2 : Acs h v2 B) (ok1 : ∀ i, i < A.length → AcR (Ai A i)) (ok2 : ∀ i, i < B.length → AcR (Ai B i)) (f : Nat) (hf : f ≤ 255) :
    WC (C n (.fn 8) [v1, v2, .int .u8 (f : Int)] h) fun r _ => r = .bool true := by
  obtain ⟨a1, c1, g1, rfl⟩ := hv1.sl
  obtain ⟨a2, c2, g2, rfl⟩ := hv2.sl
  obtain ⟨m, rfl⟩ : ∃ m, n = m + 1 := ⟨n - 1, by omega⟩
  refine call_fn _ f8A rfl (by simp [fn8]) fun QQ hQ => ?_
  simp only [fn8] at hQ
  simp only [fn8, fill_cons, fill_nil, Nat.zero_add, Nat.reduceAdd]
  obtain ⟨_, h0, e1, rfl, b1, rfl, hb1⟩ := few_ok (n := m) (by omega) hv1
  obtain ⟨_, h0', e2, e0, b2, rfl, hb2⟩ := few_ok (n := m) (by omega) hv2
  subst e0
  have ew := works_ok (n := m) (by omega) h0'
  cases b1 with
  | false =>
    simp only [F8, SS, Nat.reduceBEq, Nat.reduceEqDiff, Nat.reduceAdd, reduceIte, Nat.reduceMul, e1, w_undef, ew]
    refine hQ _ _ _ _ (.inr rfl) (by simp only [SS, Nat.reduceBEq]) (by simp only [SS, Nat.reduceBEq, Nat.reduceEqDiff, Nat.reduceAdd, reduceIte, Nat.reduceMul]; rfl) ?_
    rfl
  | true =>
  cases b2 with
  | false =>
    simp only [F8, SS, Nat.reduceBEq, Nat.reduceEqDiff, Nat.reduceAdd, reduceIte, Nat.reduceMul, e1, e2, w_undef, ew]
    refine hQ _ _ _ _ (.inr rfl) (by simp only [SS, Nat.reduceBEq]) (by simp only [SS, Nat.reduceBEq, Nat.reduceEqDiff, Nat.reduceAdd, reduceIte, Nat.reduceMul]; rfl) ?_
    rfl
  | true =>
  obtain ⟨hA60, hA100⟩ := hb1 rfl
  obtain ⟨hB60, hB100⟩ := hb2 rfl
  have okA : ∀ i, i < A.length → (Ai A i).Ok := fun i hi => ⟨(ok1 i hi).1, (ok1 i hi).2.1, (ok1 i hi).2.2.1, (ok1 i hi).2.2.2, (hA100 i hi).1, (hA100 i hi).2⟩
  have okB : ∀ i, i < B.length → (Ai B i).Ok := fun i hi => ⟨(ok2 i hi).1, (ok2 i hi).2.1, (ok2 i hi).2.2.1, (ok2 i hi).2.2.2, (hB100 i hi).1, (hB100 i hi).2⟩
  obtain ⟨_, h1, e3, tb, F, rfl, ht1, s01, hF⟩ := tnew_ok (n := m) (by omega) (h := h0')
  obtain ⟨_, h2, e4, ub, G, rfl, hu2, s12, hG⟩ := tnew_ok (n := m) (by omega) (h := h1)
  have s02 : Sm NoB h0' h2 := s01.trans s12 (fun _ _ h => h) (fun _ _ h => h)
  have hft1 := ht1.flt
  have q01 := s01.1
  simp only [F8, SS, Nat.reduceBEq, Nat.reduceEqDiff, Nat.reduceAdd, reduceIte, Nat.reduceMul, e1, e2, w_undef, e3, e4]
  refine run_loop (c := c8_17) (I := fun m' tm' h' => ∃ i L next F, i ≤ A.length ∧ m' = A.length - i ∧ TabAt h' tb L next F ∧ L.length ≤ i ∧ (∀ b, F b → h0'.next ≤ b ∧ ¬ G b) ∧ TabAt h' ub [] 1 G ∧ Sm NoB h0' h' ∧ tm'.gt 0 = some (.slice a1 A.length c1 g1) ∧ tm'.gt 1 = some (.slice a2 B.length c2 g2) ∧ tm'.gt 2 = some (.int .u8 (f : Int)) ∧ tm'.gt 7 = some (.ptr (some (tb, 0))) ∧ tm'.gt 8 = some (.ptr (some (ub, 0))) ∧ tm'.gt 9 = some (I i) ∧ tm'.gt 202 = none) (n := A.length)
    ⟨0, [], 1, F, by omega, rfl, ht1.sm s12 (fun _ _ h => h), Nat.le_refl _, fun b hb => ⟨hF b hb, fun hg => by have := hG b hg; have := hft1 b hb; omega⟩, hu2, s02, by simp only [SS, Nat.reduceBEq], by simp only [SS, Nat.reduceBEq], by simp only [SS, Nat.reduceBEq], by simp only [SS, Nat.reduceBEq], by simp only [SS, Nat.reduceBEq], by simp only [SS, Nat.reduceBEq, Nat.reduceEqDiff, Nat.reduceAdd, reduceIte, Nat.reduceMul]; rfl, by simp only [SS, Nat.reduceBEq]⟩ (by omega) ?_
  have hG0 : ∀ b, G b → h0'.next ≤ b := fun b hb => by have := hG b hb; omega
  clear ht1 hu2 hF hft1 hG
  rintro _ tm h3 ⟨i, L, next, F, hil, rfl, ht, hLi, hF, hu, s03, t0, t1, t2, t7, t8, t9, t202⟩ Q1 hN1 hE
  have hgt := hu.flt
  have hft := ht.flt
  by_cases hlt : i < A.length
  · have hlt' : (i : Int) < (A.length : Int) := by omega
    obtain ⟨ab, ao, rfl, _, _, _, _, _, _, _, ldn⟩ := (hv1.sm s03 (fun _ _ h => h)).at hlt
    have x2 := x_ia_60 (k := .i64) (b := ab) (o := ao) (c := c1) (g := g1) hlt
    obtain ⟨_, h4, e5, rfl, F', ht4, s4, f4⟩ := does_ok (n := m) (by omega) ht (by omega) (Ai A i) (okA i hlt)
    have hl1 := doS_len (Ai A i) L next
    have q3 := s03.1
    simp only [F8, SS, Nat.reduceBEq, Nat.reduceEqDiff, Nat.reduceAdd, reduceIte, Nat.reduceMul, t0, t7, t9, x_len_60, hlt', x2, ldn, e5, wAdd1 (show i ≤ 1000000 by omega)]
    refine hN1 _ _ (A.length - (i + 1)) (by omega) ⟨i + 1, _, _, F', hlt, rfl, ht4, by omega, fun b hb => ?_, hu.sm s4 (fun b hb h => (hF b h).2 hb), s03.trans s4 (fun _ _ h => h) (fun c hc h => by have := (hF c h).1; omega), by simp only [SS, Nat.reduceBEq, t0], by simp only [SS, Nat.reduceBEq, t1], by simp only [SS, Nat.reduceBEq, t2], by simp only [SS, Nat.reduceBEq, t7], by simp only [SS, Nat.reduceBEq, t8], by simp only [SS, Nat.reduceBEq], by simp only [SS, Nat.reduceBEq, t202]⟩
    rcases f4 b hb with h | h
    · exact hF b h
    · exact ⟨by omega, fun hg => by have := hgt b hg; omega⟩
  · have hlt' : ¬ (i : Int) < (A.length : Int) := by omega
    simp only [F8, SS, Nat.reduceBEq, Nat.reduceEqDiff, Nat.reduceAdd, reduceIte, Nat.reduceMul, t0, t9, x_len_60, hlt']
    refine hE _ _ _ (by simp) ?_
    -- the ids
    obtain ⟨TB, t5⟩ := ht.ok
    obtain ⟨R, hrel⟩ := rel_ex t5.ids t5.datas
    have hrl := hrel.len
    obtain ⟨v, h4, e5, cs, hel, hperm, s34, hvb⟩ := ids_ok (n := m) (by omega) ht hrel (by omega) f hf
    have hcl := hperm.length_eq
    have ht4 := ht.sm s34 (fun _ _ h => h)
    have hu4 := hu.sm s34 (fun _ _ h => h)
    have s04 : Sm NoB h0' h4 := s03.trans s34 (fun _ _ h => h) (fun _ _ h => h)
    obtain ⟨a3, c3, g3, rfl⟩ := (show ∃ a c g, v = .slice a R.length c g by obtain ⟨_, a, c, g, e, _⟩ := id hel; exact ⟨a, c, g, e⟩)
    have q3 := s03.1
    have hcn : (cs.map Ch.id).Nodup := (hperm.map Ch.id).nodup_iff.2 hrel.ndR
    have hcd : (cs.map Ch.data).Nodup := (hperm.map Ch.data).nodup_iff.2 hrel.ddR
    have hcm : ∀ c, c ∈ cs ↔ c ∈ L := fun c => (hperm.mem_iff).trans (hrel.mem c)
    simp only [F8, SS, Nat.reduceBEq, Nat.reduceEqDiff, Nat.reduceAdd, reduceIte, Nat.reduceMul, t2, t7, e5]
    refine run_loop (c := c8_34) (I := fun m' tm' h' => ∃ j nx G', j ≤ R.length ∧ m' = R.length - j ∧ TabAt h' tb L next F ∧ TabAt h' ub (cs.take j) nx G' ∧ nx ≤ next ∧ (∀ b, G' b → h0'.next ≤ b ∧ ¬ F b ∧ ¬ blkOf (.slice a3 R.length c3 g3) b) ∧ Els h' (.slice a3 R.length c3 g3) R.length 1 ((cs.map Ch.id).map u) ∧ Sm NoB h0' h' ∧ tm'.gt 1 = some (.slice a2 B.length c2 g2) ∧ tm'.gt 7 = some (.ptr (some (tb, 0))) ∧ tm'.gt 8 = some (.ptr (some (ub, 0))) ∧ tm'.gt 10 = some (.slice a3 R.length c3 g3) ∧ tm'.gt 11 = some (I j) ∧ tm'.gt 202 = none) (n := R.length)
      ⟨0, 1, G, by omega, rfl, ht4, hu4, t5.next.1, fun b hb => ⟨hG0 b hb, fun h => (hF b h).2 hb, fun h => by have := hvb b h; have := hgt b hb; omega⟩, hel, s04, by simp only [SS, Nat.reduceBEq, t1], by simp only [SS, Nat.reduceBEq, t7], by simp only [SS, Nat.reduceBEq, t8], by simp only [SS, Nat.reduceBEq], by simp only [SS, Nat.reduceBEq, Nat.reduceEqDiff, Nat.reduceAdd, reduceIte, Nat.reduceMul]; rfl, by simp only [SS, Nat.reduceBEq, t202]⟩ (by omega) ?_
    clear ht4 hu4 s04 hel hE hN1
    rintro _ tm h5 ⟨j, nx, G', hjl, rfl, ht5, hu5, hnx, hG', hel, s05, t1, t7, t8, t10, t11, t202⟩ Q2 hN2 hE2
    have hgt5 := hu5.flt
    have hft5 := ht5.flt
    by_cases hjt : j < R.length
    · have hjt' : (j : Int) < (R.length : Int) := by omega
      have hjc : j < cs.length := by omega
      obtain ⟨pb, po, rfl, hcell⟩ := hel.cell (by omega)
      have hk := hcell j (by omega)
      rw [chunk_get hjc] at hk
      have x2 := x_ia_43 (k := .i64) (b := pb) (o := po) (c := c3) (g := g3) hjt
      have hcL : Ri cs j ∈ L := (hcm _).1 (by rw [Ri_at hjc]; exact List.getElem_mem hjc)
      have hg := gt_mem t5.ids hcL
      have hch := t5.ch _ hcL
      have hnx2 := t5.next
      obtain ⟨_, h6, e6, s56, rfl⟩ := tget_ok (n := m) (by omega) ht5 (Ri cs j).id
      rw [hg] at e6
      simp only at e6
      have hi1 : gtL (cs.take j) (Ri cs j).id = none := gt_no fun d hd => by have := take_fresh hcn hjc d hd; rw [← Ri_at hjc] at this; exact this
      have hd1 : fdL (cs.take j) (Ri cs j).data = none := fd_no fun d hd => by have := take_fresh hcd hjc d hd; rw [← Ri_at hjc] at this; exact this
      obtain ⟨h7, e7, _, _, G7, hu7, s67, f7⟩ := load_pl (n := m) (by omega) (hu5.sm s56 (fun _ _ h => h)) (Ri cs j).id ⟨by omega, by omega⟩ (s := (Ri cs j).data) (Ri cs j).block (Ri cs j).refs (by omega) hch.2.2.2.2.1 (by rw [List.length_take]; omega)
      rw [loadS_fresh hch.1 (by omega) hch.2.2.1 hch.2.2.2.1 hch.2.2.2.2.2.1 hch.2.2.2.2.2.2 hi1 hd1] at e7 hu7
      have hk6 : h6.ld1 pb (po + j) = some (u (Ri cs j).id) := by
        obtain ⟨pb', po', e, hcell'⟩ := (els_sm hel s56 (fun _ _ h => h)).cell (by omega)
        cases e
        have := hcell' j (by omega)
        rw [chunk_get hjc] at this; exact this
      have q5 := s05.1
      have q56 := s56.1
      simp only [F8, SS, Nat.reduceBEq, Nat.reduceEqDiff, Nat.reduceAdd, reduceIte, Nat.reduceMul, t7, t8, t10, t11, x_len_43, hjt', x2, hk, e6, hk6, e7, w_undef, wAdd1 (show j ≤ 1000000 by omega)]
      refine hN2 _ _ (R.length - (j + 1)) (by omega) ⟨j + 1, max nx ((Ri cs j).id + 1), G7, hjt, rfl, (ht5.sm s56 (fun _ _ h => h)).sm s67 (fun b hb h => (hG' b h).2.1 hb), ?_, ?_, fun b hb => ?_, els_sm (els_sm hel s56 (fun _ _ h => h)) s67 (fun b hb h => (hG' b h).2.2 hb), (s05.trans s56 (fun _ _ h => h) (fun _ _ h => h)).trans s67 (fun _ _ h => h) (fun c hc h => by have := (hG' c h).1; omega), by simp only [SS, Nat.reduceBEq, t1], by simp only [SS, Nat.reduceBEq, t7], by simp only [SS, Nat.reduceBEq, t8], by simp only [SS, Nat.reduceBEq, t10], by simp only [SS, Nat.reduceBEq], by simp only [SS, Nat.reduceBEq, t202]⟩
      · rw [List.take_succ_eq_append_getElem hjc, ← Ri_at hjc]; exact hu7
      · omega
      · rcases f7 b hb with h | h
        · exact hG' b h
        · refine ⟨by omega, fun h8 => by have := hft5 b h8; omega, fun h8 => ?_⟩
          have : pb = b := h8
          obtain ⟨_, _, _, _, ee, _, hld⟩ := hel
          cases ee
          have := (hld pb po rfl).1
          omega
    · obtain rfl : j = R.length := by omega
      have hjt' : ¬ (R.length : Int) < (R.length : Int) := by omega
      rw [← hcl, List.take_length] at hu5
      simp only [F8, SS, Nat.reduceBEq, Nat.reduceEqDiff, Nat.reduceAdd, reduceIte, Nat.reduceMul, t10, t11, x_len_43, hjt']
      refine hE2 _ _ _ (by simp) ?_
      have hnx2 := t5.next
      obtain ⟨_, h6, e6, e0, rfl⟩ := tnext_ok (n := m) (by omega) ht5
      subst e0
      obtain ⟨_, h7, e7, hu7, s7⟩ := tskip_ok (n := m) (by omega) hu5 next ⟨by omega, hnx2.2⟩
      rw [show max nx next = next by omega] at hu7
      have q5 := s05.1
      simp only [F8, SS, Nat.reduceBEq, Nat.reduceEqDiff, Nat.reduceAdd, reduceIte, Nat.reduceMul, t7, t8, e6, e7]
      refine loop3_ok (m := m) (by omega) (h0 := h0') hv2 hB60 okB (ht5.sm s7 (fun b hb h => (hG' b h).2.1 hb)) hu7 ⟨fun c => (hcm c).symm, t5.ids, t5.datas, hcn, hcd⟩ (by omega) (fun b hb => ⟨(hF b hb).1, fun hg => (hG' b hg).2.1 hb⟩) (fun b hb => (hG' b hb).1) (s05.trans s7 (fun _ _ h => h) (fun c hc h => by have := (hG' c h).1; omega)) hQ (by simp only [SS, Nat.reduceBEq, t1]) (by simp only [SS, Nat.reduceBEq, t7]) (by simp only [SS, Nat.reduceBEq, t8]) (by simp only [SS, Nat.reduceBEq, Nat.reduceEqDiff, Nat.reduceAdd, reduceIte, Nat.reduceMul]; rfl) (by simp only [SS, Nat.reduceBEq, t202])
end Go.Proofs.Ytlfednnfkejcjaa
