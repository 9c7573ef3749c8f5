import Derived.Test.YtlfednnfkejcjaaDpWalkA
import Derived.Deep.Fields
import Derived.Deep.Slices
import Derived.ChangeArms
set_option linter.unusedVariables false
set_option linter.unusedSimpArgs false
set_option linter.constructorNameAsVariable false
set_option linter.defProp false
set_option maxRecDepth 20000

namespace Go.Proofs.Ytlfednnfkejcjaa
open Go.Am
set_option maxRecDepth 10000
theorem tmay_ok {n : Nat} (hn : 5 ≤ n) {h : Heap} {tb : Nat} {L : List Ch} {next : Int} {F : Nat → Prop} (ht : TabAt h tb L next F) {s : List Nat} (hl1 : 1 ≤ s.length) (hl2 : s.length ≤ 64) (hb : Byts s) (hd : fdL L s = none) :
    WC (C n (.fn 56) [.ptr (some (tb, 0)), .str s] h) fun r h' => Sm NoB h h' ∧ r = .int .i64 0 := by
  obtain ⟨m, rfl⟩ : ∃ m, n = m + 1 := ⟨n - 1, by omega⟩
  refine call_fn _ f56A rfl (by simp [fn56]) fun QQ hQ => ?_
  simp only [fn56] at hQ
  simp only [fn56, fill_cons, fill_nil, Nat.zero_add, Nat.reduceAdd]
  obtain ⟨_, h1, ea, s1, rfl⟩ := tFind_ok (n := m) (by omega) ht (s := s) (by omega) hb
  rw [hd] at ea
  have hne : ¬ s = [] := fun e => by subst e; simp at hl1
  have hgt : ¬ (64 : Int) < (s.length : Int) := by omega
  simp only [F56, x_len_9, hne, hgt, ea, SS, Nat.reduceBEq, Nat.reduceEqDiff, Nat.reduceAdd, reduceIte, Nat.reduceMul]
  refine hQ _ _ _ _ (.inr rfl) (by simp only [SS, Nat.reduceBEq]) (by simp only [SS, Nat.reduceBEq, Nat.reduceEqDiff, Nat.reduceAdd, reduceIte, Nat.reduceMul]; rfl) ?_
  exact ⟨s1, rfl⟩
theorem tadd_ok {n : Nat} (hn : 6 ≤ n) {h : Heap} {tb : Nat} {L : List Ch} {next : Int} {F : Nat → Prop} (ht : TabAt h tb L next F) {s : List Nat} (block : Int) (hl1 : 1 ≤ s.length) (hl2 : s.length ≤ 64) (hb : Byts s) (hd : fdL L s = none) (hnx : next ≠ 4294967295) (hlen : L.length < 4999) :
    WC (C n (.fn 17) [.ptr (some (tb, 0)), .str s, .int .i64 block] h) fun r h' => r = .tuple [u next, .int .i64 0] ∧ ∃ F', TabAt h' tb (L ++ [⟨next, s, block, 1⟩]) (next + 1) F' ∧ Sm F h h' ∧ ∀ b, F' b → F b ∨ h.next ≤ b := by
  obtain ⟨m, rfl⟩ : ∃ m, n = m + 1 := ⟨n - 1, by omega⟩
  refine call_fn _ f17A rfl (by simp [fn17]) fun QQ hQ => ?_
  simp only [fn17] at hQ
  simp only [fn17, fill_cons, fill_nil, Nat.zero_add, Nat.reduceAdd]
  have t5 : ∃ B, TabOk L next B := by obtain ⟨_, _, _, _, B, _, _, _, _, _, t5, _⟩ := ht.ex; exact ⟨B, t5⟩
  obtain ⟨B, t5⟩ := t5
  have hnext := t5.next
  obtain ⟨_, h0, ea, rfl, rfl⟩ := tis_ok (n := m) (by omega) ht
  obtain ⟨_, h1, eb, s1, rfl⟩ := tmay_ok (n := m) (by omega) ht hl1 hl2 hb hd
  have ht1 := ht.sm s1 (fun _ _ h => h)
  have hid : gtL L next = none := by
    cases hg : gtL L next with
    | none => rfl
    | some c => obtain ⟨g1, g2⟩ := gt_some hg; have := (t5.ch c g1).2.1; omega
  obtain ⟨_, h2, ec, rfl, F', ht2, s2, f2⟩ := tput_ok (n := m) (by omega) ht1 ⟨next, s, block, 1⟩ hnext.1 (by show next < _; omega) hid hd hl1 hl2 hb (Int.le_refl _) (show (1 : Int) ≤ 65535 by decide) hlen
  obtain ⟨mb, x, es, k, B', X, t1, _⟩ := ht1.ex
  unfold Ch.val at ec
  simp only at ec
  simp only [F17, ea, eb, ec, x_fa_87_2, t1.ld1, hnx, x_bd_91_0_1_2, SS, Nat.reduceBEq, Nat.reduceEqDiff, Nat.reduceAdd, reduceIte, Nat.reduceMul]
  refine hQ _ _ _ _ (.inr rfl) (by simp only [SS, Nat.reduceBEq]) (by simp only [SS, Nat.reduceBEq, Nat.reduceEqDiff, Nat.reduceAdd, reduceIte, Nat.reduceMul]; rfl) ?_
  refine ⟨rfl, F', ?_, s1.trans s2 (fun _ _ h => h.elim) (fun _ _ h => h), fun b hb => (f2 b hb).imp id fun h9 => Nat.le_trans s1.1 h9⟩
  have : max next (next + 1) = next + 1 := by omega
  rw [← this]; exact ht2
theorem tnew_ok {n : Nat} (hn : 2 ≤ n) {h : Heap} : WC (C n (.fn 12) [] h) fun r h' => ∃ tb F, r = .ptr (some (tb, 0)) ∧ TabAt h' tb [] 1 F ∧ Sm NoB h h' ∧ (∀ b, F b → h.next ≤ b) := by
  obtain ⟨m, rfl⟩ : ∃ m, n = m + 1 := ⟨n - 1, by omega⟩
  refine call_fn _ f12A rfl (by simp [fn12]) fun QQ hQ => ?_
  simp only [fn12] at hQ
  simp only [fn12, fill_cons, fill_nil, Nat.zero_add, Nat.reduceAdd]
  obtain ⟨h1, e1, p1⟩ : ∃ h1, h.new h.next (.map [] 0) = h1 ∧ (∀ b, h1.bs.gt b = if b = h.next then some (.map [] 0) else h.bs.gt b) ∧ h1.next = h.next + 1 := ⟨_, rfl, fun b => new_get' (Nat.le_refl _) _ _, new_next' (Nat.le_refl _) _⟩
  obtain ⟨_, h2, e2, x, rfl, ix2, s2, x2⟩ := ixnew_ok (n := m) (by omega) (h := h1)
  obtain ⟨h3, e3, r3, n3, g3⟩ := Rw.alloc h2 (id := h2.next) (n := 3) (vs := [.map (some h.next), .ptr (some (x, 0)), .int .u32 1]) (z := []) (ro := false) (Nat.le_refl _) rfl
  have hx := ix2.lt
  simp only [F12, x_mm_84, e1, e2, x_bd_87_0_1_2, box_agg, e3, SS, Nat.reduceBEq, Nat.reduceEqDiff, Nat.reduceAdd, reduceIte, Nat.reduceMul]
  refine hQ _ _ _ _ (.inr rfl) (by simp only [SS, Nat.reduceBEq]) (by simp only [SS, Nat.reduceBEq, Nat.reduceEqDiff, Nat.reduceAdd, reduceIte, Nat.reduceMul]; rfl) ?_
  have hix : ∀ b, IxF x (fun _ => []) b → b = x := by
    rintro b (rfl | ⟨_, _, hb⟩)
    · rfl
    · cases hb
  have hm2 : h2.bs.gt h.next = some (.map [] 0) := by rw [s2.2 _ (by omega) (fun h => h), p1.1, if_pos rfl]
  refine ⟨h2.next, _, rfl, ⟨⟨h.next, x, [], 0, _, _, r3, by rw [g3 _ (by have := s2.1; omega), hm2], ⟨Ents.nil.2 rfl, ⟨(fun e he => by cases he), List.Pairwise.nil⟩⟩, ix2.sm (G := fun b => b = h2.next) ⟨by omega, fun c hc hF => g3 c hF⟩ (fun b hb e => by have := hix b hb; omega), ?_, by have := s2.1; omega, by have := s2.1; omega, fun h9 => by have := hix _ h9; omega, fun h9 => by have := hix _ h9; omega, rfl⟩, by omega⟩, ⟨by have := s2.1; omega, fun c hc _ => ?_⟩, fun b hb => ?_⟩
  · exact ⟨by simp, by simp, by simp, ⟨by decide, by decide⟩, by simp, by simp, by simp, by simp⟩
  · rw [g3 c (by have := s2.1; omega), s2.2 c (by omega) (fun h => h), p1.1, if_neg (by omega)]
  · rcases hb with rfl | rfl | hb
    · have := s2.1; omega
    · exact Nat.le_refl _
    · have := hix b hb; omega
theorem full3 (l us : List AV) (h1 : l.length = 3) (h2 : us.length = 3) : putL l 0 us = us := by
  unfold putL
  rw [List.take_zero, List.nil_append, Nat.zero_add, h2, List.drop_eq_nil_of_le (by omega), List.append_nil]
theorem tget_ok {n : Nat} (hn : 3 ≤ n) {h : Heap} {tb : Nat} {L : List Ch} {next : Int} {F : Nat → Prop} (ht : TabAt h tb L next F) (id : Int) : WC (C n (.fn 35) [.ptr (some (tb, 0)), u id] h) fun r h' => Sm NoB h h' ∧ r = match gtL L id with
    | some c => .tuple [.str c.data, .int .i64 c.block, .int .i64 c.refs, .bool true]
    | none => .tuple [.str [], .int .i64 0, .int .i64 0, .bool false] := by
  obtain ⟨m, rfl⟩ : ∃ m, n = m + 1 := ⟨n - 1, by omega⟩
  refine call_fn _ f35A rfl (by simp [fn35]) fun QQ hQ => ?_
  simp only [fn35] at hQ
  simp only [fn35, fill_cons, fill_nil, Nat.zero_add, Nat.reduceAdd]
  obtain ⟨_, h1, ea, s1, rfl⟩ := tfind_ok (n := m) (by omega) ht id
  obtain ⟨h2, e2, r2, n2, g2⟩ := Rw.alloc h1 (id := h1.next) (n := 3) (vs := [.str [], .int .i64 0, .int .i64 0]) (z := tyMark 91 true) (ro := false) (Nat.le_refl _) rfl
  have key : ∀ us : List AV, us.length = 3 → us.all AV.one = true → ∃ h3 h4, h2.sto h1.next 0 us = some h3 ∧ Heap.mk h3.bs (h3.next + 12) = h4 ∧ (∀ i, h4.ld1 h1.next i = us[i]?) ∧ Sm NoB h h4 := by
    intro us hu1 hu2
    obtain ⟨w1, w2, w3, w4⟩ := r2.sto (o := 0) (us := us) (by simp [hu1]) hu2
    rw [full3 _ _ rfl hu1] at w2
    obtain ⟨h4, e4, s4, b4, n4⟩ := Sm.bump (h2.wr h1.next 0 us) 12
    refine ⟨_, _, w1, e4, fun i => ?_, ⟨by have := s1.1; omega, fun c hc _ => ?_⟩⟩
    · exact (w2.same (h' := h4) (by rw [b4])).ld1 i
    · have := s1.1
      rw [b4, w4 c (by omega), g2 c (by omega), s1.2 c hc (fun h => h)]
  cases hg : gtL L id with
  | none =>
    rw [hg] at ea
    unfold zCh at ea
    obtain ⟨h3, h4, k1, k2, k3, k4⟩ := key [.str [], .int .i64 0, .int .i64 0] rfl rfl
    simp only [F35, ea, x_al_91, e2, k1, k2, k3, x_fa_91_0, x_fa_91_1, x_fa_91_2, SS, Nat.reduceBEq, Nat.reduceEqDiff, Nat.reduceAdd, reduceIte, Nat.reduceMul]
    refine hQ _ _ _ _ (.inr rfl) (by simp only [SS, Nat.reduceBEq]) (by simp only [SS, Nat.reduceBEq, Nat.reduceEqDiff, Nat.reduceAdd, reduceIte, Nat.reduceMul]; rfl) ?_
    exact ⟨k4, by rw [hg]; rfl⟩
  | some ch =>
    rw [hg] at ea
    unfold Ch.val at ea
    obtain ⟨h3, h4, k1, k2, k3, k4⟩ := key [.str ch.data, .int .i64 ch.block, .int .i64 ch.refs] rfl rfl
    simp only [F35, ea, x_al_91, e2, k1, k2, k3, x_fa_91_0, x_fa_91_1, x_fa_91_2, SS, Nat.reduceBEq, Nat.reduceEqDiff, Nat.reduceAdd, reduceIte, Nat.reduceMul]
    refine hQ _ _ _ _ (.inr rfl) (by simp only [SS, Nat.reduceBEq]) (by simp only [SS, Nat.reduceBEq, Nat.reduceEqDiff, Nat.reduceAdd, reduceIte, Nat.reduceMul]; rfl) ?_
    exact ⟨k4, by rw [hg]; rfl⟩
theorem putC_upd {c0 : Ch} : ∀ {L : List Ch} (c : Ch), gtL L c.id = some c0 → c0.data = c.data → (putC c L).map Ch.id = L.map Ch.id ∧ (putC c L).map Ch.data = L.map Ch.data ∧ (putC c L).length = L.length ∧ ∀ d, d ∈ putC c L → d = c ∨ d ∈ L
  | [], c, h, _ => by cases h
  | d :: L, c, h, hd => by
    unfold gtL at h
    rw [List.find?_cons] at h
    rw [putC]
    cases hk : d.id == c.id with
    | true =>
      rw [hk] at h
      cases h
      have hid : c0.id = c.id := by simpa using hk
      simp only [if_true, List.map_cons, hd, hid, List.length_cons, true_and]
      intro e he
      rcases List.mem_cons.1 he with rfl | he
      · exact .inl rfl
      · exact .inr (List.mem_cons_of_mem _ he)
    | false =>
      rw [hk] at h
      obtain ⟨a1, a2, a3, a4⟩ := putC_upd c h hd
      simp only [Bool.false_eq_true, if_false, List.map_cons, a1, a2, a3, List.length_cons, true_and]
      intro e he
      rcases List.mem_cons.1 he with rfl | he
      · exact .inr (List.mem_cons_self ..)
      · exact (a4 e he).imp id (List.mem_cons_of_mem _)
theorem map_pair {L M : List Ch} (h1 : M.map Ch.id = L.map Ch.id) (h2 : M.map Ch.data = L.map Ch.data) : ∀ d, d ∈ M → ∃ e, e ∈ L ∧ e.id = d.id ∧ e.data = d.data := by
  intro d hd
  obtain ⟨i, hi⟩ := List.getElem?_of_mem hd
  have hlt := (List.getElem?_eq_some_iff.1 hi).1
  have hl : M.length = L.length := by have := congrArg List.length h1; simpa using this
  have he : L[i]? = some L[i] := List.getElem?_eq_getElem (by omega)
  have q1 : (M.map Ch.id)[i]? = (L.map Ch.id)[i]? := by rw [h1]
  have q2 : (M.map Ch.data)[i]? = (L.map Ch.data)[i]? := by rw [h2]
  rw [List.getElem?_map, List.getElem?_map, hi, he] at q1 q2
  exact ⟨L[i], List.getElem_mem _, (Option.some.inj q1).symm, (Option.some.inj q2).symm⟩
theorem TabOk.upd {L : List Ch} {next : Int} {B : Nat → List Int} (h : TabOk L next B) {c c0 : Ch} (hg : gtL L c.id = some c0) (hd : c0.data = c.data) (hr1 : 1 ≤ c.refs) (hr2 : c.refs ≤ 65535) : TabOk (putC c L) next B := by
  obtain ⟨a1, a2, a3, a4⟩ := putC_upd c hg hd
  obtain ⟨g1, g2⟩ := gt_some hg
  have m1 := map_pair a1 a2
  have m2 := map_pair a1.symm a2.symm
  refine ⟨by rw [a1]; exact h.ids, by rw [a2]; exact h.datas, fun d hd' => ?_, h.next, fun d hd' => ?_, fun i hi id hid => ?_, h.ndB, by rw [a3]; exact h.len⟩
  · rcases a4 d hd' with rfl | hd'
    · obtain ⟨q1, q2, q3, q4, q5, _⟩ := h.ch c0 g1
      rw [g2] at q1 q2
      rw [hd] at q3 q4 q5
      exact ⟨q1, q2, q3, q4, q5, hr1, hr2⟩
    · exact h.ch d hd'
  · obtain ⟨e, e1, e2, e3⟩ := m1 d hd'
    have := h.inB e e1
    rw [e2, e3] at this; exact this
  · obtain ⟨d, d1, d2, d3⟩ := h.ofB i hi id hid
    obtain ⟨e, e1, e2, e3⟩ := m2 d d1
    exact ⟨e, e1, e2.trans d2, by rw [e3]; exact d3⟩
theorem any_some {es : List MEnt} {id : Int} {x : MEnt} (h : es.find? (kInt .u32 id) = some x) : es.any (kInt .u32 id) = true := by
  rw [List.any_eq_true]
  exact ⟨x, List.mem_of_find?_eq_some h, List.find?_some h⟩
theorem hold_ok {n : Nat} (hn : 3 ≤ n) {h : Heap} {tb : Nat} {L : List Ch} {next : Int} {F : Nat → Prop} (ht : TabAt h tb L next F) {id : Int} {c : Ch} (hg : gtL L id = some c) (hr : c.refs < 65535) :
    WC (C n (.fn 16) [.ptr (some (tb, 0)), u id] h) fun r h' => r = .int .i64 0 ∧ TabAt h' tb (putC { c with refs := c.refs + 1 } L) next F ∧ Sm F h h' := by
  obtain ⟨m, rfl⟩ : ∃ m, n = m + 1 := ⟨n - 1, by omega⟩
  refine call_fn _ f16A rfl (by simp [fn16]) fun QQ hQ => ?_
  simp only [fn16] at hQ
  simp only [fn16, fill_cons, fill_nil, Nat.zero_add, Nat.reduceAdd]
  obtain ⟨_, h1, ea, s1, rfl⟩ := tfind_ok (n := m) (by omega) ht id
  rw [hg] at ea
  unfold Ch.val at ea
  obtain ⟨mb, x, es, k, B, X, t1, t2, t3, t4, t5, hmb, hne, hx1, hx2, rfl⟩ := (ht.sm s1 (fun _ _ h => h)).ex
  have t3b := t3.b
  have t3 := t3.e
  have htb := ht.lt
  have hgs := gt_some hg
  have hrb := (t5.ch c hgs.1)
  obtain ⟨h2, e2, r2, n2, g2⟩ := Rw.alloc h1 (id := h1.next) (n := 3) (vs := [.str [], .int .i64 0, .int .i64 0]) (z := tyMark 91 true) (ro := false) (Nat.le_refl _) rfl
  obtain ⟨w1, w2, w3, w4⟩ := r2.sto (o := 0) (us := [.str c.data, .int .i64 c.block, .int .i64 c.refs]) (by simp) rfl
  rw [full3 _ _ rfl rfl] at w2
  obtain ⟨v1, v2, v3, v4⟩ := w2.st1 (o := 2) (v := .int .i64 (c.refs + 1)) (by simp) rfl
  obtain ⟨h5, e5, s5, b5, n5⟩ := Sm.bump ((h2.wr h1.next 0 [.str c.data, .int .i64 c.block, .int .i64 c.refs]).wr h1.next 2 [.int .i64 (c.refs + 1)]) 7
  have hsame : ∀ b, b < h1.next → h5.bs.gt b = h1.bs.gt b := fun b hb => by rw [b5, v4 b (by omega), w4 b (by omega), g2 b (by omega)]
  have hlt1 := s1.1
  have r5 : Rw h5 tb [.map (some mb), .ptr (some (x, 0)), u next] [] false := t1.same (hsame tb (by omega))
  have m5 : h5.bs.gt mb = some (.map es k) := (hsame mb hmb).trans t2
  have ldv : h5.ld h1.next 0 3 = some [.str c.data, .int .i64 c.block, .int .i64 (c.refs + 1)] := by
    rw [(v2.same (h' := h5) (by rw [b5])).ld (i := 0) (n := 3) (by simp)]; rfl
  have hmu := x_mu_84 m5 t3.all id (.agg [.str c.data, .int .i64 c.block, .int .i64 (c.refs + 1)])
  obtain ⟨xe, f1, f2⟩ := t3.findS hg
  rw [any_some f1, if_pos rfl] at hmu
  have hent := t3.put { c with refs := c.refs + 1 } k
  unfold Ch.val at hent
  simp only [hgs.2] at hent
  obtain ⟨h6, e6, p6⟩ : ∃ h6, h5.put mb (.map (putE .u32 id (.agg [.str c.data, .int .i64 c.block, .int .i64 (c.refs + 1)]) k es) k) = h6 ∧ (∀ b, h6.bs.gt b = if b = mb then some (.map (putE .u32 id (.agg [.str c.data, .int .i64 c.block, .int .i64 (c.refs + 1)]) k es) k) else h5.bs.gt b) ∧ h6.next = h5.next := ⟨_, rfl, fun b => put_get _ _ _ _, rfl⟩
  rw [e6] at hmu
  have ew : IntKind.i64.wrap (c.refs + 1) = c.refs + 1 := wrap_i64 (by omega) (by omega)
  have hr' : ¬ c.refs = 65535 := by omega
  simp only [F16, ea, x_al_91, e2, w1, x_fa_91_2, w2.ld1, hr', ew, v1, e5, x_fa_87_0, r5.ld1, ldv, hmu, SS, Nat.reduceBEq, Nat.reduceEqDiff, Nat.reduceAdd, reduceIte, Nat.reduceMul]
  refine hQ _ _ _ _ (.inr rfl) (by simp only [SS, Nat.reduceBEq]) (by simp only [SS, Nat.reduceBEq, Nat.reduceEqDiff, Nat.reduceAdd, reduceIte, Nat.reduceMul]; rfl) ?_
  have g6 : ∀ b, b < h1.next → b ≠ mb → h6.bs.gt b = h1.bs.gt b := fun b hb hne => by rw [p6.1, if_neg hne, hsame b hb]
  refine ⟨rfl, ⟨⟨mb, x, _, k, B, X, t1.same (g6 tb (by omega) hne), by rw [p6.1, if_pos rfl], ⟨(by rw [hgs.2]; exact hent), (putE_upd (any_some f1) t3b)⟩, t4.sm (G := fun b => b = mb) ⟨by omega, fun b hb hF => g6 b hb hF⟩ (fun b hb e => hx2 (e ▸ hb)), t5.upd (c := { c with refs := c.refs + 1 }) (c0 := c) (by show gtL L c.id = _; rw [hgs.2]; exact hg) rfl (by show 1 ≤ c.refs + 1; omega) (by show c.refs + 1 ≤ 65535; omega), by omega, hne, hx1, hx2, rfl⟩, by omega⟩, ⟨by omega, fun b hb hF => ?_⟩⟩
  rw [g6 b (by omega) (fun e => hF (.inr (.inl e))), s1.2 b hb (fun h => h)]
theorem cutC_sub (id : Int) : ∀ L : List Ch, (cutC id L).Sublist L
  | [] => List.Sublist.slnil
  | d :: L => by
    rw [cutC]
    cases d.id == id with
    | true => exact List.sublist_cons_self d L
    | false => exact (cutC_sub id L).cons_cons d
theorem cutC_mem {id : Int} : ∀ {L : List Ch}, (L.map Ch.id).Nodup → ∀ d, d ∈ cutC id L ↔ d ∈ L ∧ d.id ≠ id
  | [], _, d => by simp [cutC]
  | e :: L, hn, d => by
    rw [List.map_cons, List.nodup_cons] at hn
    rw [cutC]
    cases hk : e.id == id with
    | true =>
      have hk : e.id = id := by simpa using hk
      simp only [if_true, List.mem_cons]
      constructor
      · intro hd
        refine ⟨.inr hd, fun h => hn.1 (List.mem_map.2 ⟨d, hd, by rw [h, hk]⟩)⟩
      · rintro ⟨rfl | hd, hne⟩
        · exact absurd hk hne
        · exact hd
    | false =>
      have hk : e.id ≠ id := by simpa using hk
      simp only [Bool.false_eq_true, if_false, List.mem_cons, cutC_mem hn.2 d]
      constructor
      · rintro (rfl | ⟨h1, h2⟩)
        · exact ⟨.inl rfl, hk⟩
        · exact ⟨.inr h1, h2⟩
      · rintro ⟨rfl | h1, h2⟩
        · exact .inl rfl
        · exact .inr ⟨h1, h2⟩
theorem cutC_len {id : Int} {c : Ch} : ∀ {L : List Ch}, gtL L id = some c → (cutC id L).length + 1 = L.length
  | [], h => by cases h
  | d :: L, h => by
    unfold gtL at h
    rw [List.find?_cons] at h
    rw [cutC]
    cases hk : d.id == id with
    | true => simp
    | false =>
      rw [hk] at h
      have := cutC_len h
      simp only [Bool.false_eq_true, if_false, List.length_cons]; omega
theorem mem_eraseIdx_nodup : ∀ {l : List Int} {i : Nat} {a : Int}, l.Nodup → l[i]? = some a → ∀ x, x ∈ l.eraseIdx i ↔ x ∈ l ∧ x ≠ a
  | [], _, _, _, h, _ => by simp at h
  | b :: l, 0, a, hn, h, x => by
    rw [List.nodup_cons] at hn
    cases h
    simp only [List.eraseIdx_cons_zero, List.mem_cons]
    constructor
    · intro hx; exact ⟨.inr hx, fun e => hn.1 (e ▸ hx)⟩
    · rintro ⟨rfl | h1, h2⟩
      · exact absurd rfl h2
      · exact h1
  | b :: l, i + 1, a, hn, h, x => by
    rw [List.nodup_cons] at hn
    rw [List.getElem?_cons_succ] at h
    have hne : b ≠ a := fun e => hn.1 (e ▸ List.mem_of_getElem? h)
    simp only [List.eraseIdx_cons_succ, List.mem_cons, mem_eraseIdx_nodup hn.2 h x]
    constructor
    · rintro (rfl | ⟨h1, h2⟩)
      · exact ⟨.inl rfl, hne⟩
      · exact ⟨.inr h1, h2⟩
    · rintro ⟨rfl | h1, h2⟩
      · exact .inl rfl
      · exact .inr ⟨h1, h2⟩
theorem TabOk.cut {L : List Ch} {next : Int} {B : Nat → List Int} (h : TabOk L next B) {id : Int} {c : Ch} (hg : gtL L id = some c) {i : Nat} (hi : (B (bk c.data))[i]? = some id) :
    TabOk (cutC id L) next (setF B (bk c.data) ((B (bk c.data)).eraseIdx i)) := by
  obtain ⟨g1, g2⟩ := gt_some hg
  have hbk := bk_lt c.data
  have hm := cutC_mem (id := id) h.ids
  have he := mem_eraseIdx_nodup (h.ndB _ hbk) hi
  have hl := cutC_len hg
  refine ⟨h.ids.sublist ((cutC_sub id L).map _), h.datas.sublist ((cutC_sub id L).map _), fun d hd => h.ch d ((hm d).1 hd).1, h.next, fun d hd => ?_, fun j hj x hx => ?_, fun j hj => ?_, by have := h.len; omega⟩
  · obtain ⟨d1, d2⟩ := (hm d).1 hd
    have := h.inB d d1
    by_cases e : bk d.data = bk c.data
    · rw [e, setF_same, he]; rw [e] at this; exact ⟨this, d2⟩
    · rw [setF_other _ _ e]; exact this
  · by_cases e : j = bk c.data
    · subst e
      rw [setF_same, he] at hx
      obtain ⟨d, d1, d2, d3⟩ := h.ofB _ hj x hx.1
      exact ⟨d, (hm d).2 ⟨d1, by rw [d2]; exact hx.2⟩, d2, d3⟩
    · rw [setF_other _ _ e] at hx
      obtain ⟨d, d1, d2, d3⟩ := h.ofB _ hj x hx
      refine ⟨d, (hm d).2 ⟨d1, fun h9 => e ?_⟩, d2, d3⟩
      have := nodup_inj h.ids d1 g1 (by rw [h9, g2])
      rw [← d3, this]
  · by_cases e : j = bk c.data
    · subst e
      rw [setF_same]; exact (h.ndB _ hj).sublist (List.eraseIdx_sublist ..)
    · rw [setF_other _ _ e]; exact h.ndB j hj
end Go.Proofs.Ytlfednnfkejcjaa

namespace Go.Proofs.Ytlfednnfkejcjaa
open Go.Am
set_option maxRecDepth 10000
theorem release_ok {n : Nat} (hn : 4 ≤ n) {h : Heap} {tb : Nat} {L : List Ch} {next : Int} {F : Nat → Prop} (ht : TabAt h tb L next F) {id : Int} {c : Ch} (hg : gtL L id = some c) :
    WC (C n (.fn 15) [.ptr (some (tb, 0)), u id] h) fun r h' => Sm F h h' ∧ if 1 < c.refs then r = .tuple [.bool false, .int .i64 0] ∧ TabAt h' tb (putC { c with refs := c.refs - 1 } L) next F
      else r = .tuple [.bool true, .int .i64 0] ∧ ∃ F', TabAt h' tb (cutC id L) next F' ∧ ∀ b, F' b → F b := by
  obtain ⟨m, rfl⟩ : ∃ m, n = m + 1 := ⟨n - 1, by omega⟩
  refine call_fn _ f15A rfl (by simp [fn15]) fun QQ hQ => ?_
  simp only [fn15] at hQ
  simp only [fn15, fill_cons, fill_nil, Nat.zero_add, Nat.reduceAdd]
  obtain ⟨_, h1, ea, s1, rfl⟩ := tfind_ok (n := m) (by omega) ht id
  rw [hg] at ea
  unfold Ch.val at ea
  obtain ⟨mb, x, es, k, B, X, t1, t2, t3, t4, t5, hmb, hne, hx1, hx2, rfl⟩ := (ht.sm s1 (fun _ _ h => h)).ex
  have t3b := t3.b
  have t3 := t3.e
  have htb := ht.lt
  have hgs := gt_some hg
  have hrb := (t5.ch c hgs.1)
  obtain ⟨h2, e2, r2, n2, g2⟩ := Rw.alloc h1 (id := h1.next) (n := 3) (vs := [.str [], .int .i64 0, .int .i64 0]) (z := tyMark 91 true) (ro := false) (Nat.le_refl _) rfl
  obtain ⟨w1, w2, w3, w4⟩ := r2.sto (o := 0) (us := [.str c.data, .int .i64 c.block, .int .i64 c.refs]) (by simp) rfl
  rw [full3 _ _ rfl rfl] at w2
  obtain ⟨v1, v2, v3, v4⟩ := w2.st1 (o := 2) (v := .int .i64 (c.refs - 1)) (by simp) rfl
  obtain ⟨h4, e4⟩ : ∃ h4, (h2.wr h1.next 0 [.str c.data, .int .i64 c.block, .int .i64 c.refs]).wr h1.next 2 [.int .i64 (c.refs - 1)] = h4 := ⟨_, rfl⟩
  rw [e4] at v1 v2 v3 v4
  have v2 : Rw h4 h1.next [.str c.data, .int .i64 c.block, .int .i64 (c.refs - 1)] (tyMark 91 true) false := v2
  have hsame4 : ∀ b, b < h1.next → h4.bs.gt b = h1.bs.gt b := fun b hb => by rw [v4 b (by omega), w4 b (by omega), g2 b (by omega)]
  have hlt1 := s1.1
  have r4 : Rw h4 tb [.map (some mb), .ptr (some (x, 0)), u next] [] false := t1.same (hsame4 tb (by omega))
  have ew : IntKind.i64.wrap (c.refs - 1) = c.refs - 1 := wrap_i64 (by omega) (by omega)
  by_cases hr : 1 < c.refs
  · obtain ⟨h5, e5, s5, b5, n5⟩ := Sm.bump h4 7
    have r5 : Rw h5 tb [.map (some mb), .ptr (some (x, 0)), u next] [] false := r4.same (by rw [b5])
    have m5 : h5.bs.gt mb = some (.map es k) := by rw [b5, hsame4 mb hmb]; exact t2
    have ldv : h5.ld h1.next 0 3 = some [.str c.data, .int .i64 c.block, .int .i64 (c.refs - 1)] := by
      rw [(v2.same (h' := h5) (by rw [b5])).ld (i := 0) (n := 3) (by simp)]; rfl
    have hmu := x_mu_84 m5 t3.all id (.agg [.str c.data, .int .i64 c.block, .int .i64 (c.refs - 1)])
    obtain ⟨xe, f1, f2⟩ := t3.findS hg
    rw [any_some f1, if_pos rfl] at hmu
    have hent := t3.put { c with refs := c.refs - 1 } k
    unfold Ch.val at hent
    obtain ⟨h6, e6, p6⟩ : ∃ h6, h5.put mb (.map (putE .u32 id (.agg [.str c.data, .int .i64 c.block, .int .i64 (c.refs - 1)]) k es) k) = h6 ∧ (∀ b, h6.bs.gt b = if b = mb then some (.map (putE .u32 id (.agg [.str c.data, .int .i64 c.block, .int .i64 (c.refs - 1)]) k es) k) else h5.bs.gt b) ∧ h6.next = h5.next := ⟨_, rfl, fun b => put_get _ _ _ _, rfl⟩
    rw [e6] at hmu
    have hpos : (0 : Int) < c.refs - 1 := by omega
    simp only [F15, ea, x_al_91, e2, w1, x_fa_91_2, w2.ld1, v2.ld1, hpos, ew, v1, e5, x_fa_87_0, r5.ld1, ldv, hmu, SS, Nat.reduceBEq, Nat.reduceEqDiff, Nat.reduceAdd, reduceIte, Nat.reduceMul]
    refine hQ _ _ _ _ (.inr rfl) (by simp only [SS, Nat.reduceBEq]) (by simp only [SS, Nat.reduceBEq, Nat.reduceEqDiff, Nat.reduceAdd, reduceIte, Nat.reduceMul]; rfl) ?_
    have g6 : ∀ b, b < h1.next → b ≠ mb → h6.bs.gt b = h1.bs.gt b := fun b hb hne => by rw [p6.1, if_neg hne, b5, hsame4 b hb]
    refine ⟨⟨by omega, fun b hb hF => ?_⟩, ?_⟩
    · rw [g6 b (by omega) (fun e => hF (.inr (.inl e))), s1.2 b hb (fun h => h)]
    · rw [if_pos hr]
      refine ⟨rfl, ⟨mb, x, _, k, B, X, t1.same (g6 tb (by omega) hne), by rw [p6.1, if_pos rfl], ?_, t4.sm (G := fun b => b = mb) ⟨by omega, fun b hb hF => g6 b hb hF⟩ (fun b hb e => hx2 (e ▸ hb)), t5.upd (c := { c with refs := c.refs - 1 }) (c0 := c) (by show gtL L c.id = _; rw [hgs.2]; exact hg) rfl (by show 1 ≤ c.refs - 1; omega) (by show c.refs - 1 ≤ 65535; omega), by omega, hne, hx1, hx2, rfl⟩, by omega⟩
      refine ⟨?_, putE_upd (any_some f1) t3b⟩
      simp only [hgs.2] at hent ⊢
      exact hent
  · have hr1 : c.refs = 1 := by omega
    have m4 : h4.bs.gt mb = some (.map es k) := (hsame4 mb hmb).trans t2
    have hmd := x_md_84 m4 t3.all id
    obtain ⟨h5, e5, p5⟩ : ∃ h5, h4.put mb (.map (cutE .u32 id es) k) = h5 ∧ (∀ b, h5.bs.gt b = if b = mb then some (.map (cutE .u32 id es) k) else h4.bs.gt b) ∧ h5.next = h4.next := ⟨_, rfl, fun b => put_get _ _ _ _, rfl⟩
    rw [e5] at hmd
    obtain ⟨h6, e6, s6, b6, n6⟩ := Sm.bump h5 8
    have g6 : ∀ b, b < h1.next → b ≠ mb → h6.bs.gt b = h1.bs.gt b := fun b hb hne => by rw [b6, p5.1, if_neg hne, hsame4 b hb]
    have r6 : Rw h6 tb [.map (some mb), .ptr (some (x, 0)), u next] [] false := t1.same (g6 tb (by omega) hne)
    have v6 : Rw h6 h1.next [.str c.data, .int .i64 c.block, .int .i64 (c.refs - 1)] (tyMark 91 true) false := v2.same (by rw [b6, p5.1, if_neg (by omega)])
    have ix6 : IxAt h6 x B X := t4.sm (G := fun b => b = mb) ⟨by omega, fun b hb hF => g6 b hb hF⟩ (fun b hb e => hx2 (e ▸ hb))
    have hin : id ∈ B (bk c.data) := by have := t5.inB c hgs.1; rw [hgs.2] at this; exact this
    obtain ⟨_, h7, e7, rfl, bs, i, i1, ix7, s7, f7⟩ := ixdrop_ok (n := m) (by omega) ix6 (s := c.data) (by omega) hrb.2.2.2.2.1 id hin
    have hpos : ¬ (0 : Int) < c.refs - 1 := by omega
    simp only [F15, ea, x_al_91, e2, w1, x_fa_91_2, w2.ld1, v2.ld1, hpos, ew, v1, x_fa_87_0, x_fa_87_1, x_fa_91_0, r4.ld1, hmd, e6, r6.ld1, v6.ld1, e7, SS, Nat.reduceBEq, Nat.reduceEqDiff, Nat.reduceAdd, reduceIte, Nat.reduceMul]
    refine hQ _ _ _ _ (.inr rfl) (by simp only [SS, Nat.reduceBEq]) (by simp only [SS, Nat.reduceBEq, Nat.reduceEqDiff, Nat.reduceAdd, reduceIte, Nat.reduceMul]; rfl) ?_
    have hbk := bk_lt c.data
    have hnew : ∀ b, IxF x (setF X (bk c.data) bs) b → IxF x X b := by
      rintro b (rfl | ⟨j, hj, hb⟩)
      · exact .inl rfl
      · by_cases e : j = bk c.data
        · subst e; rw [setF_same] at hb; exact .inr ⟨_, hbk, f7 b hb⟩
        · rw [setF_other _ _ e] at hb; exact .inr ⟨j, hj, hb⟩
    have g7 : ∀ b, b < h1.next → b ≠ mb → ¬ IxF x X b → h7.bs.gt b = h1.bs.gt b := fun b hb hne hF => by rw [s7.2 b (by omega) hF, g6 b hb hne]
    have hn7 := s7.1
    refine ⟨⟨by omega, fun b hb hF => ?_⟩, ?_⟩
    · rw [g7 b (by omega) (fun e => hF (.inr (.inl e))) (fun e => hF (.inr (.inr e))), s1.2 b hb (fun h => h)]
    · rw [if_neg hr]
      refine ⟨rfl, _, ⟨⟨mb, x, _, k, _, _, t1.same (g7 tb (by omega) hne hx1), by rw [s7.2 mb (by omega) hx2, b6, p5.1, if_pos rfl], ⟨t3.cut id, cutE_born t3b⟩, ix7, t5.cut hg i1, by omega, hne, fun h9 => hx1 (hnew _ h9), fun h9 => hx2 (hnew _ h9), rfl⟩, by omega⟩, fun b hb => ?_⟩
      rcases hb with rfl | rfl | hb
      · exact .inl rfl
      · exact .inr (.inl rfl)
      · exact .inr (.inr (hnew b hb))
end Go.Proofs.Ytlfednnfkejcjaa

namespace Go.Proofs.Ytlfednnfkejcjaa
open Go.Am
set_option maxRecDepth 10000
theorem perm_nd {α : Type} : ∀ {l m : List α}, l.Nodup → m.Nodup → (∀ x, x ∈ l ↔ x ∈ m) → l.Perm m
  | [], m, _, _, h => by
    cases m with
    | nil => exact List.Perm.refl _
    | cons y m => exact absurd ((h y).2 (List.mem_cons_self ..)) (by simp)
  | x :: l, m, hl, hm, h => by
    obtain ⟨a, b, rfl⟩ := List.append_of_mem ((h x).1 (List.mem_cons_self ..))
    obtain ⟨h1, h2⟩ := List.nodup_cons.1 hl
    have hp : (x :: (a ++ b)).Nodup := (List.perm_middle (a := x) (l₁ := a) (l₂ := b)).nodup_iff.1 hm
    obtain ⟨h3, h4⟩ := List.nodup_cons.1 hp
    refine ((perm_nd h2 h4 fun y => ?_).cons x).trans List.perm_middle.symm
    have hy := h y
    rw [List.mem_cons, List.perm_middle.mem_iff, List.mem_cons] at hy
    constructor
    · intro h5
      rcases hy.1 (.inr h5) with rfl | h6
      · exact absurd h5 h1
      · exact h6
    · intro h5
      rcases hy.2 (.inr h5) with rfl | h6
      · exact absurd h5 h3
      · exact h6
structure Rel (L R : List Ch) : Prop where
  mem : ∀ c, c ∈ R ↔ c ∈ L
  up : R.Pairwise (fun a b => a.id < b.id)
  nd : (L.map Ch.id).Nodup
  dd : (L.map Ch.data).Nodup
theorem nodup_of_map {α β : Type} {f : α → β} {l : List α} (h : (l.map f).Nodup) : l.Nodup := List.Pairwise.of_map f (fun _ _ hne e => hne (by rw [e])) h
section
variable {L R : List Ch}
theorem Rel.ndR (h : Rel L R) : (R.map Ch.id).Nodup := by
  rw [List.Nodup, List.pairwise_map]
  exact h.up.imp fun hlt e => by omega
theorem Rel.perm (h : Rel L R) : R.Perm L := perm_nd (nodup_of_map h.ndR) (nodup_of_map h.nd) h.mem
theorem Rel.len (h : Rel L R) : R.length = L.length := h.perm.length_eq
theorem Rel.ddR (h : Rel L R) : (R.map Ch.data).Nodup := (h.perm.map Ch.data).nodup_iff.2 h.dd
theorem Rel.nil : Rel [] [] := ⟨fun _ => Iff.rfl, List.Pairwise.nil, List.nodup_nil, List.nodup_nil⟩
theorem Rel.sortIds (h : Rel L R) : isort (L.map Ch.id) = R.map Ch.id := by
  refine sorted_eq ((isort_perm _).trans (h.perm.map Ch.id).symm) (isort_sorted _) ?_
  rw [List.pairwise_map]
  exact h.up.imp fun hlt => by omega
theorem Rel.at (h : Rel L R) {id : Int} {c : Ch} (hg : gtL L id = some c) : ∃ i : Nat, R[i]? = some c ∧ ∀ (j : Nat) (_ : j < i) (d : Ch), R[j]? = some d → d.id ≠ id := by
  obtain ⟨g1, g2⟩ := gt_some hg
  obtain ⟨i, hi⟩ := List.getElem?_of_mem ((h.mem c).2 g1)
  refine ⟨i, hi, fun j hj d hd e => ?_⟩
  obtain ⟨i1, i2⟩ := List.getElem?_eq_some_iff.1 hi
  obtain ⟨j1, j2⟩ := List.getElem?_eq_some_iff.1 hd
  have := List.pairwise_iff_getElem.1 h.up j i j1 i1 hj
  rw [i2, j2] at this
  omega
theorem Rel.none (h : Rel L R) {id : Int} (hg : gtL L id = .none) : ∀ (j : Nat) (d : Ch), R[j]? = some d → d.id ≠ id := fun j d hd => gt_none hg d ((h.mem d).1 (List.mem_of_getElem? hd))
theorem Rel.fd (h : Rel L R) {s : List Nat} {c : Ch} (hg : fdL L s = some c) : ∃ i : Nat, R[i]? = some c ∧ c.data = s ∧ ∀ (j : Nat) (_ : j < i) (d : Ch), R[j]? = some d → d.data ≠ s := by
  obtain ⟨g1, g2⟩ := fd_some hg
  obtain ⟨i, hi⟩ := List.getElem?_of_mem ((h.mem c).2 g1)
  refine ⟨i, hi, g2, fun j hj d hd e => ?_⟩
  obtain ⟨i1, i2⟩ := List.getElem?_eq_some_iff.1 hi
  obtain ⟨j1, j2⟩ := List.getElem?_eq_some_iff.1 hd
  have hn := List.pairwise_iff_getElem.1 h.ddR j i (by simpa using j1) (by simpa using i1) hj
  rw [List.getElem_map, List.getElem_map, i2, j2] at hn
  exact hn (e.trans g2.symm)
def posR (id : Int) : List Ch → Nat
  | [] => 0
  | c :: R => if c.id < id then posR id R + 1 else 0
theorem posR_le (id : Int) : ∀ R, posR id R ≤ R.length
  | [] => Nat.le_refl _
  | c :: R => by unfold posR; split; exact Nat.succ_le_succ (posR_le id R); exact Nat.zero_le _
theorem posR_lt {id : Int} : ∀ {R : List Ch} {j : Nat}, j < posR id R → ∃ c, R[j]? = some c ∧ c.id < id
  | [], j, h => by unfold posR at h; omega
  | c :: R, j, h => by
    unfold posR at h
    split at h
    · rename_i hc
      cases j with
      | zero => exact ⟨c, rfl, hc⟩
      | succ j => exact posR_lt (R := R) (by omega)
    · omega
theorem posR_at {id : Int} : ∀ {R : List Ch} {c : Ch}, R[posR id R]? = some c → ¬ c.id < id
  | [], c, h => by cases h
  | d :: R, c, h => by
    unfold posR at h
    split at h
    · exact posR_at (R := R) h
    · rename_i hc
      have : d = c := Option.some.inj h
      rw [← this]; exact hc
def insR (x : Ch) (R : List Ch) : List Ch := R.take (posR x.id R) ++ x :: R.drop (posR x.id R)
theorem insR_mem {x : Ch} {R : List Ch} (c : Ch) : c ∈ insR x R ↔ c = x ∨ c ∈ R := by
  unfold insR
  rw [List.mem_append, List.mem_cons]
  have : c ∈ R ↔ c ∈ R.take (posR x.id R) ∨ c ∈ R.drop (posR x.id R) := by
    rw [← List.mem_append, List.take_append_drop]
  rw [this]
  constructor
  · rintro (h | h | h)
    · exact .inr (.inl h)
    · exact .inl h
    · exact .inr (.inr h)
  · rintro (h | h | h)
    · exact .inr (.inl h)
    · exact .inl h
    · exact .inr (.inr h)
theorem insR_up {x : Ch} : ∀ {R : List Ch}, R.Pairwise (fun a b => a.id < b.id) → (∀ c, c ∈ R → c.id ≠ x.id) → (insR x R).Pairwise (fun a b => a.id < b.id)
  | [], _, _ => List.pairwise_singleton _ _
  | d :: R, h, hx => by
    obtain ⟨h1, h2⟩ := List.pairwise_cons.1 h
    have hd := hx d (List.mem_cons_self ..)
    unfold insR posR
    by_cases hc : d.id < x.id
    · rw [if_pos hc]
      show (d :: insR x R).Pairwise _
      refine List.pairwise_cons.2 ⟨fun c hcm => ?_, insR_up h2 fun c hc => hx c (List.mem_cons_of_mem _ hc)⟩
      rcases (insR_mem c).1 hcm with rfl | hcm
      · exact hc
      · exact h1 c hcm
    · rw [if_neg hc]
      show (x :: d :: R).Pairwise _
      refine List.pairwise_cons.2 ⟨fun c hcm => ?_, h⟩
      rcases List.mem_cons.1 hcm with rfl | hcm
      · omega
      · have := h1 c hcm; omega
theorem Rel.add (h : Rel L R) {x : Ch} (hi : gtL L x.id = .none) (hd : fdL L x.data = .none) : Rel (L ++ [x]) (insR x R) := by
  refine ⟨fun c => ?_, insR_up h.up fun c hc => gt_none hi c ((h.mem c).1 hc), ?_, ?_⟩
  · rw [insR_mem, List.mem_append, List.mem_singleton, h.mem]; exact Or.comm
  · rw [List.map_append]
    exact nodup_snoc h.nd fun hm => by obtain ⟨c, c1, c2⟩ := List.mem_map.1 hm; exact gt_none hi c c1 c2
  · rw [List.map_append]
    exact nodup_snoc h.dd fun hm => by obtain ⟨c, c1, c2⟩ := List.mem_map.1 hm; exact fd_none hd c c1 c2
theorem putC_mem {c0 : Ch} : ∀ {L : List Ch} (c : Ch), (L.map Ch.id).Nodup → gtL L c.id = some c0 → ∀ d, d ∈ putC c L ↔ d = c ∨ (d ∈ L ∧ d.id ≠ c.id)
  | [], c, _, hg, _ => by cases hg
  | e :: L, c, hn, hg, d => by
    obtain ⟨n1, n2⟩ := List.nodup_cons.1 hn
    unfold putC
    by_cases he : e.id = c.id
    · have : (e.id == c.id) = true := by simpa using he
      first | rw [if_pos he] | rw [if_pos this] | simp only [he, if_true, this]
      rw [List.mem_cons, List.mem_cons]
      constructor
      · rintro (h | h)
        · exact .inl h
        · refine .inr ⟨.inr h, fun e' => n1 ?_⟩
          rw [he, ← e']; exact List.mem_map.2 ⟨d, h, rfl⟩
      · rintro (h | ⟨h | h, h'⟩)
        · exact .inl h
        · exact absurd (h ▸ he) h'
        · exact .inr h
    · have hb : (e.id == c.id) = false := by simpa using he
      have hg' : gtL L c.id = some c0 := by
        unfold gtL at hg ⊢
        rw [List.find?_cons] at hg
        simpa [hb] using hg
      first | rw [if_neg he] | rw [if_neg (by simpa using he)]
      rw [List.mem_cons, List.mem_cons, putC_mem c n2 hg' d]
      constructor
      · rintro (h | h | ⟨h, h'⟩)
        · exact .inr ⟨.inl h, h ▸ he⟩
        · exact .inl h
        · exact .inr ⟨.inr h, h'⟩
      · rintro (h | ⟨h | h, h'⟩)
        · exact .inr (.inl h)
        · exact .inl h
        · exact .inr (.inr ⟨h, h'⟩)
theorem set_memR {R : List Ch} (hn : (R.map Ch.id).Nodup) {i : Nat} {c0 c : Ch} (hi : R[i]? = some c0) (hc : c0.id = c.id) (d : Ch) : d ∈ R.set i c ↔ d = c ∨ (d ∈ R ∧ d.id ≠ c.id) := by
  obtain ⟨i1, i2⟩ := List.getElem?_eq_some_iff.1 hi
  have hs : R.set i c = R.take i ++ c :: R.drop (i + 1) := by rw [List.set_eq_take_append_cons_drop, if_pos i1]
  have hR : R = R.take i ++ c0 :: R.drop (i + 1) := by rw [← i2, List.getElem_cons_drop, List.take_append_drop]
  have hn' : ((R.take i).map Ch.id ++ c0.id :: (R.drop (i + 1)).map Ch.id).Nodup := by rw [← List.map_cons, ← List.map_append, ← hR]; exact hn
  obtain ⟨_, n2, n3⟩ := List.nodup_append.1 hn'
  obtain ⟨n4, _⟩ := List.nodup_cons.1 n2
  rw [hs, List.mem_append, List.mem_cons]
  have hm : d ∈ R ↔ d ∈ R.take i ∨ d = c0 ∨ d ∈ R.drop (i + 1) := by rw [← List.mem_cons, ← List.mem_append, ← hR]
  rw [hm]
  have a1 : d ∈ R.take i → d.id ≠ c.id := fun h e => n3 d.id (List.mem_map.2 ⟨d, h, rfl⟩) c0.id (List.mem_cons_self ..) (e.trans hc.symm)
  have a2 : d ∈ R.drop (i + 1) → d.id ≠ c.id := fun h e => n4 (by rw [hc, ← e]; exact List.mem_map.2 ⟨d, h, rfl⟩)
  constructor
  · rintro (h | h | h)
    · exact .inr ⟨.inl h, a1 h⟩
    · exact .inl h
    · exact .inr ⟨.inr (.inr h), a2 h⟩
  · rintro (h | ⟨h | h | h, h'⟩)
    · exact .inr (.inl h)
    · exact .inl h
    · exact absurd (h ▸ hc) h'
    · exact .inr (.inr h)
theorem set_ids {R : List Ch} {i : Nat} {c0 c : Ch} (hi : R[i]? = some c0) (hc : c0.id = c.id) : (R.set i c).map Ch.id = R.map Ch.id := by
  rw [List.map_set, ← hc]
  obtain ⟨i1, i2⟩ := List.getElem?_eq_some_iff.1 hi
  rw [← i2, show R[i].id = (R.map Ch.id)[i]'(by simpa using i1) by simp, List.set_getElem_self]
theorem pw_ids {R R' : List Ch} (h : R'.map Ch.id = R.map Ch.id) (hu : R.Pairwise (fun a b => a.id < b.id)) : R'.Pairwise (fun a b => a.id < b.id) := by
  have h1 : (R.map Ch.id).Pairwise (· < ·) := List.pairwise_map.2 hu
  rw [← h] at h1
  exact List.pairwise_map.1 h1
theorem Rel.upd (h : Rel L R) {c c0 : Ch} (hg : gtL L c.id = some c0) (hd : c0.data = c.data) {i : Nat} (hi : R[i]? = some c0) : Rel (putC c L) (R.set i c) := by
  have hc0 := (gt_some hg).2
  obtain ⟨p1, p2, _, _⟩ := putC_upd c hg hd
  refine ⟨fun d => ?_, pw_ids (set_ids hi hc0) h.up, by rw [p1]; exact h.nd, by rw [p2]; exact h.dd⟩
  rw [putC_mem c h.nd hg, set_memR h.ndR hi hc0, h.mem]
theorem Rel.cut (h : Rel L R) {id : Int} {c : Ch} (hg : gtL L id = some c) {i : Nat} (hi : R[i]? = some c) : Rel (cutC id L) (R.eraseIdx i) := by
  have hid := (gt_some hg).2
  obtain ⟨i1, i2⟩ := List.getElem?_eq_some_iff.1 hi
  have hR : R = R.take i ++ c :: R.drop (i + 1) := by rw [← i2, List.getElem_cons_drop, List.take_append_drop]
  have hn' : ((R.take i).map Ch.id ++ c.id :: (R.drop (i + 1)).map Ch.id).Nodup := by rw [← List.map_cons, ← List.map_append, ← hR]; exact h.ndR
  obtain ⟨_, n2, n3⟩ := List.nodup_append.1 hn'
  obtain ⟨n4, _⟩ := List.nodup_cons.1 n2
  have hsub := List.eraseIdx_sublist R i
  have hcs := cutC_sub id L
  refine ⟨fun d => ?_, h.up.sublist hsub, h.nd.sublist (hcs.map Ch.id), h.dd.sublist (hcs.map Ch.data)⟩
  rw [cutC_mem h.nd, ← h.mem, List.eraseIdx_eq_take_drop_succ, List.mem_append]
  have hm : d ∈ R ↔ d ∈ R.take i ∨ d = c ∨ d ∈ R.drop (i + 1) := by rw [← List.mem_cons, ← List.mem_append, ← hR]
  rw [hm]
  have a1 : d ∈ R.take i → d.id ≠ id := fun h e => n3 d.id (List.mem_map.2 ⟨d, h, rfl⟩) c.id (List.mem_cons_self ..) (e.trans hid.symm)
  have a2 : d ∈ R.drop (i + 1) → d.id ≠ id := fun h e => n4 (by rw [hid, ← e]; exact List.mem_map.2 ⟨d, h, rfl⟩)
  constructor
  · rintro (h | h)
    · exact ⟨.inl h, a1 h⟩
    · exact ⟨.inr (.inr h), a2 h⟩
  · rintro ⟨h | h | h, h'⟩
    · exact .inl h
    · exact absurd (h ▸ hid) h'
    · exact .inr h
theorem Rel.self (h : Rel L R) : Rel R R := ⟨fun _ => Iff.rfl, h.up, h.ndR, h.ddR⟩
end
end Go.Proofs.Ytlfednnfkejcjaa

namespace Go.Proofs.Ytlfednnfkejcjaa
open Go.Am
set_option maxRecDepth 10000
def blkOf : AV → Nat → Prop
  | .slice (some (b, _)) _ _ _, c => b = c
  | _, _ => False
theorem ld_part {h : Heap} {b o n : Nat} {vs : List AV} (hl : h.ld b o n = some vs) {i k : Nat} (hi : i + k ≤ n) : h.ld b (o + i) k = some ((vs.drop i).take k) := by
  obtain ⟨t, z, m, ro, h1, h2, h3, h4⟩ := ld_some hl
  unfold Heap.ld Heap.cells
  rw [h1]
  show (Bool.rec (motive := fun _ => Option (List AV)) none (loadC t z k (o + i)) (Nat.ble (o + i + k) m) : Option (List AV)) = _
  rw [show Nat.ble (o + i + k) m = true from Nat.ble_eq_true_of_le (by omega)]
  have hlen : ((vs.drop i).take k).length = k := by simp; omega
  have := Go.Am.loadC_of (t := t) (z := z) (vs := (vs.drop i).take k) (i := o + i) fun j hj => by
    rw [hlen] at hj
    rw [show o + i + j = o + (i + j) by omega, h4 _ (by omega), List.getElem?_take_of_lt hj, List.getElem?_drop]
  rw [hlen] at this
  exact this
theorem elsR_sm {F : Nat → Prop} {h h' : Heap} {v : AV} {n s : Nat} {cs : List AV} (hi : ElsR h v n s cs) (hs : Sm F h h') (hF : ∀ b, blkOf v b → ¬ F b) : ElsR h' v n s cs := by
  obtain ⟨h0, a, c, g, rfl, h1, h2⟩ := hi
  refine ⟨h0, a, c, g, rfl, h1, fun b o e => ?_⟩
  subst e
  obtain ⟨g1, g2⟩ := h2 b o rfl
  refine ⟨Nat.lt_of_lt_of_le g1 hs.1, fun hn => ?_⟩
  rw [← g2 hn]
  unfold Heap.ld Heap.cells
  rw [hs.2 b g1 (hF b rfl)]
theorem elsR_lt {h : Heap} {v : AV} {n s : Nat} {cs : List AV} (hi : ElsR h v n s cs) {b : Nat} (hb : blkOf v b) : b < h.next := by
  obtain ⟨h0, a, c, g, rfl, h1, h2⟩ := hi
  cases a with
  | none => exact hb.elim
  | some p => have : p.1 = b := hb; rw [← this]; exact (h2 p.1 p.2 rfl).1
theorem els_R {h : Heap} {v : AV} {n s : Nat} {cs : List AV} (hv : Els h v n s cs) : ElsR h v n s cs := by
  obtain ⟨h0, a, c, g, rfl, h1, h2⟩ := hv
  exact ⟨h0, a, c, g, rfl, h1, fun b o e => ⟨(h2 b o e).1, fun _ => (h2 b o e).2⟩⟩
theorem app_any {P : Program} {t : TypeId} {e k by' m id n : Nat} {h : Heap} {v zv x : AV} {ys cs : List AV} {bs : List Nat} (hu : P.underlying t = some (.slice e)) (hs : tSize P e = some (k + 1)) (hb : tBytes P e = some by') (hz : tZero P e = some zv) (hzl : zv.cells.length = k + 1)
    (ho : SlO e (k + 1) h v n cs bs) (hsrc : srcOf (k + 1) (fun n => n) x h = some (ys, m)) (hyl : ys.length = m * (k + 1)) (hy1 : ys.all AV.one = true) (hr : room by' (n + m) = true) (hid : h.next ≤ id) :
    ∃ v' h' bs', appendS P t v x id h = some (v', h') ∧ SlO e (k + 1) h' v' (n + m) (cs ++ ys) bs' ∧ h.next ≤ h'.next ∧ (∀ c, c ∉ bs → c ≠ id → h'.bs.gt c = h.bs.gt c) ∧ (∀ b, b ∈ bs' → b ∈ bs ∨ b = id) ∧ (h'.next = h.next ∨ h'.next = id + 1) := by
  by_cases hm : 0 < m
  · exact app_own hu hs hb hz hzl ho hsrc hm hyl hy1 hr hid
  · obtain rfl : m = 0 := by omega
    rw [Nat.zero_mul] at hyl
    obtain rfl := List.eq_nil_of_length_eq_zero hyl
    obtain ⟨_, a, c, g, rfl, _⟩ := _root_.id ho.els
    refine ⟨.slice a n c g, h, bs, ?_, ?_, Nat.le_refl _, (fun _ _ _ => rfl), (fun _ hb => .inl hb), .inl rfl⟩
    · rw [appendS_eq hu hs hb hz hzl hsrc (by simp) hr, if_pos rfl]
    · rw [List.append_nil]; exact ho
theorem els_pre {h : Heap} {a : Option (Nat × Nat)} {n c s : Nat} {g : Option Nat} {cs : List AV} (hv : Els h (.slice a n c g) n s cs) {k c' : Nat} {g' : Option Nat} (hk : k ≤ n) :
    srcOf s (fun n => n) (.slice (a.map fun p => (p.1, p.2 + 0 * s)) (k - 0) c' g') h = some (cs.take (k * s), k) := by
  obtain ⟨h0, a', c1, g1, e, h1, h2⟩ := hv
  cases e
  cases a with
  | none =>
    obtain rfl : k = 0 := by have := h1 rfl; omega
    rw [Nat.zero_mul, List.take_zero]; rfl
  | some p =>
    show srcOf s (fun n => n) (.slice (some (p.1, p.2 + 0 * s)) (k - 0) c' g') h = _
    rw [srcOf_at, Nat.sub_zero]
    by_cases h0' : k = 0
    · subst h0'; rw [if_pos rfl, Nat.zero_mul, List.take_zero]
    · have hle := Nat.mul_le_mul_right s hk
      have := ld_part (h2 p.1 p.2 rfl).2 (i := 0) (k := k * s) (by omega)
      rw [if_neg h0']
      show (match h.ld p.1 (p.2 + 0 * s) (k * s) with | none => none | some vs => some (vs, k)) = _
      rw [Nat.zero_mul, this, List.drop_zero]
theorem els_post {h : Heap} {a : Option (Nat × Nat)} {n c s : Nat} {g : Option Nat} {cs : List AV} (hv : Els h (.slice a n c g) n s cs) {k c' : Nat} {g' : Option Nat} (hk : k ≤ n) :
    srcOf s (fun n => n) (.slice (a.map fun p => (p.1, p.2 + k * s)) (n - k) c' g') h = some (cs.drop (k * s), n - k) := by
  obtain ⟨h0, a', c1, g1, e, h1, h2⟩ := hv
  cases e
  have hle := Nat.mul_le_mul_right s hk
  have hsub : (n - k) * s = n * s - k * s := Nat.sub_mul ..
  cases a with
  | none =>
    have := h1 rfl
    obtain rfl : n = 0 := this
    obtain rfl : k = 0 := by omega
    rw [Nat.zero_mul] at h0
    rw [List.eq_nil_of_length_eq_zero h0]; rw [List.drop_nil]; rfl
  | some p =>
    show srcOf s (fun n => n) (.slice (some (p.1, p.2 + k * s)) (n - k) c' g') h = _
    rw [srcOf_at]
    by_cases h0' : n - k = 0
    · rw [if_pos h0', List.drop_of_length_le (by rw [h0]; have : n = k := by omega
                                                 rw [this]; exact Nat.le_refl _), h0']
    · have := ld_part (h2 p.1 p.2 rfl).2 (i := k * s) (k := (n - k) * s) (by omega)
      rw [if_neg h0']
      show (match h.ld p.1 (p.2 + k * s) ((n - k) * s) with | none => none | some vs => some (vs, n - k)) = _
      rw [this, List.take_of_length_le (by simp; omega)]
def Ch.rc (x : Ch) : List AV := [.int .u32 x.id, .str x.data, .int .i64 x.block, .int .i64 x.refs]
abbrev csR (L : List Ch) : List AV := L.flatMap Ch.rc
theorem csR_len (L : List Ch) : (csR L).length = L.length * 4 := by
  induction L with
  | nil => rfl
  | cons x L ih => show (Ch.rc x ++ csR L).length = _; rw [List.length_append, ih, List.length_cons]; simp [Ch.rc]; omega
theorem csR_get : ∀ (L : List Ch) (i : Nat) (h : i < L.length) (f : Nat), f < 4 → (csR L)[i * 4 + f]? = (L[i].rc)[f]?
  | x :: L, 0, h, f, hf => by show (Ch.rc x ++ csR L)[0 * 4 + f]? = _; rw [List.getElem?_append_left (by simp [Ch.rc]; omega), Nat.zero_mul, Nat.zero_add]; rfl
  | x :: L, i + 1, h, f, hf => by
    show (Ch.rc x ++ csR L)[(i + 1) * 4 + f]? = _
    rw [List.getElem?_append_right (by simp [Ch.rc]; omega), show (i + 1) * 4 + f - (Ch.rc x).length = i * 4 + f by simp [Ch.rc]; omega]
    exact csR_get L i (by simpa using h) f hf
theorem csR_one (L : List Ch) : (csR L).all AV.one = true := by
  rw [List.all_eq_true]; intro x hx
  obtain ⟨y, _, hy⟩ := List.mem_flatMap.1 hx
  simp only [Ch.rc, List.mem_cons, List.not_mem_nil, or_false] at hy
  rcases hy with rfl | rfl | rfl | rfl <;> rfl
def Rz : Ch := ⟨0, [], 0, 0⟩
def Ri (L : List Ch) (i : Nat) : Ch := L.getD i Rz
theorem Ri_at {L : List Ch} {i : Nat} (h : i < L.length) : Ri L i = L[i] := by simp [Ri, List.getD_eq_getElem?_getD, List.getElem?_eq_getElem h]
def Chs (h : Heap) (v : AV) (L : List Ch) : Prop := ElsR h v L.length 4 (csR L)
section
variable {h h' : Heap} {v : AV} {L : List Ch}
theorem Chs.sl (hi : Chs h v L) : ∃ a c g, v = .slice a L.length c g := by
  obtain ⟨_, a, c, g, e, _⟩ := hi
  exact ⟨a, c, g, e⟩
theorem Chs.sm {F : Nat → Prop} (hi : Chs h v L) (hs : Sm F h h') (hF : ∀ b, blkOf v b → ¬ F b) : Chs h' v L := elsR_sm hi hs hF
theorem Chs.lt (hi : Chs h v L) {b : Nat} (hb : blkOf v b) : b < h.next := elsR_lt hi hb
theorem Chs.at {a : Option (Nat × Nat)} {c : Nat} {g : Option Nat} (hi : Chs h (.slice a L.length c g) L) {i : Nat} (hl : i < L.length) :
    ∃ b o, a = some (b, o) ∧ h.ld1 b (o + i * 4) = some (.int .u32 (Ri L i).id) ∧ h.ld1 b (o + i * 4 + 1) = some (.str (Ri L i).data) ∧ h.ld1 b (o + i * 4 + 2) = some (.int .i64 (Ri L i).block) ∧ h.ld1 b (o + i * 4 + 3) = some (.int .i64 (Ri L i).refs) ∧ h.ld b (o + i * 4) 4 = some (Ri L i).rc := by
  obtain ⟨h0, a', c', g', e, h1, h2⟩ := hi
  cases e
  cases a with
  | none => have := h1 rfl; omega
  | some p =>
    have hld := (h2 p.1 p.2 rfl).2 (by omega)
    have hc := (ld_ld1 hld).2
    have hp := ld_part hld (i := i * 4) (k := 4) (by omega)
    refine ⟨p.1, p.2, rfl, ?_, ?_, ?_, ?_, ?_⟩
    · rw [hc _ (by omega)]; rw [Ri_at hl]; exact (csR_get L i hl 0 (by omega))
    · rw [Nat.add_assoc]; rw [hc _ (by omega)]; rw [Ri_at hl]; exact (csR_get L i hl 1 (by omega))
    · rw [Nat.add_assoc]; rw [hc _ (by omega)]; rw [Ri_at hl]; exact (csR_get L i hl 2 (by omega))
    · rw [Nat.add_assoc]; rw [hc _ (by omega)]; rw [Ri_at hl]; exact (csR_get L i hl 3 (by omega))
    · rw [hp]; congr 1
      apply List.ext_getElem?
      intro f
      rw [Ri_at hl]
      by_cases hf : f < 4
      · rw [List.getElem?_take_of_lt hf, List.getElem?_drop]; exact csR_get L i hl f hf
      · rw [List.getElem?_eq_none (by simp; omega), List.getElem?_eq_none (by simp [Ch.rc]; omega)]
end
structure RefAt (h : Heap) (rb : Nat) (R : List Ch) (next : Int) (bs : List Nat) : Prop where
  ex : ∃ v, Rw h rb [v, u next] [] false ∧ SlO 114 4 h v R.length (csR R) bs
  lt : rb < h.next
  nb : rb ∉ bs
theorem RefAt.sm {h h' : Heap} {rb : Nat} {R : List Ch} {next : Int} {bs : List Nat} {G : Nat → Prop} (hr : RefAt h rb R next bs) (hs : Sm G h h') (h1 : ¬ G rb) (h2 : ∀ b, b ∈ bs → ¬ G b) : RefAt h' rb R next bs := by
  obtain ⟨v, r, o⟩ := hr.ex
  exact ⟨⟨v, r.sm hs hr.lt h1, o.sm hs h2⟩, Nat.lt_of_lt_of_le hr.lt hs.1, hr.nb⟩
theorem RefAt.no {h h' : Heap} {rb : Nat} {R : List Ch} {next : Int} {bs : List Nat} (hr : RefAt h rb R next bs) (hs : Sm NoB h h') : RefAt h' rb R next bs := hr.sm hs (fun h => h) (fun _ _ h => h)
def RefF (rb : Nat) (bs : List Nat) : Nat → Prop := fun b => b = rb ∨ b ∈ bs
theorem RefAt.flt {h : Heap} {rb : Nat} {R : List Ch} {next : Int} {bs : List Nat} (hr : RefAt h rb R next bs) : ∀ b, RefF rb bs b → b < h.next := by
  rintro b (rfl | hb)
  · exact hr.lt
  · obtain ⟨v, _, o⟩ := hr.ex
    exact o.lt b hb
def FirstR (p : Ch → Bool) (R : List Ch) (r : AV) : Prop :=
  (∃ (i : Nat) (c : Ch), R[i]? = some c ∧ p c = true ∧ (∀ (j : Nat) (_ : j < i) (d : Ch), R[j]? = some d → p d = false) ∧ r = I i) ∨ ((∀ c, c ∈ R → p c = false) ∧ r = .int .i64 (-1))
theorem rat_ok {n : Nat} (hn : 1 ≤ n) {h : Heap} {rb : Nat} {R : List Ch} {next : Int} {bs : List Nat} (hr : RefAt h rb R next bs) (hl : R.length ≤ 1000) (x : Int) :
    WC (C n (.fn 69) [.ptr (some (rb, 0)), u x] h) fun r h' => h' = h ∧ FirstR (fun c => decide (c.id = x)) R r := by
  obtain ⟨v, r1, o1⟩ := hr.ex
  obtain ⟨a, c, g, rfl⟩ := Chs.sl (els_R o1.els)
  have hi : Chs h (.slice a R.length c g) R := els_R o1.els
  have l0 := r1.ld1 0
  rw [List.getElem?_cons_zero] at l0
  obtain ⟨m, rfl⟩ : ∃ m, n = m + 1 := ⟨n - 1, by omega⟩
  refine call_fn _ f69A rfl (by simp [fn69]) fun QQ hQ => ?_
  simp only [fn69] at hQ
  simp only [fn69, fill_cons, fill_nil, Nat.zero_add, Nat.reduceAdd]
  simp only [F69, SS, Nat.reduceBEq, Nat.reduceEqDiff, Nat.reduceAdd, reduceIte, Nat.reduceMul]
  refine run_loop (c := c69_7) (I := fun m' tm' h' => ∃ i, i ≤ R.length ∧ m' = R.length - i ∧ h' = h ∧ (∀ (j : Nat) (_ : j < i) (d : Ch), R[j]? = some d → d.id ≠ x) ∧ tm'.gt 0 = some (.ptr (some (rb, 0))) ∧ tm'.gt 1 = some (u x) ∧ tm'.gt 5 = some (I i) ∧ tm'.gt 26 = none) (n := R.length)
    ⟨0, by omega, rfl, rfl, (fun j hj => by omega), by simp only [SS, Nat.reduceBEq], by simp only [SS, Nat.reduceBEq], by simp only [SS, Nat.reduceBEq, Nat.reduceEqDiff, Nat.reduceAdd, reduceIte, Nat.reduceMul]; rfl, by simp only [SS, Nat.reduceBEq]⟩ (by omega) ?_
  rintro _ tm h1 ⟨i, hil, rfl, rfl, hno, t0, t1, t5, t26⟩ Q1 hN1 hE
  by_cases hlt : i < R.length
  · obtain ⟨b, o, rfl, i0, i1, i2, i3, _⟩ := hi.at hlt
    have x2 := x_ia_107 (k := .i64) (b := b) (o := o) (c := c) (g := g) hlt
    have hgi : R[i]? = some (Ri R i) := by rw [Ri_at hlt, List.getElem?_eq_getElem hlt]
    by_cases he : (Ri R i).id = x
    · simp only [F69, SS, Nat.reduceBEq, Nat.reduceEqDiff, Nat.reduceAdd, reduceIte, Nat.reduceMul, t0, t1, t5, t26, x_fa_109_0, l0, x_len_107, Int.ofNat_lt, hlt, x2, x_fa_114_0, i0, he]
      refine hE _ _ _ (by simp) ?_
      simp only [SS, Nat.reduceBEq, Nat.reduceEqDiff, Nat.reduceAdd, reduceIte, Nat.reduceMul]
      refine hQ _ _ _ _ (.inr rfl) (by simp only [SS, Nat.reduceBEq, t26]) (by simp only [SS, Nat.reduceBEq, Nat.reduceEqDiff, Nat.reduceAdd, reduceIte, Nat.reduceMul]; rfl) ⟨rfl, .inl ⟨i, _, hgi, by simp [he], fun j hj d hd => by simpa using hno j hj d hd, rfl⟩⟩
    · simp only [F69, SS, Nat.reduceBEq, Nat.reduceEqDiff, Nat.reduceAdd, reduceIte, Nat.reduceMul, t0, t1, t5, t26, x_fa_109_0, l0, x_len_107, Int.ofNat_lt, hlt, x2, x_fa_114_0, i0, he, wAdd1 (show i ≤ 1000000 by omega)]
      refine hN1 _ _ (R.length - (i + 1)) (by omega) ⟨i + 1, hlt, rfl, rfl, fun j hj d hd => ?_, by simp only [SS, Nat.reduceBEq, t0], by simp only [SS, Nat.reduceBEq, t1], by simp only [SS, Nat.reduceBEq], by simp only [SS, Nat.reduceBEq, t26]⟩
      by_cases e : j = i
      · subst e; rw [hgi] at hd; rw [← Option.some.inj hd]; exact he
      · exact hno j (by omega) d hd
  · obtain rfl : i = R.length := by omega
    simp only [F69, SS, Nat.reduceBEq, Nat.reduceEqDiff, Nat.reduceAdd, reduceIte, Nat.reduceMul, t0, t1, t5, t26, x_fa_109_0, l0, x_len_107, Int.ofNat_lt, hlt]
    refine hE _ _ _ (by simp) ?_
    simp only [F69, SS, Nat.reduceBEq, Nat.reduceEqDiff, Nat.reduceAdd, reduceIte, Nat.reduceMul, t26]
    refine hQ _ _ _ _ (.inr rfl) (by simp only [SS, Nat.reduceBEq, t26]) (by simp only [SS, Nat.reduceBEq, Nat.reduceEqDiff, Nat.reduceAdd, reduceIte, Nat.reduceMul]; rfl) ⟨rfl, .inr ⟨fun d hd => ?_, rfl⟩⟩
    obtain ⟨j, hj⟩ := List.getElem?_of_mem hd
    have hjl := (List.getElem?_eq_some_iff.1 hj).1
    simpa using hno j hjl d hj
theorem rfd_ok {n : Nat} (hn : 1 ≤ n) {h : Heap} {rb : Nat} {R : List Ch} {next : Int} {bs : List Nat} (hr : RefAt h rb R next bs) (hl : R.length ≤ 1000) (x : List Nat) :
    WC (C n (.fn 70) [.ptr (some (rb, 0)), .str x] h) fun r h' => h' = h ∧ FirstR (fun c => decide (c.data = x)) R r := by
  obtain ⟨v, r1, o1⟩ := hr.ex
  obtain ⟨a, c, g, rfl⟩ := Chs.sl (els_R o1.els)
  have hi : Chs h (.slice a R.length c g) R := els_R o1.els
  have l0 := r1.ld1 0
  rw [List.getElem?_cons_zero] at l0
  obtain ⟨m, rfl⟩ : ∃ m, n = m + 1 := ⟨n - 1, by omega⟩
  refine call_fn _ f70A rfl (by simp [fn70]) fun QQ hQ => ?_
  simp only [fn70] at hQ
  simp only [fn70, fill_cons, fill_nil, Nat.zero_add, Nat.reduceAdd]
  simp only [F70, SS, Nat.reduceBEq, Nat.reduceEqDiff, Nat.reduceAdd, reduceIte, Nat.reduceMul]
  refine run_loop (c := c70_7) (I := fun m' tm' h' => ∃ i, i ≤ R.length ∧ m' = R.length - i ∧ h' = h ∧ (∀ (j : Nat) (_ : j < i) (d : Ch), R[j]? = some d → d.data ≠ x) ∧ tm'.gt 0 = some (.ptr (some (rb, 0))) ∧ tm'.gt 1 = some (.str x) ∧ tm'.gt 5 = some (I i) ∧ tm'.gt 26 = none) (n := R.length)
    ⟨0, by omega, rfl, rfl, (fun j hj => by omega), by simp only [SS, Nat.reduceBEq], by simp only [SS, Nat.reduceBEq], by simp only [SS, Nat.reduceBEq, Nat.reduceEqDiff, Nat.reduceAdd, reduceIte, Nat.reduceMul]; rfl, by simp only [SS, Nat.reduceBEq]⟩ (by omega) ?_
  rintro _ tm h1 ⟨i, hil, rfl, rfl, hno, t0, t1, t5, t26⟩ Q1 hN1 hE
  by_cases hlt : i < R.length
  · obtain ⟨b, o, rfl, i0, i1, i2, i3, _⟩ := hi.at hlt
    have x2 := x_ia_107 (k := .i64) (b := b) (o := o) (c := c) (g := g) hlt
    have hgi : R[i]? = some (Ri R i) := by rw [Ri_at hlt, List.getElem?_eq_getElem hlt]
    by_cases he : (Ri R i).data = x
    · simp only [F70, SS, Nat.reduceBEq, Nat.reduceEqDiff, Nat.reduceAdd, reduceIte, Nat.reduceMul, t0, t1, t5, t26, x_fa_109_0, l0, x_len_107, Int.ofNat_lt, hlt, x2, x_fa_114_1, i1, he]
      refine hE _ _ _ (by simp) ?_
      simp only [SS, Nat.reduceBEq, Nat.reduceEqDiff, Nat.reduceAdd, reduceIte, Nat.reduceMul]
      refine hQ _ _ _ _ (.inr rfl) (by simp only [SS, Nat.reduceBEq, t26]) (by simp only [SS, Nat.reduceBEq, Nat.reduceEqDiff, Nat.reduceAdd, reduceIte, Nat.reduceMul]; rfl) ⟨rfl, .inl ⟨i, _, hgi, by simp [he], fun j hj d hd => by simpa using hno j hj d hd, rfl⟩⟩
    · simp only [F70, SS, Nat.reduceBEq, Nat.reduceEqDiff, Nat.reduceAdd, reduceIte, Nat.reduceMul, t0, t1, t5, t26, x_fa_109_0, l0, x_len_107, Int.ofNat_lt, hlt, x2, x_fa_114_1, i1, he, wAdd1 (show i ≤ 1000000 by omega)]
      refine hN1 _ _ (R.length - (i + 1)) (by omega) ⟨i + 1, hlt, rfl, rfl, fun j hj d hd => ?_, by simp only [SS, Nat.reduceBEq, t0], by simp only [SS, Nat.reduceBEq, t1], by simp only [SS, Nat.reduceBEq], by simp only [SS, Nat.reduceBEq, t26]⟩
      by_cases e : j = i
      · subst e; rw [hgi] at hd; rw [← Option.some.inj hd]; exact he
      · exact hno j (by omega) d hd
  · obtain rfl : i = R.length := by omega
    simp only [F70, SS, Nat.reduceBEq, Nat.reduceEqDiff, Nat.reduceAdd, reduceIte, Nat.reduceMul, t0, t1, t5, t26, x_fa_109_0, l0, x_len_107, Int.ofNat_lt, hlt]
    refine hE _ _ _ (by simp) ?_
    simp only [F70, SS, Nat.reduceBEq, Nat.reduceEqDiff, Nat.reduceAdd, reduceIte, Nat.reduceMul, t26]
    refine hQ _ _ _ _ (.inr rfl) (by simp only [SS, Nat.reduceBEq, t26]) (by simp only [SS, Nat.reduceBEq, Nat.reduceEqDiff, Nat.reduceAdd, reduceIte, Nat.reduceMul]; rfl) ⟨rfl, .inr ⟨fun d hd => ?_, rfl⟩⟩
    obtain ⟨j, hj⟩ := List.getElem?_of_mem hd
    have hjl := (List.getElem?_eq_some_iff.1 hj).1
    simpa using hno j hjl d hj
theorem rnew_ok {n : Nat} (hn : 1 ≤ n) {h : Heap} : WC (C n (.fn 40) [] h) fun r h' => ∃ rb, r = .ptr (some (rb, 0)) ∧ RefAt h' rb [] 1 [] ∧ Sm NoB h h' ∧ h.next ≤ rb := by
  obtain ⟨m, rfl⟩ : ∃ m, n = m + 1 := ⟨n - 1, by omega⟩
  refine call_fn _ f40A rfl (by simp [fn40]) fun QQ hQ => ?_
  simp only [fn40] at hQ
  simp only [fn40, fill_cons, fill_nil, Nat.zero_add, Nat.reduceAdd]
  obtain ⟨h1, e1, r1, n1, g1⟩ := Rw.alloc h (id := h.next) (n := 2) (vs := [.slice none 0 0 none, u 1]) (z := []) (ro := false) (Nat.le_refl _) rfl
  simp only [F40, SS, Nat.reduceBEq, Nat.reduceEqDiff, Nat.reduceAdd, reduceIte, Nat.reduceMul, x_bd_109_1, e1]
  refine hQ _ _ _ _ (.inr rfl) (by simp only [SS, Nat.reduceBEq]) (by simp only [SS, Nat.reduceBEq, Nat.reduceEqDiff, Nat.reduceAdd, reduceIte, Nat.reduceMul]; rfl) ?_
  exact ⟨h.next, rfl, ⟨⟨_, r1, SlO.nil⟩, by omega, by simp⟩, ⟨by omega, fun c hc _ => g1 c (by omega)⟩, Nat.le_refl _⟩
theorem rskip_ok {n : Nat} (hn : 1 ≤ n) {h : Heap} {rb : Nat} {R : List Ch} {next : Int} {bs : List Nat} (hr : RefAt h rb R next bs) (x : Int) :
    WC (C n (.fn 68) [.ptr (some (rb, 0)), u x] h) fun r h' => RefAt h' rb R (max next x) bs ∧ Sm (· = rb) h h' := by
  obtain ⟨v, r1, o1⟩ := hr.ex
  have l1 := r1.ld1 1
  rw [show ([v, u next] : List AV)[1]? = some (u next) from rfl] at l1
  obtain ⟨m, rfl⟩ : ∃ m, n = m + 1 := ⟨n - 1, by omega⟩
  refine call_fn _ f68A rfl (by simp [fn68]) fun QQ hQ => ?_
  simp only [fn68] at hQ
  simp only [fn68, fill_cons, fill_nil, Nat.zero_add, Nat.reduceAdd]
  by_cases c1 : next < x
  · obtain ⟨w1, w2, w3, w4⟩ := r1.st1 (o := 1) (v := u x) (by simp) rfl
    rw [show ([v, u next] : List AV).set 1 (u x) = [v, u x] from rfl] at w2
    simp only [F68, SS, Nat.reduceBEq, Nat.reduceEqDiff, Nat.reduceAdd, reduceIte, Nat.reduceMul, x_fa_109_1, l1, c1, w1]
    refine hQ _ _ _ _ (.inl rfl) (by simp only [SS, Nat.reduceBEq]) (by simp only [SS, Nat.reduceBEq, Nat.reduceEqDiff, Nat.reduceAdd, reduceIte, Nat.reduceMul]; rfl) ?_
    rw [show max next x = x by omega]
    exact ⟨⟨⟨v, w2, o1.same (fun b hb => w4 b (fun e => hr.nb (e ▸ hb))) (by omega)⟩, by rw [w3]; exact hr.lt, hr.nb⟩, ⟨by omega, fun c _ hc => w4 c hc⟩⟩
  · simp only [F68, SS, Nat.reduceBEq, Nat.reduceEqDiff, Nat.reduceAdd, reduceIte, Nat.reduceMul, x_fa_109_1, l1, c1]
    refine hQ _ _ _ _ (.inl rfl) (by simp only [SS, Nat.reduceBEq]) (by simp only [SS, Nat.reduceBEq, Nat.reduceEqDiff, Nat.reduceAdd, reduceIte, Nat.reduceMul]; rfl) ?_
    rw [show max next x = next by omega]
    exact ⟨hr, Sm.refl _ _⟩
end Go.Proofs.Ytlfednnfkejcjaa

namespace Go.Proofs.Ytlfednnfkejcjaa
open Go.Am
set_option maxRecDepth 10000
section
variable {L R : List Ch}
theorem firstI {x : Int} {r : AV} (hr : Rel L R) (h : FirstR (fun c => decide (c.id = x)) R r) : match gtL L x with
    | some c => ∃ i : Nat, R[i]? = some c ∧ r = I i
    | .none => r = .int .i64 (-1) := by
  rcases h with ⟨i, c, h1, h2, h3, h4⟩ | ⟨h1, h2⟩
  · have h2 : c.id = x := by simpa using h2
    have hm := (hr.mem c).1 (List.mem_of_getElem? h1)
    have hg := gt_mem hr.nd hm
    rw [h2] at hg
    rw [hg]
    exact ⟨i, h1, h4⟩
  · cases hg : gtL L x with
    | none => exact h2
    | some c =>
      obtain ⟨g1, g2⟩ := gt_some hg
      have := h1 c ((hr.mem c).2 g1)
      simp [g2] at this
theorem firstD {x : List Nat} {r : AV} (hr : Rel L R) (h : FirstR (fun c => decide (c.data = x)) R r) : match fdL L x with
    | some c => ∃ i : Nat, R[i]? = some c ∧ r = I i
    | .none => r = .int .i64 (-1) := by
  rcases h with ⟨i, c, h1, h2, h3, h4⟩ | ⟨h1, h2⟩
  · have h2 : c.data = x := by simpa using h2
    have hm := (hr.mem c).1 (List.mem_of_getElem? h1)
    have hg := fd_mem hr.dd hm
    rw [h2] at hg
    rw [hg]
    exact ⟨i, h1, h4⟩
  · cases hg : fdL L x with
    | none => exact h2
    | some c =>
      obtain ⟨g1, g2⟩ := fd_some hg
      have := h1 c ((hr.mem c).2 g1)
      simp [g2] at this
end
theorem csR_take (M : List Ch) (p : Nat) (h : p ≤ M.length) : (csR M).take (p * 4) = csR (M.take p) := by
  have : csR M = csR (M.take p) ++ csR (M.drop p) := by rw [← List.flatMap_append, List.take_append_drop]
  rw [this, List.take_left' (by rw [csR_len, List.length_take]; congr 1; omega)]
theorem csR_drop (M : List Ch) (p : Nat) (h : p ≤ M.length) : (csR M).drop (p * 4) = csR (M.drop p) := by
  have : csR M = csR (M.take p) ++ csR (M.drop p) := by rw [← List.flatMap_append, List.take_append_drop]
  rw [this, List.drop_left' (by rw [csR_len, List.length_take]; congr 1; omega)]
theorem csR_app (A B : List Ch) : csR (A ++ B) = csR A ++ csR B := List.flatMap_append
theorem rg4 {h : Heap} {a : Option (Nat × Nat)} {n c : Nat} {g : Option Nat} {cs : List AV} {bs : List Nat} {e : Nat} (ho : SlO e 4 h (.slice a n c g) n cs bs) : gOk g 4 = true ∧ n ≤ c := by
  rcases ho with ⟨e1, h0, _⟩ | ⟨b, c', _, _, e1, _, _, hle, _⟩
  · cases e1; exact ⟨rfl, Nat.le_refl _⟩
  · cases e1; exact ⟨rfl, hle⟩
set_option maxHeartbeats 400000 in
theorem rput_ok {n : Nat} (hn : 1 ≤ n) {h : Heap} {rb : Nat} {R : List Ch} {next : Int} {bs : List Nat} (hr : RefAt h rb R next bs) (hl : R.length ≤ 1000) (x : Ch) (hx : 0 ≤ x.id ∧ x.id < 4294967295) :
    WC (C n (.fn 90) [.ptr (some (rb, 0)), .agg x.rc] h) fun r h' => ∃ bs', RefAt h' rb (insR x R) (if next ≤ x.id then x.id + 1 else next) bs' ∧ Sm (· = rb) h h' ∧ ∀ b, b ∈ bs' → h.next ≤ b := by
  obtain ⟨v, r1, o1⟩ := hr.ex
  obtain ⟨a, c, g, rfl⟩ := Chs.sl (els_R o1.els)
  obtain ⟨hg4, hc⟩ := rg4 o1
  obtain ⟨m, rfl⟩ : ∃ m, n = m + 1 := ⟨n - 1, by omega⟩
  refine call_fn _ f90A rfl (by simp [fn90]) fun QQ hQ => ?_
  simp only [fn90] at hQ
  simp only [fn90, fill_cons, fill_nil, Nat.zero_add, Nat.reduceAdd]
  obtain ⟨h1, e1, rx, n1, g1⟩ := Rw.alloc h (id := h.next) (n := 4) (vs := x.rc) (z := []) (ro := false) (Nat.le_refl _) rfl
  unfold Ch.rc at e1
  have s1 : Sm NoB h h1 := ⟨by omega, fun c hc _ => g1 c (by omega)⟩
  have hrl := hr.lt
  have hrn : h.next ≠ rb := by omega
  have hobs := o1.lt
  simp only [F90, SS, Nat.reduceBEq, Nat.reduceEqDiff, Nat.reduceAdd, reduceIte, Nat.reduceMul, Ch.rc, e1]
  refine run_loop (c := c90_7) (I := fun m' tm' h' => ∃ i, i ≤ posR x.id R ∧ m' = posR x.id R - i ∧ Rw h' rb [.slice a R.length c g, u next] [] false ∧ SlO 114 4 h' (.slice a R.length c g) R.length (csR R) bs ∧ Rw h' h.next x.rc [] false ∧ h.next < h'.next ∧ Sm NoB h1 h' ∧ tm'.gt 0 = some (.ptr (some (rb, 0))) ∧ tm'.gt 3 = some (.ptr (some (h.next, 0))) ∧ tm'.gt 4 = some (I i) ∧ tm'.gt 64 = none) (n := posR x.id R)
    ⟨0, by omega, rfl, r1.sm s1 hrl (fun h => h), o1.sm s1 (fun _ _ h => h), rx, by omega, Sm.refl _ _, by simp only [SS, Nat.reduceBEq], by simp only [SS, Nat.reduceBEq], by simp only [SS, Nat.reduceBEq, Nat.reduceEqDiff, Nat.reduceAdd, reduceIte, Nat.reduceMul]; rfl, by simp only [SS, Nat.reduceBEq]⟩ (by have := posR_le x.id R; omega) ?_
  rintro _ tm h2 ⟨i, hi, rfl, r2, o2, rx2, n2, s2, t0, t3, t4, t64⟩ Q1 hN1 hE
  have hpl := posR_le x.id R
  obtain ⟨hb, eb, sb, _, _⟩ := Sm.bump h2 20
  have rb2 := r2.sm sb (by have := s2.1; omega) (fun h => h)
  have ob2 := o2.sm sb (fun _ _ h => h)
  have rxb := rx2.sm sb n2 (fun h => h)
  have hi2 : Chs hb (.slice a R.length c g) R := els_R ob2.els
  have l0 := rb2.ld1 0
  rw [List.getElem?_cons_zero] at l0
  have lx := rxb.ld1 0
  rw [show x.rc[0]? = some (.int .u32 x.id) from rfl] at lx
  by_cases c1 : i < posR x.id R
  · obtain ⟨d, d1, d2⟩ := posR_lt c1
    have hlt : i < R.length := by omega
    obtain ⟨b, o, rfl, i0, _⟩ := hi2.at hlt
    have hd : Ri R i = d := by rw [Ri_at hlt]; rw [List.getElem?_eq_getElem hlt] at d1; exact Option.some.inj d1
    rw [hd] at i0
    have x2 := x_ia_107 (k := .i64) (b := b) (o := o) (c := c) (g := g) hlt
    simp only [F90, SS, Nat.reduceBEq, Nat.reduceEqDiff, Nat.reduceAdd, reduceIte, Nat.reduceMul, t0, t3, t4, t64, eb, x_fa_109_0, l0, x_len_107, Int.ofNat_lt, hlt, x2, x_fa_114_0, i0, lx, d2, wAdd1 (show i ≤ 1000000 by omega)]
    refine hN1 _ _ (posR x.id R - (i + 1)) (by omega) ⟨i + 1, by omega, rfl, rb2, ob2, rxb, Nat.lt_of_lt_of_le n2 sb.1, s2.trans sb (fun _ _ h => h) (fun _ _ h => h), by simp only [SS, Nat.reduceBEq, t0], by simp only [SS, Nat.reduceBEq, t3], by simp only [SS, Nat.reduceBEq], by simp only [SS, Nat.reduceBEq, t64]⟩
  · obtain rfl : i = posR x.id R := by omega
    obtain ⟨pp, hpp⟩ : ∃ pp, posR x.id R = pp := ⟨_, rfl⟩
    -- behind the loop
    have fin : ∀ tm, tm.gt 0 = some (.ptr (some (rb, 0))) → tm.gt 3 = some (.ptr (some (h.next, 0))) → tm.gt 4 = some (I pp) → tm.gt 64 = none → Q1 (.exit 0) tm hb := by
      intro tm t0 t3 t4 t64
      refine hE _ _ _ (by simp) ?_
      rw [hpp] at hpl
      have xs1 := x_sl_107_010 (a := a) (n := R.length) (c := c) (hi := pp) (g := g) (k := .i64) hg4 (by omega)
      have src1 := els_pre ob2.els (k := pp) (c' := c - 0) (g' := g) hpl
      rw [csR_take _ _ hpl] at src1
      have ltk : (R.take pp).length = pp := by rw [List.length_take]; omega
      obtain ⟨v3, h3, b3, e3, o3, n3, g3, k3, _⟩ := app_any (t := 107) u_107 s_114 b_114 z_114 rfl (SlO.nil (h := hb)) src1 (by rw [csR_len, ltk]) (csR_one _) (room_le (by omega) (by omega)) (Nat.le_refl hb.next)
      rw [Nat.zero_add, List.nil_append] at o3
      have s3 : Sm NoB hb h3 := ⟨n3, fun c hc _ => g3 c (by simp) (by omega)⟩
      have hb3 : ∀ b, b ∈ b3 → hb.next ≤ b := fun b hb' => by
        rcases k3 b hb' with h | h
        · cases h
        · omega
      have hnb := sb.1
      have hn2 := s2.1
      have rx3 := rxb.sm s3 (by omega) (fun h => h)
      have lx3 := rx3.ld (i := 0) (n := 4) (Nat.le_refl _)
      rw [show (x.rc.drop 0).take 4 = x.rc from rfl] at lx3
      obtain ⟨h4, e4, r4, n4, g4⟩ := Rw.alloc h3 (id := h3.next) (n := 4) (vs := x.rc) (z := []) (ro := false) (Nat.le_refl _) rfl
      have s4 : Sm NoB h3 h4 := ⟨by omega, fun c hc _ => g4 c (by omega)⟩
      have hs4 : srcOf 4 (fun n => n) (.slice (some (h3.next, 0)) 1 1 none) h4 = some (x.rc, 1) := srcOf_row r4 (Nat.le_refl _)
      have ebs : buildSliceN P 107 1 [0] [.agg x.rc] = some (.cells (fillC x.rc .leaf 0) [] 4 false, sliceTo 1) := x_bs_107_1 _ _ _ _
      obtain ⟨v5, h5, b5, e5, o5, n5, g5, k5, _⟩ := app_any (t := 107) u_107 s_114 b_114 z_114 rfl (o3.sm s4 (fun _ _ h => h)) hs4 rfl rfl (room_le (by omega) (by omega)) (Nat.le_refl h4.next)
      have s5 : Sm (fun q => q ∈ b3) h4 h5 := ⟨n5, fun c hc hb => g5 c hb (by omega)⟩
      have hb5 : ∀ b, b ∈ b5 → hb.next ≤ b := fun b hb' => by
        have := s3.1
        rcases k5 b hb' with h | h
        · exact hb3 b h
        · omega
      have s05 : Sm NoB hb h5 := ⟨by have := s3.1; omega, fun c hc _ => by
        have := s3.1
        rw [s5.2 c (by omega) (fun h => by have := hb3 c h; omega), s4.2 c (by omega) (fun h => h), s3.2 c hc (fun h => h)]⟩
      have ob5 := ob2.sm s05 (fun _ _ h => h)
      have rb5 := rb2.sm s05 (by omega) (fun h => h)
      have rx5 := rxb.sm s05 (by omega) (fun h => h)
      have l5 := rb5.ld1 0
      rw [List.getElem?_cons_zero] at l5
      have l3 := (rb2.sm s3 (by omega) (fun h => h)).ld1 0
      have xs2 := x_sl_107_100 (a := a) (n := R.length) (c := c) (lo := pp) (g := g) (k := .i64) hg4 hpl
      have src2 := els_post ob5.els (k := pp) (c' := c - pp) (g' := g) hpl
      rw [csR_drop _ _ hpl] at src2
      have ldr : (R.drop pp).length = R.length - pp := List.length_drop
      obtain ⟨v6, h6, b6, e6, o6, n6, g6, k6, _⟩ := app_any (t := 107) u_107 s_114 b_114 z_114 rfl o5 src2 (by rw [csR_len, ldr]) (csR_one _) (room_le (by omega) (by omega)) (Nat.le_refl h5.next)
      have s6 : Sm (fun q => q ∈ b5) h5 h6 := ⟨n6, fun c hc hb => g6 c hb (by omega)⟩
      have hn5 := s05.1
      have hb6 : ∀ b, b ∈ b6 → hb.next ≤ b := fun b hb' => by
        rcases k6 b hb' with h | h
        · exact hb5 b h
        · omega
      have hrb5 : rb ∉ b5 := fun h => by have := hb5 rb h; omega
      have hx5 : h.next ∉ b5 := fun h => by have := hb5 _ h; omega
      have rb6 := rb5.sm s6 (by omega) hrb5
      have rx6 := rx5.sm s6 (by omega) hx5
      have hv6 : v6.one = true := by obtain ⟨_, _, _, _, e, _⟩ := o6.els; rw [e]; rfl
      obtain ⟨w1, w2, w3, w4⟩ := rb6.st1 (o := 0) (v := v6) (by simp) hv6
      rw [show ([.slice a R.length c g, u next] : List AV).set 0 v6 = [v6, u next] from rfl] at w2
      generalize h6.wr rb 0 [v6] = h7 at w1 w2 w3 w4
      have hins : SlO 114 4 h6 v6 (insR x R).length (csR (insR x R)) b6 := by
        unfold insR
        rw [hpp, List.length_append, ltk, List.length_cons, ldr, csR_app]
        have e : csR (x :: R.drop pp) = x.rc ++ csR (R.drop pp) := rfl
        rw [e, ← List.append_assoc, show pp + (R.length - pp + 1) = pp + 1 + (R.length - pp) by omega]
        exact o6
      have o7 : SlO 114 4 h7 v6 (insR x R).length (csR (insR x R)) b6 := hins.same (fun b hb' => w4 b (fun e => by have := hb6 b hb'; omega)) (by omega)
      have rx7 := rx6.same (w4 h.next hrn)
      obtain ⟨h8, eb8, sb8, _, _⟩ := Sm.bump h7 7
      have rx8 := rx7.sm sb8 (by omega) (fun h => h)
      have lx8 := rx8.ld1 0
      rw [show x.rc[0]? = some (.int .u32 x.id) from rfl] at lx8
      have rb8 := w2.sm sb8 (by omega) (fun h => h)
      have l8 := rb8.ld1 1
      rw [show ([v6, u next] : List AV)[1]? = some (u next) from rfl] at l8
      have o8 := o7.sm sb8 (fun _ _ h => h)
      have frame : Sm (· = rb) h h8 := ⟨by have := sb8.1; omega, fun c hc hne => by
        rw [sb8.2 c (by omega) (fun h => h), w4 c hne, s6.2 c (by omega) (fun h => by have := hb5 c h; omega), s05.2 c (by omega) (fun h => h), sb.2 c (by omega) (fun h => h), s2.2 c (by omega) (fun h => h), s1.2 c hc (fun h => h)]⟩
      have hnr : rb ∉ b6 := fun h => by have := hb6 rb h; omega
      have hfr : ∀ b, b ∈ b6 → h.next ≤ b := fun b hb' => by have := hb6 b hb'; omega
      unfold Ch.rc at lx3 ebs e4 hs4
      simp only [Nat.zero_mul, Nat.add_zero, Nat.sub_zero] at xs1 xs2 e3 e6
      by_cases c9 : next ≤ x.id
      · have ew : IntKind.u32.wrap (x.id + 1) = x.id + 1 := wrap_u32 (by omega) (by omega)
        obtain ⟨y1, y2, y3, y4⟩ := rb8.st1 (o := 1) (v := u (x.id + 1)) (by simp) rfl
        rw [show ([v6, u next] : List AV).set 1 (u (x.id + 1)) = [v6, u (x.id + 1)] from rfl] at y2
        simp only [F90, SS, Nat.reduceBEq, Nat.reduceEqDiff, Nat.reduceAdd, reduceIte, Nat.reduceMul, t0, t3, t4, t64, x_fa_109_0, l0, xs1, e3, lx3, ebs, e4, e5, l5, xs2, e6, w1, eb8, x_fa_114_0, lx8, x_fa_109_1, l8, c9, ew, y1]
        refine hQ _ _ _ _ (.inl rfl) (by simp only [SS, Nat.reduceBEq, t64]) (by simp only [SS, Nat.reduceBEq, Nat.reduceEqDiff, Nat.reduceAdd, reduceIte, Nat.reduceMul, t64]; rfl) ?_
        rw [if_pos c9]
        exact ⟨b6, ⟨⟨v6, y2, o8.same (fun b hb' => y4 b (fun e => hnr (e ▸ hb'))) (by omega)⟩, by rw [y3]; have := frame.1; omega, hnr⟩, frame.trans ⟨by omega, fun c _ hc => y4 c hc⟩ (fun _ _ h => h) (fun _ _ h => h), hfr⟩
      · simp only [F90, SS, Nat.reduceBEq, Nat.reduceEqDiff, Nat.reduceAdd, reduceIte, Nat.reduceMul, t0, t3, t4, t64, x_fa_109_0, l0, xs1, e3, lx3, ebs, e4, e5, l5, xs2, e6, w1, eb8, x_fa_114_0, lx8, x_fa_109_1, l8, c9]
        refine hQ _ _ _ _ (.inl rfl) (by simp only [SS, Nat.reduceBEq, t64]) (by simp only [SS, Nat.reduceBEq, Nat.reduceEqDiff, Nat.reduceAdd, reduceIte, Nat.reduceMul, t64]; rfl) ?_
        rw [if_neg c9]
        exact ⟨b6, ⟨⟨v6, rb8, o8⟩, by have := frame.1; omega, hnr⟩, frame, hfr⟩
    by_cases c2 : posR x.id R < R.length
    · obtain ⟨b, o, rfl, i0, _⟩ := hi2.at c2
      have hd : ¬ (Ri R (posR x.id R)).id < x.id := posR_at (by rw [Ri_at c2, List.getElem?_eq_getElem c2])
      have x2 := x_ia_107 (k := .i64) (b := b) (o := o) (c := c) (g := g) c2
      rw [hpp] at c2 x2 hd i0 t4
      simp only [F90, SS, Nat.reduceBEq, Nat.reduceEqDiff, Nat.reduceAdd, reduceIte, Nat.reduceMul, t0, t3, t4, t64, eb, x_fa_109_0, l0, x_len_107, Int.ofNat_lt, c2, x2, x_fa_114_0, i0, lx, hd]
      exact fin _ (by simp only [SS, Nat.reduceBEq, t0]) (by simp only [SS, Nat.reduceBEq, t3]) (by simp only [SS, Nat.reduceBEq, t4]) (by simp only [SS, Nat.reduceBEq, t64])
    · rw [hpp] at c2 t4
      simp only [F90, SS, Nat.reduceBEq, Nat.reduceEqDiff, Nat.reduceAdd, reduceIte, Nat.reduceMul, t0, t3, t4, t64, eb, x_fa_109_0, l0, x_len_107, Int.ofNat_lt, c2, w_undef]
      exact fin _ (by simp only [SS, Nat.reduceBEq, t0]) (by simp only [SS, Nat.reduceBEq, t3]) (by simp only [SS, Nat.reduceBEq, t4]) (by simp only [SS, Nat.reduceBEq, t64])
end Go.Proofs.Ytlfednnfkejcjaa

namespace Go.Proofs.Ytlfednnfkejcjaa
open Go.Am
set_option maxRecDepth 10000
theorem slo_st1 {e s : Nat} {h : Heap} {v : AV} {n : Nat} {cs : List AV} {bs : List Nat} (ho : SlO e s h v n cs bs) {j : Nat} (hj : j < n * s) {w : AV} (hw : w.one = true) :
    ∃ b c, v = .slice (some (b, 0)) n c (some s) ∧ bs = [b] ∧ ∃ h', h.st1 b j w = some h' ∧ SlO e s h' v n (cs.set j w) bs ∧ h'.next = h.next ∧ ∀ c, c ≠ b → h'.bs.gt c = h.bs.gt c := by
  rcases ho with ⟨_, rfl, _, _⟩ | ⟨b, c, rest, z, rfl, h1, h2, h3, h4, h5, rfl, rfl, h8⟩
  · omega
  · obtain ⟨a1, a2, a3, a4⟩ := h4.st1 (o := j) (v := w) (by rw [List.length_append]; omega) hw
    refine ⟨b, c, rfl, rfl, _, a1, .inr ⟨b, c, rest, _, rfl, by simpa using h1, by simpa using h2, h3, ?_, by omega, rfl, rfl, ?_⟩, a3, a4⟩
    · rw [List.set_append_left _ _ (by omega)] at a2; exact a2
    · rw [List.all_eq_true] at h8 ⊢
      intro x hx
      rcases List.mem_or_eq_of_mem_set hx with hx | rfl
      · exact h8 x hx
      · exact hw
theorem csR_set {R : List Ch} {i : Nat} {c : Ch} {q : Int} (hi : R[i]? = some c) : (csR R).set (i * 4 + 3) (.int .i64 q) = csR (R.set i { c with refs := q }) := by
  obtain ⟨i1, i2⟩ := List.getElem?_eq_some_iff.1 hi
  apply List.ext_getElem?
  intro j
  rw [List.getElem?_set, csR_len]
  by_cases hj : j < R.length * 4
  · have hq : j / 4 < R.length := by omega
    have hl : j / 4 < (R.set i { c with refs := q }).length := by simpa using hq
    have h1 := csR_get R (j / 4) hq (j % 4) (Nat.mod_lt _ (by omega))
    have h2 := csR_get (R.set i { c with refs := q }) (j / 4) hl (j % 4) (Nat.mod_lt _ (by omega))
    rw [show j / 4 * 4 + j % 4 = j by omega] at h1 h2
    rw [h1, h2, List.getElem_set]
    by_cases e : i = j / 4
    · rw [if_pos e]
      have hR : R[j / 4] = c := by simp only [← e]; exact i2
      rw [hR]
      have hr : j % 4 = 0 ∨ j % 4 = 1 ∨ j % 4 = 2 ∨ j % 4 = 3 := by omega
      rcases hr with hr | hr | hr | hr
      · rw [if_neg (by omega), hr]; rfl
      · rw [if_neg (by omega), hr]; rfl
      · rw [if_neg (by omega), hr]; rfl
      · rw [if_pos (by omega), hr, if_pos (by omega)]; rfl
    · rw [if_neg e, if_neg (by omega)]
  · rw [if_neg (by omega), List.getElem?_eq_none (by rw [csR_len]; omega), List.getElem?_eq_none (by rw [csR_len]; simp; omega)]
section
variable {h : Heap} {rb : Nat} {R L : List Ch} {next : Int} {bs : List Nat}
theorem radd_ok {n : Nat} (hn : 2 ≤ n) (hr : RefAt h rb R next bs) (hrel : Rel L R) (hl : R.length ≤ 1000) (hnx : 1 ≤ next ∧ next ≤ 4294967295) (s : List Nat) (block : Int) :
    WC (C n (.fn 64) [.ptr (some (rb, 0)), .str s, .int .i64 block] h) fun r h' =>
      (s.length < 1 ∨ 64 < s.length) ∧ r = .tuple [u 0, .int .i64 4] ∧ h' = h ∨ ¬ (s.length < 1 ∨ 64 < s.length) ∧ ((∃ c, fdL L s = some c) ∧ r = .tuple [u 0, .int .i64 6] ∧ h' = h ∨ fdL L s = none ∧ (next = 4294967295 ∧ r = .tuple [u 0, .int .i64 12] ∧ h' = h ∨
        next ≠ 4294967295 ∧ r = .tuple [u next, .int .i64 0] ∧ ∃ bs', RefAt h' rb (insR ⟨next, s, block, 1⟩ R) (next + 1) bs' ∧ Sm (· = rb) h h' ∧ ∀ b, b ∈ bs' → h.next ≤ b)) := by
  obtain ⟨v, r1, o1⟩ := hr.ex
  have l1 := r1.ld1 1
  rw [show ([v, u next] : List AV)[1]? = some (u next) from rfl] at l1
  obtain ⟨m, rfl⟩ : ∃ m, n = m + 1 := ⟨n - 1, by omega⟩
  refine call_fn _ f64A rfl (by simp [fn64]) fun QQ hQ => ?_
  simp only [fn64] at hQ
  simp only [fn64, fill_cons, fill_nil, Nat.zero_add, Nat.reduceAdd]
  by_cases c1 : s.length < 1
  · have d1 : (s.length : Int) < 1 := by omega
    simp only [F64, SS, Nat.reduceBEq, Nat.reduceEqDiff, Nat.reduceAdd, reduceIte, Nat.reduceMul, x_len_9, d1, w_undef]
    refine hQ _ _ _ _ (.inr rfl) (by simp only [SS, Nat.reduceBEq]) (by simp only [SS, Nat.reduceBEq, Nat.reduceEqDiff, Nat.reduceAdd, reduceIte, Nat.reduceMul]; rfl) ?_
    exact .inl ⟨.inl c1, rfl, rfl⟩
  have d1 : ¬ (s.length : Int) < 1 := by omega
  by_cases c2 : 64 < s.length
  · have d2 : (64 : Int) < (s.length : Int) := by omega
    simp only [F64, SS, Nat.reduceBEq, Nat.reduceEqDiff, Nat.reduceAdd, reduceIte, Nat.reduceMul, x_len_9, d1, d2, w_undef]
    refine hQ _ _ _ _ (.inr rfl) (by simp only [SS, Nat.reduceBEq]) (by simp only [SS, Nat.reduceBEq, Nat.reduceEqDiff, Nat.reduceAdd, reduceIte, Nat.reduceMul]; rfl) ?_
    exact .inl ⟨.inr c2, rfl, rfl⟩
  have d2 : ¬ (64 : Int) < (s.length : Int) := by omega
  obtain ⟨rf, h0, e1, rfl, hF⟩ := rfd_ok (n := m) (by omega) hr hl s
  have hF := firstD hrel hF
  cases hfd : fdL L s with
  | some c =>
    rw [hfd] at hF
    obtain ⟨i, _, rfl⟩ := hF
    have d3 : (0 : Int) ≤ (i : Int) := by omega
    simp only [F64, SS, Nat.reduceBEq, Nat.reduceEqDiff, Nat.reduceAdd, reduceIte, Nat.reduceMul, x_len_9, d1, d2, w_undef, e1, d3]
    refine hQ _ _ _ _ (.inr rfl) (by simp only [SS, Nat.reduceBEq]) (by simp only [SS, Nat.reduceBEq, Nat.reduceEqDiff, Nat.reduceAdd, reduceIte, Nat.reduceMul]; rfl) ?_
    exact .inr ⟨by omega, .inl ⟨⟨c, hfd⟩, rfl, rfl⟩⟩
  | none =>
    rw [hfd] at hF
    subst hF
    have d3 : ¬ (0 : Int) ≤ -1 := by decide
    by_cases c3 : next = 4294967295
    · simp only [F64, SS, Nat.reduceBEq, Nat.reduceEqDiff, Nat.reduceAdd, reduceIte, Nat.reduceMul, x_len_9, d1, d2, w_undef, e1, d3, x_fa_109_1, l1, c3]
      refine hQ _ _ _ _ (.inr rfl) (by simp only [SS, Nat.reduceBEq]) (by simp only [SS, Nat.reduceBEq, Nat.reduceEqDiff, Nat.reduceAdd, reduceIte, Nat.reduceMul]; rfl) ?_
      exact .inr ⟨by omega, .inr ⟨hfd, .inl ⟨c3, rfl, rfl⟩⟩⟩
    · obtain ⟨rp, h2, e2, bs', hr2, s2, hb2⟩ := rput_ok (n := m) (by omega) hr hl ⟨next, s, block, 1⟩ ⟨by show 0 ≤ next; omega, by show next < _; omega⟩
      unfold Ch.rc at e2
      simp only at e2
      simp only [F64, SS, Nat.reduceBEq, Nat.reduceEqDiff, Nat.reduceAdd, reduceIte, Nat.reduceMul, x_len_9, d1, d2, w_undef, e1, d3, x_fa_109_1, l1, c3, x_bd_114_0_1_2_3, e2]
      refine hQ _ _ _ _ (.inr rfl) (by simp only [SS, Nat.reduceBEq]) (by simp only [SS, Nat.reduceBEq, Nat.reduceEqDiff, Nat.reduceAdd, reduceIte, Nat.reduceMul]; rfl) ?_
      rw [if_pos (show next ≤ (⟨next, s, block, 1⟩ : Ch).id from Int.le_refl _)] at hr2
      exact .inr ⟨by omega, .inr ⟨hfd, .inr ⟨c3, rfl, bs', hr2, s2, hb2⟩⟩⟩
theorem rhold_ok {n : Nat} (hn : 2 ≤ n) (hr : RefAt h rb R next bs) (hrel : Rel L R) (hl : R.length ≤ 1000) (hrf : ∀ c, c ∈ L → 1 ≤ c.refs ∧ c.refs ≤ 65535) (id : Int) :
    WC (C n (.fn 66) [.ptr (some (rb, 0)), u id] h) fun r h' =>
      gtL L id = none ∧ r = .int .i64 5 ∧ h' = h ∨ ∃ c, gtL L id = some c ∧ (c.refs = 65535 ∧ r = .int .i64 12 ∧ h' = h ∨ c.refs ≠ 65535 ∧ r = .int .i64 0 ∧ ∃ i, R[i]? = some c ∧ RefAt h' rb (R.set i { c with refs := c.refs + 1 }) next bs ∧ Sm (fun b => b ∈ bs) h h') := by
  obtain ⟨v, r1, o1⟩ := hr.ex
  have l0 := r1.ld1 0
  rw [List.getElem?_cons_zero] at l0
  obtain ⟨m, rfl⟩ : ∃ m, n = m + 1 := ⟨n - 1, by omega⟩
  refine call_fn _ f66A rfl (by simp [fn66]) fun QQ hQ => ?_
  simp only [fn66] at hQ
  simp only [fn66, fill_cons, fill_nil, Nat.zero_add, Nat.reduceAdd]
  obtain ⟨rf, h0, e1, rfl, hF⟩ := rat_ok (n := m) (by omega) hr hl id
  have hF := firstI hrel hF
  cases hg : gtL L id with
  | none =>
    rw [hg] at hF
    subst hF
    have d3 : (-1 : Int) < 0 := by decide
    simp only [F66, SS, Nat.reduceBEq, Nat.reduceEqDiff, Nat.reduceAdd, reduceIte, Nat.reduceMul, e1, d3]
    refine hQ _ _ _ _ (.inr rfl) (by simp only [SS, Nat.reduceBEq]) (by simp only [SS, Nat.reduceBEq, Nat.reduceEqDiff, Nat.reduceAdd, reduceIte, Nat.reduceMul]; rfl) ?_
    exact .inl ⟨hg, rfl, rfl⟩
  | some c =>
    rw [hg] at hF
    obtain ⟨i, hi, rfl⟩ := hF
    have d3 : ¬ (i : Int) < 0 := by omega
    obtain ⟨i1, i2⟩ := List.getElem?_eq_some_iff.1 hi
    have hc := hrf c (gt_some hg).1
    by_cases c1 : c.refs = 65535
    · obtain ⟨a, cc, g, rfl⟩ := Chs.sl (els_R o1.els)
      obtain ⟨b, o, rfl, _, _, _, j3, _⟩ := Chs.at (els_R o1.els) i1
      rw [Ri_at i1, i2, c1] at j3
      have d4 : (65535 : Int) ≤ 65535 := by decide
      simp only [F66, SS, Nat.reduceBEq, Nat.reduceEqDiff, Nat.reduceAdd, reduceIte, Nat.reduceMul, e1, d3, x_fa_109_0, l0, x_ia_107 i1, x_fa_114_3, j3, d4]
      refine hQ _ _ _ _ (.inr rfl) (by simp only [SS, Nat.reduceBEq]) (by simp only [SS, Nat.reduceBEq, Nat.reduceEqDiff, Nat.reduceAdd, reduceIte, Nat.reduceMul]; rfl) ?_
      exact .inr ⟨c, hg, .inl ⟨c1, rfl, rfl⟩⟩
    · obtain ⟨b, cc, rfl, rfl, h2, w1, o2, n2, g2⟩ := slo_st1 o1 (j := i * 4 + 3) (by omega) (w := .int .i64 (c.refs + 1)) rfl
      obtain ⟨b', o', e', _, _, _, j3, _⟩ := Chs.at (els_R o1.els) i1
      cases e'
      rw [Ri_at i1, i2] at j3
      simp only [Nat.zero_add] at j3
      have d4 : ¬ (65535 : Int) ≤ c.refs := by omega
      have ew : IntKind.i64.wrap (c.refs + 1) = c.refs + 1 := wrap_i64 (by omega) (by omega)
      simp only [F66, SS, Nat.reduceBEq, Nat.reduceEqDiff, Nat.reduceAdd, reduceIte, Nat.reduceMul, e1, d3, x_fa_109_0, l0, x_ia_107 i1, x_fa_114_3, j3, d4, ew, w1]
      refine hQ _ _ _ _ (.inr rfl) (by simp only [SS, Nat.reduceBEq]) (by simp only [SS, Nat.reduceBEq, Nat.reduceEqDiff, Nat.reduceAdd, reduceIte, Nat.reduceMul]; rfl) ?_
      rw [csR_set hi] at o2
      have hnb : rb ≠ b := fun e => hr.nb (by rw [e]; exact List.mem_singleton.2 rfl)
      refine .inr ⟨c, hg, .inr ⟨c1, rfl, i, hi, ⟨⟨_, r1.same (g2 rb hnb), by rw [List.length_set]; exact o2⟩, by rw [n2]; exact hr.lt, hr.nb⟩, ⟨by omega, fun q _ hq => g2 q (fun e => hq (by rw [e]; exact List.mem_singleton.2 rfl))⟩⟩⟩
theorem rrel_ok {n : Nat} (hn : 2 ≤ n) (hr : RefAt h rb R next bs) (hrel : Rel L R) (hl : R.length ≤ 1000) (hrf : ∀ c, c ∈ L → 1 ≤ c.refs ∧ c.refs ≤ 65535) (id : Int) :
    WC (C n (.fn 67) [.ptr (some (rb, 0)), u id] h) fun r h' =>
      gtL L id = none ∧ r = .tuple [.bool false, .int .i64 5] ∧ h' = h ∨ ∃ c i, gtL L id = some c ∧ R[i]? = some c ∧ (1 < c.refs ∧ r = .tuple [.bool false, .int .i64 0] ∧ RefAt h' rb (R.set i { c with refs := c.refs - 1 }) next bs ∧ Sm (RefF rb bs) h h' ∨
        ¬ 1 < c.refs ∧ r = .tuple [.bool true, .int .i64 0] ∧ ∃ bs', RefAt h' rb (R.eraseIdx i) next bs' ∧ Sm (RefF rb bs) h h' ∧ ∀ b, b ∈ bs' → h.next ≤ b) := by
  obtain ⟨v, r1, o1⟩ := hr.ex
  have l0 := r1.ld1 0
  rw [List.getElem?_cons_zero] at l0
  obtain ⟨m, rfl⟩ : ∃ m, n = m + 1 := ⟨n - 1, by omega⟩
  refine call_fn _ f67A rfl (by simp [fn67]) fun QQ hQ => ?_
  simp only [fn67] at hQ
  simp only [fn67, fill_cons, fill_nil, Nat.zero_add, Nat.reduceAdd]
  obtain ⟨rf, h0, e1, rfl, hF⟩ := rat_ok (n := m) (by omega) hr hl id
  have hF := firstI hrel hF
  cases hg : gtL L id with
  | none =>
    rw [hg] at hF
    subst hF
    have d3 : (-1 : Int) < 0 := by decide
    simp only [F67, SS, Nat.reduceBEq, Nat.reduceEqDiff, Nat.reduceAdd, reduceIte, Nat.reduceMul, e1, d3]
    refine hQ _ _ _ _ (.inr rfl) (by simp only [SS, Nat.reduceBEq]) (by simp only [SS, Nat.reduceBEq, Nat.reduceEqDiff, Nat.reduceAdd, reduceIte, Nat.reduceMul]; rfl) ?_
    exact .inl ⟨hg, rfl, rfl⟩
  | some c =>
    rw [hg] at hF
    obtain ⟨i, hi, rfl⟩ := hF
    have d3 : ¬ (i : Int) < 0 := by omega
    obtain ⟨i1, i2⟩ := List.getElem?_eq_some_iff.1 hi
    have hc := hrf c (gt_some hg).1
    obtain ⟨b, cc, rfl, rfl, h2, w1, o2, n2, g2⟩ := slo_st1 o1 (j := i * 4 + 3) (by omega) (w := .int .i64 (c.refs - 1)) rfl
    obtain ⟨b', o', e', _, _, _, j3, _⟩ := Chs.at (els_R o1.els) i1
    cases e'
    rw [Ri_at i1, i2] at j3
    simp only [Nat.zero_add] at j3
    have ew : IntKind.i64.wrap (c.refs - 1) = c.refs - 1 := wrap_i64 (by omega) (by omega)
    rw [csR_set hi] at o2
    have hnb : rb ≠ b := fun e => hr.nb (by rw [e]; exact List.mem_singleton.2 rfl)
    have r2 := r1.same (g2 rb hnb)
    have l2 := r2.ld1 0
    rw [List.getElem?_cons_zero] at l2
    have s2 : Sm (RefF rb [b]) h0 h2 := ⟨by omega, fun q _ hq => g2 q (fun e => hq (.inr (by rw [e]; exact List.mem_singleton.2 rfl)))⟩
    have o2' : SlO 114 4 h2 (.slice (some (b, 0)) R.length cc (some 4)) (R.set i { c with refs := c.refs - 1 }).length (csR (R.set i { c with refs := c.refs - 1 })) [b] := by rw [List.length_set]; exact o2
    have hlen : (R.set i { c with refs := c.refs - 1 }).length = R.length := List.length_set ..
    have i1' : i < (R.set i { c with refs := c.refs - 1 }).length := by rw [hlen]; exact i1
    have hi2 : Chs h2 (.slice (some (b, 0)) (R.set i { c with refs := c.refs - 1 }).length cc (some 4)) (R.set i { c with refs := c.refs - 1 }) := by rw [hlen]; exact (by have := els_R o2'.els; rw [hlen] at this; unfold Chs; rw [hlen]; exact this)
    obtain ⟨b', o', e', _, _, _, k3, _⟩ := hi2.at i1'
    cases e'
    rw [Ri_at i1', List.getElem_set_self] at k3
    simp only [Nat.zero_add] at k3
    by_cases c1 : 1 < c.refs
    · have d4 : (0 : Int) < c.refs - 1 := by omega
      simp only [F67, SS, Nat.reduceBEq, Nat.reduceEqDiff, Nat.reduceAdd, reduceIte, Nat.reduceMul, e1, d3, x_fa_109_0, l0, x_ia_107 i1, x_fa_114_3, j3, ew, w1, l2, k3, d4]
      refine hQ _ _ _ _ (.inr rfl) (by simp only [SS, Nat.reduceBEq]) (by simp only [SS, Nat.reduceBEq, Nat.reduceEqDiff, Nat.reduceAdd, reduceIte, Nat.reduceMul]; rfl) ?_
      exact .inr ⟨c, i, hg, hi, .inl ⟨c1, rfl, ⟨⟨_, r2, o2'⟩, by rw [n2]; exact hr.lt, hr.nb⟩, s2⟩⟩
    · have d4 : ¬ (0 : Int) < c.refs - 1 := by omega
      obtain ⟨hg4, hcc⟩ := rg4 o2
      obtain ⟨M, hM⟩ : ∃ M, R.set i { c with refs := c.refs - 1 } = M := ⟨_, rfl⟩
      rw [hM] at o2 hlen hi2 i1' o2'
      have xs1 := x_sl_107_010 (a := some (b, 0)) (n := R.length) (c := cc) (hi := i) (g := some 4) (k := .i64) hg4 (by omega)
      have src1 := els_pre o2.els (k := i) (c' := cc - 0) (g' := some 4) (by omega)
      rw [csR_take _ _ (by omega)] at src1
      have ltk : (M.take i).length = i := by rw [List.length_take]; omega
      obtain ⟨v3, h3, b3, e3, o3, n3, g3, k3', _⟩ := app_any (t := 107) u_107 s_114 b_114 z_114 rfl (SlO.nil (h := h2)) src1 (by rw [csR_len, ltk]) (csR_one _) (room_le (by omega) (by omega)) (Nat.le_refl h2.next)
      rw [Nat.zero_add, List.nil_append] at o3
      have s3 : Sm NoB h2 h3 := ⟨n3, fun c hc _ => g3 c (by simp) (by omega)⟩
      have hb3 : ∀ b, b ∈ b3 → h2.next ≤ b := fun b hb' => by
        rcases k3' b hb' with h | h
        · cases h
        · omega
      have hrl := hr.lt
      have r3 := r2.sm s3 (by omega) (fun h => h)
      have l3 := r3.ld1 0
      rw [List.getElem?_cons_zero] at l3
      have o23 := o2.sm s3 (fun _ _ h => h)
      have xs2 := x_sl_107_100 (a := some (b, 0)) (n := R.length) (c := cc) (lo := i + 1) (g := some 4) (k := .i64) hg4 (by omega)
      have src2 := els_post o23.els (k := i + 1) (c' := cc - (i + 1)) (g' := some 4) (by omega)
      rw [csR_drop _ _ (by omega)] at src2
      have ldr : (M.drop (i + 1)).length = R.length - (i + 1) := by rw [List.length_drop, hlen]
      obtain ⟨v6, h6, b6, e6, o6, n6, g6, k6, _⟩ := app_any (t := 107) u_107 s_114 b_114 z_114 rfl o3 src2 (by rw [csR_len, ldr]) (csR_one _) (room_le (by omega) (by omega)) (Nat.le_refl h3.next)
      have s6 : Sm (fun q => q ∈ b3) h3 h6 := ⟨n6, fun c hc hb => g6 c hb (by omega)⟩
      have hb6 : ∀ b, b ∈ b6 → h2.next ≤ b := fun b hb' => by
        rcases k6 b hb' with h | h
        · exact hb3 b h
        · omega
      have r6 := r3.sm s6 (by omega) (fun h => by have := hb3 rb h; omega)
      have hv6 : v6.one = true := by obtain ⟨_, _, _, _, e, _⟩ := o6.els; rw [e]; rfl
      obtain ⟨w7, r7, n7, g7⟩ := r6.st1 (o := 0) (v := v6) (by simp) hv6
      rw [show ([.slice (some (b, 0)) R.length cc (some 4), u next] : List AV).set 0 v6 = [v6, u next] from rfl] at r7
      generalize h6.wr rb 0 [v6] = h7 at w7 r7 n7 g7
      simp only [Option.map_some, Nat.zero_mul, Nat.zero_add, Nat.add_zero, Nat.sub_zero] at xs1 xs2 e3 e6
      simp only [F67, SS, Nat.reduceBEq, Nat.reduceEqDiff, Nat.reduceAdd, reduceIte, Nat.reduceMul, e1, d3, x_fa_109_0, l0, x_ia_107 i1, x_fa_114_3, j3, ew, w1, l2, k3, d4, xs1, e3, l3, wAdd1 (show i ≤ 1000000 by omega), xs2, e6, w7]
      refine hQ _ _ _ _ (.inr rfl) (by simp only [SS, Nat.reduceBEq]) (by simp only [SS, Nat.reduceBEq, Nat.reduceEqDiff, Nat.reduceAdd, reduceIte, Nat.reduceMul]; rfl) ?_
      have her : R.eraseIdx i = M.take i ++ M.drop (i + 1) := by
        rw [← List.eraseIdx_eq_take_drop_succ, ← hM, List.eraseIdx_set_eq]
      have hnr : rb ∉ b6 := fun h => by have := hb6 rb h; omega
      refine .inr ⟨c, i, hg, hi, .inr ⟨c1, rfl, b6, ⟨⟨v6, r7, ?_⟩, by omega, hnr⟩, ⟨by omega, fun q hq hF => ?_⟩, fun b hb' => by have := hb6 b hb'; omega⟩⟩
      · rw [her, List.length_append, ltk, ldr, csR_app]
        exact o6.same (fun b hb' => g7 b (fun e => hnr (e ▸ hb'))) (by omega)
      · rw [g7 q (fun e => hF (.inl e)), s6.2 q (by omega) (fun h => by have := hb3 q h; omega), s3.2 q (by omega) (fun h => h), s2.2 q hq hF]
theorem rcopy_ok {n : Nat} (hn : 1 ≤ n) (hr : RefAt h rb R next bs) (hl : R.length ≤ 1000) :
    WC (C n (.fn 42) [.ptr (some (rb, 0))] h) fun r h' => ∃ rb' bs', r = .ptr (some (rb', 0)) ∧ RefAt h' rb' R next bs' ∧ Sm NoB h h' ∧ h.next ≤ rb' ∧ ∀ b, b ∈ bs' → h.next ≤ b := by
  obtain ⟨v, r1, o1⟩ := hr.ex
  have l0 := r1.ld1 0
  have l1 := r1.ld1 1
  rw [List.getElem?_cons_zero] at l0
  rw [show ([v, u next] : List AV)[1]? = some (u next) from rfl] at l1
  obtain ⟨m, rfl⟩ : ∃ m, n = m + 1 := ⟨n - 1, by omega⟩
  refine call_fn _ f42A rfl (by simp [fn42]) fun QQ hQ => ?_
  simp only [fn42] at hQ
  simp only [fn42, fill_cons, fill_nil, Nat.zero_add, Nat.reduceAdd]
  obtain ⟨h1, e1, r2, n1, g1⟩ := Rw.alloc h (id := h.next) (n := 2) (vs := [.slice none 0 0 none, u next]) (z := []) (ro := false) (Nat.le_refl _) rfl
  have s1 : Sm NoB h h1 := ⟨by omega, fun c hc _ => g1 c (by omega)⟩
  obtain ⟨hb, eb, sb, _, nb⟩ := Sm.bump h1 13
  have hrl := hr.lt
  have rb1 := (r1.sm s1 hrl (fun h => h)).sm sb (by omega) (fun h => h)
  have rb2 := r2.sm sb (by omega) (fun h => h)
  have ob1 := (o1.sm s1 (fun _ _ h => h)).sm sb (fun _ _ h => h)
  have k0 := rb1.ld1 0
  have k2 := rb2.ld1 0
  rw [List.getElem?_cons_zero] at k0 k2
  obtain ⟨v3, h3, b3, e3, o3, n3, g3, k3, _⟩ := app_any (t := 107) u_107 s_114 b_114 z_114 rfl (SlO.nil (h := hb)) ob1.els.src (csR_len R) (csR_one _) (room_le (by omega) (by omega)) (show hb.next ≤ h1.next + 13 by omega)
  rw [Nat.zero_add, List.nil_append] at o3
  have hb3 : ∀ b, b ∈ b3 → hb.next ≤ b := fun b hb' => by
    rcases k3 b hb' with h | h
    · cases h
    · omega
  have s3 : Sm NoB hb h3 := ⟨n3, fun c hc _ => g3 c (by simp) (by omega)⟩
  have r3 := rb2.sm s3 (by omega) (fun h => h)
  have hv3 : v3.one = true := by obtain ⟨_, _, _, _, e, _⟩ := o3.els; rw [e]; rfl
  obtain ⟨w4, r4, n4, g4⟩ := r3.st1 (o := 0) (v := v3) (by simp) hv3
  rw [show ([.slice none 0 0 none, u next] : List AV).set 0 v3 = [v3, u next] from rfl] at r4
  generalize h3.wr h.next 0 [v3] = h4 at w4 r4 n4 g4
  have hne : h.next ∉ b3 := fun h' => by have := hb3 _ h'; omega
  simp only [F42, SS, Nat.reduceBEq, Nat.reduceEqDiff, Nat.reduceAdd, reduceIte, Nat.reduceMul, x_fa_109_1, l1, x_bd_109_1, e1, eb, x_fa_109_0, k2, k0, e3, w4, s_int, s_ptr, s_slice, s_bool, and'_eq, iff'_true]
  refine hQ _ _ _ _ (.inr rfl) (by simp only [SS, Nat.reduceBEq]) (by simp only [SS, Nat.reduceBEq, Nat.reduceEqDiff, Nat.reduceAdd, reduceIte, Nat.reduceMul]; rfl) ?_
  exact ⟨h.next, b3, rfl, ⟨⟨v3, r4, o3.same (fun b hb' => g4 b (fun e => hne (e ▸ hb'))) (by omega)⟩, by omega, hne⟩, ⟨by omega, fun q hq _ => by rw [g4 q (by omega), s3.2 q (by omega) (fun h => h), sb.2 q (by omega) (fun h => h), s1.2 q hq (fun h => h)]⟩, Nat.le_refl _, fun b hb' => by have := hb3 b hb'; omega⟩
end
end Go.Proofs.Ytlfednnfkejcjaa

namespace Go.Proofs.Ytlfednnfkejcjaa
open Go.Am
set_option maxRecDepth 10000
theorem call_prim {P : Program} {keep : Keeps} {prims : Prims} {lf n : Nat} {f : FuncId} {args : List AV} {h : Heap} {r : Res} (hp : prims.fn f args h = some r) : callN P keep prims lf (n + 1) (.fn f) args h = r := by
  show (Option.rec (motive := fun _ => Res) _ (fun r => r) (prims.fn f args h) : Res) = r
  rw [hp]
theorem bornB_mk {clock : Nat} : ∀ {es : List MEnt}, bornOk es clock → bornB clock es = true
  | [], _ => rfl
  | e :: es, h => by
    obtain ⟨p1, p2⟩ := List.pairwise_cons.1 h.2
    have hin : ∀ l : List MEnt, (∀ d, d ∈ l → e.born ≠ d.born) → bornIn e.born l = true := by
      intro l
      induction l with
      | nil => intro _; rfl
      | cons d l ih =>
        intro hd
        show and' (notB (Nat.beq e.born d.born)) (bornIn e.born l) = true
        have h1 := hd d (List.mem_cons_self ..)
        have h2 : Nat.beq e.born d.born = false := by
          cases hb : Nat.beq e.born d.born with
          | false => rfl
          | true => exact absurd (Nat.eq_of_beq_eq_true hb) h1
        rw [h2, and'_eq, ih fun x hx => hd x (List.mem_cons_of_mem _ hx)]; rfl
    show and' (and' (Nat.ble (e.born + 1) clock) (bornIn e.born es)) (bornB clock es) = true
    rw [show Nat.ble (e.born + 1) clock = true from Nat.ble_eq_true_of_le (h.1 e (List.mem_cons_self ..)), hin es p1, bornB_mk ⟨fun x hx => h.1 x (List.mem_cons_of_mem _ hx), p2⟩]; rfl
theorem fine_u {es : List MEnt} (h : AllInt .u32 es) : fineB suFine es = true := by
  induction es with
  | nil => rfl
  | cons e es ih =>
    obtain ⟨n, hn⟩ := h e (List.mem_cons_self ..)
    show and' (suFine e.key) (fineB suFine es) = true
    rw [hn, ih fun x hx => h x (List.mem_cons_of_mem _ hx)]; rfl
theorem sort_nil0 : ∃ r, SC 41 (.fn 102) [.slice none 0 0 none] ⟨.leaf, 0⟩ = some r := ⟨(.tuple [], ⟨.leaf, 0⟩), by kernel_rfl⟩
theorem Ents.keys {es : List MEnt} {L : List Ch} (h : Ents es L) : es.map (·.key) = (L.map Ch.id).map en := by
  have := congrArg (List.map Prod.fst) h
  simp only [List.map_map] at this
  rw [List.map_map]
  exact this
theorem skeys_ok {m : Nat} (hm : 1 ≤ m) {h : Heap} {cb mb k : Nat} {es : List MEnt} {L R : List Ch} (hc : h.ld1 cb 0 = some (.map (some mb))) (hmb : h.bs.gt mb = some (.map es k)) (he : EntsB k es L) (hr : Rel L R) (hl : L.length ≤ 1000) :
    C m (.fn 88) [.func (.func 103) [] [.ptr (some (cb, 0))]] h = some (if R = [] then (.slice none 0 0 none, h) else (.slice (some (h.next, 0)) R.length R.length (some 1), h.new h.next (.cells (fillC ((R.map Ch.id).map u) .leaf 0) [] ((R.map Ch.id).map u).length false))) := by
  obtain ⟨m, rfl⟩ : ∃ m', m = m' + 1 := ⟨m - 1, by omega⟩
  have hsr := sortedR_ok (n := 41) (by decide) (gs := [103]) (bs := 4) (fine := suFine) (g := 103) (l := L.map Ch.id) rfl hc hmb he.e.keys (bornB_mk he.b) (fine_u he.e.all) (room_le (by rw [List.length_map]; omega) (by rw [List.length_map]; omega)) (by rw [List.length_map]; omega) sort_nil0
  rw [hr.sortIds] at hsr
  have hp : prW.fn 88 [.func (.func 103) [] [.ptr (some (cb, 0))]] h = some (sortedR (SC 41) 102 [103] 1 4 ltU suFine (.func (.func 103) [] [.ptr (some (cb, 0))]) h) := rfl
  refine (call_prim (P := P) (keep := keepF P) (lf := 100000) hp).trans ?_
  rw [hsr]
  congr 1
  have hlen : (L.map Ch.id).length = R.length := by rw [List.length_map, hr.len]
  by_cases e : R = []
  · have eL : L.map Ch.id = [] := by rw [List.eq_nil_iff_length_eq_zero, hlen, e]; rfl
    rw [if_pos e, if_pos eL]
  · have eL : ¬ L.map Ch.id = [] := fun h' => e (List.eq_nil_of_length_eq_zero (by rw [← hlen, h']; rfl))
    rw [if_neg e, if_neg eL, hlen]
section
variable {h : Heap} {tb : Nat} {L R : List Ch} {next : Int} {F : Nat → Prop}
theorem TabAt.ok (ht : TabAt h tb L next F) : ∃ B, TabOk L next B := by obtain ⟨_, _, _, _, B, _, _, _, _, _, t5, _⟩ := ht.ex; exact ⟨B, t5⟩
theorem TabAt.nxt (ht : TabAt h tb L next F) : h.ld1 tb 2 = some (u next) := by
  obtain ⟨mb, x, es, k, B, X, t1, _⟩ := ht.ex
  rw [t1.ld1]; rfl
theorem tmay_full {n : Nat} (hn : 5 ≤ n) (ht : TabAt h tb L next F) {s : List Nat} (hl : s.length ≤ 1000) (hb : Byts s) :
    WC (C n (.fn 56) [.ptr (some (tb, 0)), .str s] h) fun r h' => Sm NoB h h' ∧ ((s.length < 1 ∨ 64 < s.length) ∧ r = .int .i64 4 ∨ ¬ (s.length < 1 ∨ 64 < s.length) ∧ ((∃ c, fdL L s = some c) ∧ r = .int .i64 6 ∨ fdL L s = none ∧ r = .int .i64 0)) := by
  obtain ⟨m, rfl⟩ : ∃ m, n = m + 1 := ⟨n - 1, by omega⟩
  refine call_fn _ f56A rfl (by simp [fn56]) fun QQ hQ => ?_
  simp only [fn56] at hQ
  simp only [fn56, fill_cons, fill_nil, Nat.zero_add, Nat.reduceAdd]
  by_cases c0 : s = []
  · subst c0
    simp only [F56, SS, Nat.reduceBEq, Nat.reduceEqDiff, Nat.reduceAdd, reduceIte, Nat.reduceMul, w_undef]
    refine hQ _ _ _ _ (.inr rfl) (by simp only [SS, Nat.reduceBEq]) (by simp only [SS, Nat.reduceBEq, Nat.reduceEqDiff, Nat.reduceAdd, reduceIte, Nat.reduceMul]; rfl) ?_
    exact ⟨Sm.refl _ _, .inl ⟨.inl (by simp), rfl⟩⟩
  have hpos : 1 ≤ s.length := by cases s with | nil => exact absurd rfl c0 | cons _ _ => simp
  by_cases c1 : 64 < s.length
  · have d1 : (64 : Int) < (s.length : Int) := by omega
    simp only [F56, x_len_9, c0, d1, SS, Nat.reduceBEq, Nat.reduceEqDiff, Nat.reduceAdd, reduceIte, Nat.reduceMul, w_undef]
    refine hQ _ _ _ _ (.inr rfl) (by simp only [SS, Nat.reduceBEq]) (by simp only [SS, Nat.reduceBEq, Nat.reduceEqDiff, Nat.reduceAdd, reduceIte, Nat.reduceMul]; rfl) ?_
    exact ⟨Sm.refl _ _, .inl ⟨.inr c1, rfl⟩⟩
  have d1 : ¬ (64 : Int) < (s.length : Int) := by omega
  obtain ⟨_, h1, ea, s1, rfl⟩ := tFind_ok (n := m) (by omega) ht (s := s) hl hb
  cases hd : fdL L s with
  | some c =>
    rw [hd] at ea
    simp only [F56, x_len_9, c0, d1, ea, SS, Nat.reduceBEq, Nat.reduceEqDiff, Nat.reduceAdd, reduceIte, Nat.reduceMul, w_undef]
    refine hQ _ _ _ _ (.inr rfl) (by simp only [SS, Nat.reduceBEq]) (by simp only [SS, Nat.reduceBEq, Nat.reduceEqDiff, Nat.reduceAdd, reduceIte, Nat.reduceMul]; rfl) ?_
    exact ⟨s1, .inr ⟨by omega, .inl ⟨⟨c, hd⟩, rfl⟩⟩⟩
  | none =>
    rw [hd] at ea
    simp only [F56, x_len_9, c0, d1, ea, SS, Nat.reduceBEq, Nat.reduceEqDiff, Nat.reduceAdd, reduceIte, Nat.reduceMul, w_undef]
    refine hQ _ _ _ _ (.inr rfl) (by simp only [SS, Nat.reduceBEq]) (by simp only [SS, Nat.reduceBEq, Nat.reduceEqDiff, Nat.reduceAdd, reduceIte, Nat.reduceMul]; rfl) ?_
    exact ⟨s1, .inr ⟨by omega, .inr ⟨hd, rfl⟩⟩⟩
theorem tnoid (ht : TabAt h tb L next F) : gtL L next = none := by
  obtain ⟨B, t5⟩ := ht.ok
  cases hg : gtL L next with
  | none => rfl
  | some c => obtain ⟨g1, g2⟩ := gt_some hg; have := (t5.ch c g1).2.1; omega
theorem tadd_full {n : Nat} (hn : 6 ≤ n) (ht : TabAt h tb L next F) {s : List Nat} (block : Int) (hl : s.length ≤ 1000) (hb : Byts s) (hlen : L.length ≤ 1000) :
    WC (C n (.fn 17) [.ptr (some (tb, 0)), .str s, .int .i64 block] h) fun r h' =>
      (s.length < 1 ∨ 64 < s.length) ∧ r = .tuple [u 0, .int .i64 4] ∧ Sm NoB h h' ∨ ¬ (s.length < 1 ∨ 64 < s.length) ∧ ((∃ c, fdL L s = some c) ∧ r = .tuple [u 0, .int .i64 6] ∧ Sm NoB h h' ∨ fdL L s = none ∧ (next = 4294967295 ∧ r = .tuple [u 0, .int .i64 12] ∧ Sm NoB h h' ∨
        next ≠ 4294967295 ∧ r = .tuple [u next, .int .i64 0] ∧ ∃ F', TabAt h' tb (L ++ [⟨next, s, block, 1⟩]) (next + 1) F' ∧ Sm F h h' ∧ ∀ b, F' b → F b ∨ h.next ≤ b)) := by
  by_cases good : ¬ (s.length < 1 ∨ 64 < s.length) ∧ fdL L s = none ∧ next ≠ 4294967295
  · obtain ⟨c1, c2, c3⟩ := good
    obtain ⟨r, h', e, rfl, F', t1, t2, t3⟩ := tadd_ok hn ht block (by omega) (by omega) hb c2 c3 (by omega)
    exact ⟨_, h', e, .inr ⟨c1, .inr ⟨c2, .inr ⟨c3, rfl, F', t1, t2, t3⟩⟩⟩⟩
  obtain ⟨m, rfl⟩ : ∃ m, n = m + 1 := ⟨n - 1, by omega⟩
  refine call_fn _ f17A rfl (by simp [fn17]) fun QQ hQ => ?_
  simp only [fn17] at hQ
  simp only [fn17, fill_cons, fill_nil, Nat.zero_add, Nat.reduceAdd]
  obtain ⟨_, h1, eb, s1, hcase⟩ := tmay_full (n := m) (by omega) ht hl hb
  obtain ⟨_, h0, ea, e0, rfl⟩ := tis_ok (n := m) (by omega) ht
  subst e0
  have ht1 := ht.sm s1 (fun _ _ h => h)
  rcases hcase with ⟨c1, rfl⟩ | ⟨c1, ⟨c2, rfl⟩ | ⟨c2, rfl⟩⟩
  · simp only [F17, ea, eb, SS, Nat.reduceBEq, Nat.reduceEqDiff, Nat.reduceAdd, reduceIte, Nat.reduceMul]
    refine hQ _ _ _ _ (.inr rfl) (by simp only [SS, Nat.reduceBEq]) (by simp only [SS, Nat.reduceBEq, Nat.reduceEqDiff, Nat.reduceAdd, reduceIte, Nat.reduceMul]; rfl) ?_
    exact .inl ⟨c1, rfl, s1⟩
  · simp only [F17, ea, eb, SS, Nat.reduceBEq, Nat.reduceEqDiff, Nat.reduceAdd, reduceIte, Nat.reduceMul]
    refine hQ _ _ _ _ (.inr rfl) (by simp only [SS, Nat.reduceBEq]) (by simp only [SS, Nat.reduceBEq, Nat.reduceEqDiff, Nat.reduceAdd, reduceIte, Nat.reduceMul]; rfl) ?_
    exact .inr ⟨c1, .inl ⟨c2, rfl, s1⟩⟩
  · by_cases c3 : next = 4294967295
    · have l2 := ht1.nxt
      simp only [F17, ea, eb, x_fa_87_2, l2, c3, SS, Nat.reduceBEq, Nat.reduceEqDiff, Nat.reduceAdd, reduceIte, Nat.reduceMul]
      refine hQ _ _ _ _ (.inr rfl) (by simp only [SS, Nat.reduceBEq]) (by simp only [SS, Nat.reduceBEq, Nat.reduceEqDiff, Nat.reduceAdd, reduceIte, Nat.reduceMul]; rfl) ?_
      exact .inr ⟨c1, .inr ⟨c2, .inl ⟨c3, rfl, s1⟩⟩⟩
    · exact absurd ⟨c1, c2, c3⟩ good
theorem tnext_ok {n : Nat} (hn : 2 ≤ n) (ht : TabAt h tb L next F) : WC (C n (.fn 38) [.ptr (some (tb, 0))] h) fun r h' => h' = h ∧ r = u next := by
  obtain ⟨m, rfl⟩ : ∃ m, n = m + 1 := ⟨n - 1, by omega⟩
  refine call_fn _ f38A rfl (by simp [fn38]) fun QQ hQ => ?_
  simp only [fn38] at hQ
  simp only [fn38, fill_cons, fill_nil, Nat.zero_add, Nat.reduceAdd]
  obtain ⟨_, h0, ea, e0, rfl⟩ := tis_ok (n := m) (by omega) ht
  subst e0
  have l2 := ht.nxt
  simp only [F38, ea, x_fa_87_2, l2, SS, Nat.reduceBEq, Nat.reduceEqDiff, Nat.reduceAdd, reduceIte, Nat.reduceMul]
  refine hQ _ _ _ _ (.inr rfl) (by simp only [SS, Nat.reduceBEq]) (by simp only [SS, Nat.reduceBEq, Nat.reduceEqDiff, Nat.reduceAdd, reduceIte, Nat.reduceMul]; rfl) ?_
  exact ⟨rfl, rfl⟩
theorem tskip_ok {n : Nat} (hn : 2 ≤ n) (ht : TabAt h tb L next F) (x : Int) (hx : 0 ≤ x ∧ x ≤ 4294967295) : WC (C n (.fn 37) [.ptr (some (tb, 0)), u x] h) fun r h' => TabAt h' tb L (max next x) F ∧ Sm F h h' := by
  obtain ⟨m, rfl⟩ : ∃ m, n = m + 1 := ⟨n - 1, by omega⟩
  refine call_fn _ f37A rfl (by simp [fn37]) fun QQ hQ => ?_
  simp only [fn37] at hQ
  simp only [fn37, fill_cons, fill_nil, Nat.zero_add, Nat.reduceAdd]
  obtain ⟨_, h0, ea, e0, rfl⟩ := tis_ok (n := m) (by omega) ht
  subst e0
  have l2 := ht.nxt
  have hlt := ht.lt
  obtain ⟨mb, xx, es, k, B, X, t1, t2, t3, t4, t5, hmb, hne, hx1, hx2, rfl⟩ := ht.ex
  obtain ⟨w1, w2, w3, w4⟩ := t1.st1 (o := 2) (v := u (max next x)) (by simp) rfl
  rw [show ([.map (some mb), .ptr (some (xx, 0)), u next] : List AV).set 2 (u (max next x)) = [.map (some mb), .ptr (some (xx, 0)), u (max next x)] from rfl] at w2
  simp only [F37, ea, x_fa_87_2, l2, w1, SS, Nat.reduceBEq, Nat.reduceEqDiff, Nat.reduceAdd, reduceIte, Nat.reduceMul]
  refine hQ _ _ _ _ (.inl rfl) (by simp only [SS, Nat.reduceBEq]) (by simp only [SS, Nat.reduceBEq, Nat.reduceEqDiff, Nat.reduceAdd, reduceIte, Nat.reduceMul]; rfl) ?_
  have hnx := t5.next
  have hs : Sm (· = tb) h0 (h0.wr tb 2 [u (max next x)]) := ⟨by omega, fun c _ hc => w4 c hc⟩
  refine ⟨⟨⟨mb, xx, es, k, B, X, w2, (w4 mb (fun e => hne e.symm)).trans t2, t3, t4.sm hs (fun b hb e => hx1 (e ▸ hb)), ⟨t5.ids, t5.datas, fun c hc => ?_, by omega, t5.inB, t5.ofB, t5.ndB, t5.len⟩, by omega, hne, hx1, hx2, rfl⟩, by omega⟩, hs.mono fun c _ hc => .inl hc⟩
  have := t5.ch c hc
  refine ⟨this.1, by omega, this.2.2⟩
end
end Go.Proofs.Ytlfednnfkejcjaa

namespace Go.Proofs.Ytlfednnfkejcjaa
open Go.Am
set_option maxRecDepth 10000
section
variable {h : Heap} {tb : Nat} {L R : List Ch} {next : Int} {F : Nat → Prop}
theorem hold_full {n : Nat} (hn : 3 ≤ n) (ht : TabAt h tb L next F) (id : Int) :
    WC (C n (.fn 16) [.ptr (some (tb, 0)), u id] h) fun r h' => gtL L id = none ∧ r = .int .i64 5 ∧ Sm NoB h h' ∨ ∃ c, gtL L id = some c ∧ (c.refs = 65535 ∧ r = .int .i64 12 ∧ Sm NoB h h' ∨
      c.refs ≠ 65535 ∧ r = .int .i64 0 ∧ TabAt h' tb (putC { c with refs := c.refs + 1 } L) next F ∧ Sm F h h') := by
  obtain ⟨B, t5⟩ := ht.ok
  by_cases good : ∃ c, gtL L id = some c ∧ c.refs ≠ 65535
  · obtain ⟨c, hg, hr⟩ := good
    have := (t5.ch c (gt_some hg).1)
    obtain ⟨r, h', e, rfl, t1, t2⟩ := hold_ok hn ht hg (by omega)
    exact ⟨_, h', e, .inr ⟨c, hg, .inr ⟨hr, rfl, t1, t2⟩⟩⟩
  obtain ⟨m, rfl⟩ : ∃ m, n = m + 1 := ⟨n - 1, by omega⟩
  refine call_fn _ f16A rfl (by simp [fn16]) fun QQ hQ => ?_
  simp only [fn16] at hQ
  simp only [fn16, fill_cons, fill_nil, Nat.zero_add, Nat.reduceAdd]
  obtain ⟨_, h1, ea, s1, rfl⟩ := tfind_ok (n := m) (by omega) ht id
  obtain ⟨h2, e2, r2, n2, g2⟩ := Rw.alloc h1 (id := h1.next) (n := 3) (vs := [.str [], .int .i64 0, .int .i64 0]) (z := tyMark 91 true) (ro := false) (Nat.le_refl _) rfl
  cases hg : gtL L id with
  | none =>
    rw [hg] at ea
    unfold zCh at ea
    obtain ⟨w1, w2, w3, w4⟩ := r2.sto (o := 0) (us := [.str [], .int .i64 0, .int .i64 0]) (by simp) rfl
    simp only [F16, ea, x_al_91, e2, w1, SS, Nat.reduceBEq, Nat.reduceEqDiff, Nat.reduceAdd, reduceIte, Nat.reduceMul]
    refine hQ _ _ _ _ (.inr rfl) (by simp only [SS, Nat.reduceBEq]) (by simp only [SS, Nat.reduceBEq, Nat.reduceEqDiff, Nat.reduceAdd, reduceIte, Nat.reduceMul]; rfl) ?_
    have := s1.1
    exact .inl ⟨hg, rfl, ⟨by omega, fun b hb hF => by rw [w4 b (by omega), g2 b (by omega), s1.2 b hb hF]⟩⟩
  | some c =>
    rw [hg] at ea
    unfold Ch.val at ea
    have hr : c.refs = 65535 := Classical.byContradiction fun h9 => good ⟨c, hg, h9⟩
    obtain ⟨w1, w2, w3, w4⟩ := r2.sto (o := 0) (us := [.str c.data, .int .i64 c.block, .int .i64 65535]) (by simp) rfl
    rw [full3 _ _ rfl rfl] at w2
    simp only [hr] at ea
    simp only [F16, ea, x_al_91, e2, w1, x_fa_91_2, w2.ld1, SS, Nat.reduceBEq, Nat.reduceEqDiff, Nat.reduceAdd, reduceIte, Nat.reduceMul]
    refine hQ _ _ _ _ (.inr rfl) (by simp only [SS, Nat.reduceBEq]) (by simp only [SS, Nat.reduceBEq, Nat.reduceEqDiff, Nat.reduceAdd, reduceIte, Nat.reduceMul]; rfl) ?_
    have := s1.1
    exact .inr ⟨c, hg, .inl ⟨hr, rfl, ⟨by omega, fun b hb hF => by rw [w4 b (by omega), g2 b (by omega), s1.2 b hb hF]⟩⟩⟩
theorem release_full {n : Nat} (hn : 4 ≤ n) (ht : TabAt h tb L next F) (id : Int) :
    WC (C n (.fn 15) [.ptr (some (tb, 0)), u id] h) fun r h' => gtL L id = none ∧ r = .tuple [.bool false, .int .i64 5] ∧ Sm NoB h h' ∨ ∃ c, gtL L id = some c ∧ Sm F h h' ∧ (1 < c.refs ∧ r = .tuple [.bool false, .int .i64 0] ∧ TabAt h' tb (putC { c with refs := c.refs - 1 } L) next F ∨
      ¬ 1 < c.refs ∧ r = .tuple [.bool true, .int .i64 0] ∧ ∃ F', TabAt h' tb (cutC id L) next F' ∧ ∀ b, F' b → F b) := by
  by_cases good : ∃ c, gtL L id = some c
  · obtain ⟨c, hg⟩ := good
    obtain ⟨r, h', e, s1, hc⟩ := release_ok hn ht hg
    by_cases c1 : 1 < c.refs
    · rw [if_pos c1] at hc
      exact ⟨_, h', e, .inr ⟨c, hg, s1, .inl ⟨c1, hc⟩⟩⟩
    · rw [if_neg c1] at hc
      exact ⟨_, h', e, .inr ⟨c, hg, s1, .inr ⟨c1, hc⟩⟩⟩
  obtain ⟨m, rfl⟩ : ∃ m, n = m + 1 := ⟨n - 1, by omega⟩
  refine call_fn _ f15A rfl (by simp [fn15]) fun QQ hQ => ?_
  simp only [fn15] at hQ
  simp only [fn15, fill_cons, fill_nil, Nat.zero_add, Nat.reduceAdd]
  obtain ⟨_, h1, ea, s1, rfl⟩ := tfind_ok (n := m) (by omega) ht id
  obtain ⟨h2, e2, r2, n2, g2⟩ := Rw.alloc h1 (id := h1.next) (n := 3) (vs := [.str [], .int .i64 0, .int .i64 0]) (z := tyMark 91 true) (ro := false) (Nat.le_refl _) rfl
  cases hg : gtL L id with
  | none =>
    rw [hg] at ea
    unfold zCh at ea
    obtain ⟨w1, w2, w3, w4⟩ := r2.sto (o := 0) (us := [.str [], .int .i64 0, .int .i64 0]) (by simp) rfl
    simp only [F15, ea, x_al_91, e2, w1, SS, Nat.reduceBEq, Nat.reduceEqDiff, Nat.reduceAdd, reduceIte, Nat.reduceMul]
    refine hQ _ _ _ _ (.inr rfl) (by simp only [SS, Nat.reduceBEq]) (by simp only [SS, Nat.reduceBEq, Nat.reduceEqDiff, Nat.reduceAdd, reduceIte, Nat.reduceMul]; rfl) ?_
    have := s1.1
    exact .inl ⟨hg, rfl, ⟨by omega, fun b hb hF => by rw [w4 b (by omega), g2 b (by omega), s1.2 b hb hF]⟩⟩
  | some c => exact absurd ⟨c, hg⟩ good
theorem tload_ok {n : Nat} (hn : 6 ≤ n) (ht : TabAt h tb L next F) (id : Int) (hid : 0 ≤ id ∧ id ≤ 4294967295) {s : List Nat} (block refs : Int) (hl : s.length ≤ 1000) (hb : Byts s) (hlen : L.length ≤ 1000) :
    WC (C n (.fn 36) [.ptr (some (tb, 0)), u id, .str s, .int .i64 block, .int .i64 refs] h) fun r h' =>
      (id = 0 ∨ id = 4294967295) ∧ r = .int .i64 2 ∧ Sm NoB h h' ∨ ¬ (id = 0 ∨ id = 4294967295) ∧ ((s.length < 1 ∨ 64 < s.length ∨ refs < 1 ∨ 65535 < refs) ∧ r = .int .i64 4 ∧ Sm NoB h h' ∨ ¬ (s.length < 1 ∨ 64 < s.length ∨ refs < 1 ∨ 65535 < refs) ∧
        (((∃ c, gtL L id = some c) ∨ ∃ c, fdL L s = some c) ∧ r = .int .i64 6 ∧ Sm NoB h h' ∨ gtL L id = none ∧ fdL L s = none ∧ r = .int .i64 0 ∧ ∃ F', TabAt h' tb (L ++ [⟨id, s, block, refs⟩]) (max next (id + 1)) F' ∧ Sm F h h' ∧ ∀ b, F' b → F b ∨ h.next ≤ b)) := by
  obtain ⟨m, rfl⟩ : ∃ m, n = m + 1 := ⟨n - 1, by omega⟩
  refine call_fn _ f36A rfl (by simp [fn36]) fun QQ hQ => ?_
  simp only [fn36] at hQ
  simp only [fn36, fill_cons, fill_nil, Nat.zero_add, Nat.reduceAdd]
  obtain ⟨_, h0, ea, e0, rfl⟩ := tis_ok (n := m) (by omega) ht
  subst e0
  by_cases c0 : id = 0
  · subst c0
    simp only [F36, SS, Nat.reduceBEq, Nat.reduceEqDiff, Nat.reduceAdd, reduceIte, Nat.reduceMul, ea, w_undef]
    refine hQ _ _ _ _ (.inr rfl) (by simp only [SS, Nat.reduceBEq]) (by simp only [SS, Nat.reduceBEq, Nat.reduceEqDiff, Nat.reduceAdd, reduceIte, Nat.reduceMul]; rfl) ?_
    exact .inl ⟨.inl rfl, rfl, Sm.refl _ _⟩
  by_cases c1 : id = 4294967295
  · subst c1
    simp only [F36, SS, Nat.reduceBEq, Nat.reduceEqDiff, Nat.reduceAdd, reduceIte, Nat.reduceMul, ea, c0, w_undef]
    refine hQ _ _ _ _ (.inr rfl) (by simp only [SS, Nat.reduceBEq]) (by simp only [SS, Nat.reduceBEq, Nat.reduceEqDiff, Nat.reduceAdd, reduceIte, Nat.reduceMul]; rfl) ?_
    exact .inl ⟨.inr rfl, rfl, Sm.refl _ _⟩
  have cid : ¬ (id = 0 ∨ id = 4294967295) := by omega
  obtain ⟨rm, h1, eb, s1, hcase⟩ := tmay_full (n := m) (by omega) ht hl hb
  have ht1 := ht.sm s1 (fun _ _ h => h)
  obtain ⟨mb, x, es, k, B, X, t1, t2, t3, _⟩ := ht1.ex
  obtain ⟨h2, e2, r2, n2, g2⟩ := Rw.alloc h1 (id := h1.next) (n := 3) (vs := [.str [], .int .i64 0, .int .i64 0]) (z := tyMark 91 true) (ro := false) (Nat.le_refl _) rfl
  obtain ⟨vb, sd, b0, q0, hlk, hvb⟩ : ∃ vb sd b0 q0, lookup2 P 84 true (.map (some mb)) (u id) h1 = some (.tuple [.agg [.str sd, .int .i64 b0, .int .i64 q0], .bool vb]) ∧ (vb = true ∧ (∃ c, gtL L id = some c) ∨ vb = false ∧ gtL L id = none) := by
    cases hg : gtL L id with
    | none => exact ⟨false, _, _, _, lkT_none t2 t3.e hg, .inr ⟨rfl, rfl⟩⟩
    | some c => exact ⟨true, _, _, _, lkT_some t2 t3.e hg, .inl ⟨rfl, c, rfl⟩⟩
  obtain ⟨w1, w2, w3, w4⟩ := r2.sto (o := 0) (us := [.str sd, .int .i64 b0, .int .i64 q0]) (by simp) rfl
  have hs1 := s1.1
  obtain ⟨h3, e3⟩ : ∃ h3, h2.wr h1.next 0 [.str sd, .int .i64 b0, .int .i64 q0] = h3 := ⟨_, rfl⟩
  rw [e3] at w1 w3 w4
  have s3 : Sm NoB h1 h3 := ⟨by omega, fun b hb hF => by rw [w4 b (by omega), g2 b (by omega)]⟩
  have s03 : Sm NoB h0 h3 := s1.trans s3 (fun _ _ h => h) (fun _ _ h => h)
  have k64 : ¬ (6 : Int) = 4 := by decide
  have k04 : ¬ (0 : Int) = 4 := by decide
  have k60 : ¬ (6 : Int) = 0 := by decide
  obtain ⟨e, rfl, hcs⟩ : ∃ e : Int, rm = AV.int .i64 e ∧ ((s.length < 1 ∨ 64 < s.length) ∧ e = 4 ∨ ¬ (s.length < 1 ∨ 64 < s.length) ∧ ((∃ c, fdL L s = some c) ∧ e = 6 ∨ fdL L s = none ∧ e = 0)) := by
    rcases hcase with ⟨q, rfl⟩ | ⟨q, ⟨q2, rfl⟩ | ⟨q2, rfl⟩⟩
    · exact ⟨4, rfl, .inl ⟨q, rfl⟩⟩
    · exact ⟨6, rfl, .inr ⟨q, .inl ⟨q2, rfl⟩⟩⟩
    · exact ⟨0, rfl, .inr ⟨q, .inr ⟨q2, rfl⟩⟩⟩
  by_cases c2 : e = 4
  · have hq : s.length < 1 ∨ 64 < s.length := by
      rcases hcs with ⟨q, _⟩ | ⟨_, ⟨_, q⟩ | ⟨_, q⟩⟩
      · exact q
      · omega
      · omega
    subst c2
    simp only [F36, SS, Nat.reduceBEq, Nat.reduceEqDiff, Nat.reduceAdd, reduceIte, Nat.reduceMul, ea, c0, c1, w_undef, eb, x_fa_87_0, t1.ld1, hlk, x_al_91, e2, w1]
    refine hQ _ _ _ _ (.inr rfl) (by simp only [SS, Nat.reduceBEq]) (by simp only [SS, Nat.reduceBEq, Nat.reduceEqDiff, Nat.reduceAdd, reduceIte, Nat.reduceMul]; rfl) ?_
    exact .inr ⟨cid, .inl ⟨by omega, rfl, s03⟩⟩
  have hq : ¬ (s.length < 1 ∨ 64 < s.length) := by
    rcases hcs with ⟨_, q⟩ | ⟨q, _⟩
    · exact absurd q c2
    · exact q
  by_cases c3 : refs < 1
  · simp only [F36, SS, Nat.reduceBEq, Nat.reduceEqDiff, Nat.reduceAdd, reduceIte, Nat.reduceMul, ea, c0, c1, w_undef, eb, x_fa_87_0, t1.ld1, hlk, x_al_91, e2, w1, c2, c3]
    refine hQ _ _ _ _ (.inr rfl) (by simp only [SS, Nat.reduceBEq]) (by simp only [SS, Nat.reduceBEq, Nat.reduceEqDiff, Nat.reduceAdd, reduceIte, Nat.reduceMul]; rfl) ?_
    exact .inr ⟨cid, .inl ⟨by omega, rfl, s03⟩⟩
  by_cases c4 : 65535 < refs
  · simp only [F36, SS, Nat.reduceBEq, Nat.reduceEqDiff, Nat.reduceAdd, reduceIte, Nat.reduceMul, ea, c0, c1, w_undef, eb, x_fa_87_0, t1.ld1, hlk, x_al_91, e2, w1, c2, c3, c4]
    refine hQ _ _ _ _ (.inr rfl) (by simp only [SS, Nat.reduceBEq]) (by simp only [SS, Nat.reduceBEq, Nat.reduceEqDiff, Nat.reduceAdd, reduceIte, Nat.reduceMul]; rfl) ?_
    exact .inr ⟨cid, .inl ⟨by omega, rfl, s03⟩⟩
  have hq2 : ¬ (s.length < 1 ∨ 64 < s.length ∨ refs < 1 ∨ 65535 < refs) := by omega
  by_cases c5 : e = 0
  · have hd : fdL L s = none := by
      rcases hcs with ⟨_, q⟩ | ⟨_, ⟨_, q⟩ | ⟨q, _⟩⟩
      · exact absurd q c2
      · omega
      · exact q
    subst c5
    rcases hvb with ⟨rfl, hg⟩ | ⟨rfl, hg⟩
    · simp only [F36, SS, Nat.reduceBEq, Nat.reduceEqDiff, Nat.reduceAdd, reduceIte, Nat.reduceMul, ea, c0, c1, w_undef, eb, x_fa_87_0, t1.ld1, hlk, x_al_91, e2, w1, c2, c3, c4]
      refine hQ _ _ _ _ (.inr rfl) (by simp only [SS, Nat.reduceBEq]) (by simp only [SS, Nat.reduceBEq, Nat.reduceEqDiff, Nat.reduceAdd, reduceIte, Nat.reduceMul]; rfl) ?_
      exact .inr ⟨cid, .inr ⟨hq2, .inl ⟨.inl hg, rfl, s03⟩⟩⟩
    · obtain ⟨_, h4, ec, rfl, F', ht4, s4, f4⟩ := tput_ok (n := m) (by omega) (ht1.sm s3 (fun _ _ h => h)) ⟨id, s, block, refs⟩ (by show 1 ≤ id; omega) (by show id < _; omega) hg hd (by show 1 ≤ s.length; omega) (by show s.length ≤ 64; omega) hb (by show 1 ≤ refs; omega) (by show refs ≤ 65535; omega) (by omega)
      unfold Ch.val at ec
      simp only at ec
      simp only [F36, SS, Nat.reduceBEq, Nat.reduceEqDiff, Nat.reduceAdd, reduceIte, Nat.reduceMul, ea, c0, c1, w_undef, eb, x_fa_87_0, t1.ld1, hlk, x_al_91, e2, w1, c2, c3, c4, x_bd_91_0_1_2, ec]
      refine hQ _ _ _ _ (.inr rfl) (by simp only [SS, Nat.reduceBEq]) (by simp only [SS, Nat.reduceBEq, Nat.reduceEqDiff, Nat.reduceAdd, reduceIte, Nat.reduceMul]; rfl) ?_
      exact .inr ⟨cid, .inr ⟨hq2, .inr ⟨hg, hd, rfl, F', ht4, s03.trans s4 (fun _ _ h => h.elim) (fun _ _ h => h), fun b hb => (f4 b hb).imp (fun h9 => h9) fun h9 => Nat.le_trans s03.1 h9⟩⟩⟩
  · have hd : ∃ c, fdL L s = some c := by
      rcases hcs with ⟨_, q⟩ | ⟨_, ⟨q, _⟩ | ⟨_, q⟩⟩
      · exact absurd q c2
      · exact q
      · exact absurd q c5
    simp only [F36, SS, Nat.reduceBEq, Nat.reduceEqDiff, Nat.reduceAdd, reduceIte, Nat.reduceMul, ea, c0, c1, w_undef, eb, x_fa_87_0, t1.ld1, hlk, x_al_91, e2, w1, c2, c3, c4, c5]
    refine hQ _ _ _ _ (.inr rfl) (by simp only [SS, Nat.reduceBEq]) (by simp only [SS, Nat.reduceBEq, Nat.reduceEqDiff, Nat.reduceAdd, reduceIte, Nat.reduceMul]; rfl) ?_
    exact .inr ⟨cid, .inr ⟨hq2, .inl ⟨.inr hd, rfl, s03⟩⟩⟩
end
end Go.Proofs.Ytlfednnfkejcjaa

namespace Go.Proofs.Ytlfednnfkejcjaa
open Go.Am
set_option maxRecDepth 10000
section
variable {h : Heap} {rb : Nat} {R L : List Ch} {next : Int} {bs : List Nat}
theorem rload_ok {n : Nat} (hn : 2 ≤ n) (hr : RefAt h rb R next bs) (hrel : Rel L R) (hl : R.length ≤ 1000) (id : Int) (hid : 0 ≤ id ∧ id ≤ 4294967295) (s : List Nat) (block refs : Int) :
    WC (C n (.fn 65) [.ptr (some (rb, 0)), .agg [u id, .str s, .int .i64 block, .int .i64 refs]] h) fun r h' =>
      (id = 0 ∨ id = 4294967295) ∧ r = .int .i64 2 ∧ Sm NoB h h' ∨ ¬ (id = 0 ∨ id = 4294967295) ∧ ((s.length < 1 ∨ 64 < s.length ∨ refs < 1 ∨ 65535 < refs) ∧ r = .int .i64 4 ∧ Sm NoB h h' ∨ ¬ (s.length < 1 ∨ 64 < s.length ∨ refs < 1 ∨ 65535 < refs) ∧
        (((∃ c, gtL L id = some c) ∨ ∃ c, fdL L s = some c) ∧ r = .int .i64 6 ∧ Sm NoB h h' ∨ gtL L id = none ∧ fdL L s = none ∧ r = .int .i64 0 ∧ ∃ bs', RefAt h' rb (insR ⟨id, s, block, refs⟩ R) (max next (id + 1)) bs' ∧ Sm (· = rb) h h' ∧ ∀ b, b ∈ bs' → h.next ≤ b)) := by
  obtain ⟨m, rfl⟩ : ∃ m, n = m + 1 := ⟨n - 1, by omega⟩
  refine call_fn _ f65A rfl (by simp [fn65]) fun QQ hQ => ?_
  simp only [fn65] at hQ
  simp only [fn65, fill_cons, fill_nil, Nat.zero_add, Nat.reduceAdd]
  obtain ⟨h1, e1, rx, n1, g1⟩ := Rw.alloc h (id := h.next) (n := 4) (vs := [u id, .str s, .int .i64 block, .int .i64 refs]) (z := []) (ro := false) (Nat.le_refl _) rfl
  have s1 : Sm NoB h h1 := ⟨by omega, fun c hc _ => g1 c (by omega)⟩
  have hr1 := hr.no s1
  have i0 := rx.ld1 0
  have i1 := rx.ld1 1
  have i3 := rx.ld1 3
  have i4 := rx.ld (i := 0) (n := 4) (by simp)
  simp only [List.getElem?_cons_zero, List.getElem?_cons_succ, List.drop_zero] at i0 i1 i3 i4
  rw [show ([u id, .str s, .int .i64 block, .int .i64 refs] : List AV).take 4 = [u id, .str s, .int .i64 block, .int .i64 refs] from rfl] at i4
  by_cases c0 : id = 0
  · subst c0
    simp only [F65, SS, Nat.reduceBEq, Nat.reduceEqDiff, Nat.reduceAdd, reduceIte, Nat.reduceMul, e1, x_fa_114_0, x_fa_114_1, x_fa_114_3, i0, w_undef]
    refine hQ _ _ _ _ (.inr rfl) (by simp only [SS, Nat.reduceBEq]) (by simp only [SS, Nat.reduceBEq, Nat.reduceEqDiff, Nat.reduceAdd, reduceIte, Nat.reduceMul]; rfl) ?_
    exact .inl ⟨.inl rfl, rfl, s1⟩
  by_cases c1 : id = 4294967295
  · subst c1
    simp only [F65, SS, Nat.reduceBEq, Nat.reduceEqDiff, Nat.reduceAdd, reduceIte, Nat.reduceMul, e1, x_fa_114_0, x_fa_114_1, x_fa_114_3, i0, c0, w_undef]
    refine hQ _ _ _ _ (.inr rfl) (by simp only [SS, Nat.reduceBEq]) (by simp only [SS, Nat.reduceBEq, Nat.reduceEqDiff, Nat.reduceAdd, reduceIte, Nat.reduceMul]; rfl) ?_
    exact .inl ⟨.inr rfl, rfl, s1⟩
  have cid : ¬ (id = 0 ∨ id = 4294967295) := by omega
  by_cases c2 : s.length < 1
  · have d2 : (s.length : Int) < 1 := by omega
    simp only [F65, SS, Nat.reduceBEq, Nat.reduceEqDiff, Nat.reduceAdd, reduceIte, Nat.reduceMul, e1, x_fa_114_0, x_fa_114_1, x_fa_114_3, i0, i1, i3, c0, c1, x_len_9, d2, w_undef]
    refine hQ _ _ _ _ (.inr rfl) (by simp only [SS, Nat.reduceBEq]) (by simp only [SS, Nat.reduceBEq, Nat.reduceEqDiff, Nat.reduceAdd, reduceIte, Nat.reduceMul]; rfl) ?_
    exact .inr ⟨cid, .inl ⟨.inl c2, rfl, s1⟩⟩
  have d2 : ¬ (s.length : Int) < 1 := by omega
  by_cases c3 : 64 < s.length
  · have d3 : (64 : Int) < (s.length : Int) := by omega
    simp only [F65, SS, Nat.reduceBEq, Nat.reduceEqDiff, Nat.reduceAdd, reduceIte, Nat.reduceMul, e1, x_fa_114_0, x_fa_114_1, x_fa_114_3, i0, i1, i3, c0, c1, x_len_9, d2, d3, w_undef]
    refine hQ _ _ _ _ (.inr rfl) (by simp only [SS, Nat.reduceBEq]) (by simp only [SS, Nat.reduceBEq, Nat.reduceEqDiff, Nat.reduceAdd, reduceIte, Nat.reduceMul]; rfl) ?_
    exact .inr ⟨cid, .inl ⟨.inr (.inl c3), rfl, s1⟩⟩
  have d3 : ¬ (64 : Int) < (s.length : Int) := by omega
  by_cases c4 : refs < 1
  · simp only [F65, SS, Nat.reduceBEq, Nat.reduceEqDiff, Nat.reduceAdd, reduceIte, Nat.reduceMul, e1, x_fa_114_0, x_fa_114_1, x_fa_114_3, i0, i1, i3, c0, c1, x_len_9, d2, d3, c4, w_undef]
    refine hQ _ _ _ _ (.inr rfl) (by simp only [SS, Nat.reduceBEq]) (by simp only [SS, Nat.reduceBEq, Nat.reduceEqDiff, Nat.reduceAdd, reduceIte, Nat.reduceMul]; rfl) ?_
    exact .inr ⟨cid, .inl ⟨.inr (.inr (.inl c4)), rfl, s1⟩⟩
  by_cases c5 : 65535 < refs
  · simp only [F65, SS, Nat.reduceBEq, Nat.reduceEqDiff, Nat.reduceAdd, reduceIte, Nat.reduceMul, e1, x_fa_114_0, x_fa_114_1, x_fa_114_3, i0, i1, i3, c0, c1, x_len_9, d2, d3, c4, c5, w_undef]
    refine hQ _ _ _ _ (.inr rfl) (by simp only [SS, Nat.reduceBEq]) (by simp only [SS, Nat.reduceBEq, Nat.reduceEqDiff, Nat.reduceAdd, reduceIte, Nat.reduceMul]; rfl) ?_
    exact .inr ⟨cid, .inl ⟨.inr (.inr (.inr c5)), rfl, s1⟩⟩
  have hq : ¬ (s.length < 1 ∨ 64 < s.length ∨ refs < 1 ∨ 65535 < refs) := by omega
  obtain ⟨ra, h2, e2, rfl, hA⟩ := rat_ok (n := m) (by omega) hr1 hl id
  have hA := firstI hrel hA
  obtain ⟨rf, h3, e3, rfl, hF⟩ := rfd_ok (n := m) (by omega) hr1 hl s
  have hF := firstD hrel hF
  cases hg : gtL L id with
  | some c =>
    rw [hg] at hA
    obtain ⟨i, _, rfl⟩ := hA
    have d4 : (0 : Int) ≤ (i : Int) := by omega
    simp only [F65, SS, Nat.reduceBEq, Nat.reduceEqDiff, Nat.reduceAdd, reduceIte, Nat.reduceMul, e1, x_fa_114_0, x_fa_114_1, x_fa_114_3, i0, i1, i3, c0, c1, x_len_9, d2, d3, c4, c5, e2, d4, w_undef]
    refine hQ _ _ _ _ (.inr rfl) (by simp only [SS, Nat.reduceBEq]) (by simp only [SS, Nat.reduceBEq, Nat.reduceEqDiff, Nat.reduceAdd, reduceIte, Nat.reduceMul]; rfl) ?_
    exact .inr ⟨cid, .inr ⟨hq, .inl ⟨.inl ⟨c, hg⟩, rfl, s1⟩⟩⟩
  | none =>
    rw [hg] at hA
    subst hA
    have d4 : ¬ (0 : Int) ≤ -1 := by decide
    cases hd : fdL L s with
    | some c =>
      rw [hd] at hF
      obtain ⟨i, _, rfl⟩ := hF
      have d5 : (0 : Int) ≤ (i : Int) := by omega
      simp only [F65, SS, Nat.reduceBEq, Nat.reduceEqDiff, Nat.reduceAdd, reduceIte, Nat.reduceMul, e1, x_fa_114_0, x_fa_114_1, x_fa_114_3, i0, i1, i3, c0, c1, x_len_9, d2, d3, c4, c5, e2, d4, e3, d5, w_undef]
      refine hQ _ _ _ _ (.inr rfl) (by simp only [SS, Nat.reduceBEq]) (by simp only [SS, Nat.reduceBEq, Nat.reduceEqDiff, Nat.reduceAdd, reduceIte, Nat.reduceMul]; rfl) ?_
      exact .inr ⟨cid, .inr ⟨hq, .inl ⟨.inr ⟨c, hd⟩, rfl, s1⟩⟩⟩
    | none =>
      rw [hd] at hF
      subst hF
      obtain ⟨rp, h4, e4, bs', hr2, s2, hb2⟩ := rput_ok (n := m) (by omega) hr1 hl ⟨id, s, block, refs⟩ ⟨by show 0 ≤ id; omega, by show id < _; omega⟩
      unfold Ch.rc at e4
      simp only at e4
      simp only [F65, SS, Nat.reduceBEq, Nat.reduceEqDiff, Nat.reduceAdd, reduceIte, Nat.reduceMul, e1, x_fa_114_0, x_fa_114_1, x_fa_114_3, i0, i1, i3, i4, c0, c1, x_len_9, d2, d3, c4, c5, e2, d4, e3, e4, w_undef]
      refine hQ _ _ _ _ (.inr rfl) (by simp only [SS, Nat.reduceBEq]) (by simp only [SS, Nat.reduceBEq, Nat.reduceEqDiff, Nat.reduceAdd, reduceIte, Nat.reduceMul]; rfl) ?_
      refine .inr ⟨cid, .inr ⟨hq, .inr ⟨hg, hd, rfl, bs', ?_, s1.trans s2 (fun _ _ h => h.elim) (fun _ _ h => h), fun b hb => Nat.le_trans s1.1 (hb2 b hb)⟩⟩⟩
      rw [show max next (id + 1) = if next ≤ id then id + 1 else next by split <;> omega]
      exact hr2
end
end Go.Proofs.Ytlfednnfkejcjaa

namespace Go.Proofs.Ytlfednnfkejcjaa
open Go.Am
set_option maxRecDepth 10000
structure Ac where
  what : Int
  id : Int
  data : List Nat
  block : Int
  refs : Int
  ask : Int
  other : List Nat
def Ac.c (x : Ac) : List AV := [.int .u8 x.what, .int .u32 x.id, .str x.data, .int .i64 x.block, .int .i64 x.refs, .int .u32 x.ask, .str x.other]
abbrev csA (L : List Ac) : List AV := L.flatMap Ac.c
theorem csA_len (L : List Ac) : (csA L).length = L.length * 7 := by
  induction L with
  | nil => rfl
  | cons x L ih => show (Ac.c x ++ csA L).length = _; rw [List.length_append, ih, List.length_cons]; simp [Ac.c]; omega
theorem csA_get : ∀ (L : List Ac) (i : Nat) (h : i < L.length) (f : Nat), f < 7 → (csA L)[i * 7 + f]? = (L[i].c)[f]?
  | x :: L, 0, h, f, hf => by show (Ac.c x ++ csA L)[0 * 7 + f]? = _; rw [List.getElem?_append_left (by simp [Ac.c]; omega), Nat.zero_mul, Nat.zero_add]; rfl
  | x :: L, i + 1, h, f, hf => by
    show (Ac.c x ++ csA L)[(i + 1) * 7 + f]? = _
    rw [List.getElem?_append_right (by simp [Ac.c]; omega), show (i + 1) * 7 + f - (Ac.c x).length = i * 7 + f by simp [Ac.c]; omega]
    exact csA_get L i (by simpa using h) f hf
def Az : Ac := ⟨0, 0, [], 0, 0, 0, []⟩
def Ai (L : List Ac) (i : Nat) : Ac := L.getD i Az
theorem Ai_at {L : List Ac} {i : Nat} (h : i < L.length) : Ai L i = L[i] := by simp [Ai, List.getD_eq_getElem?_getD, List.getElem?_eq_getElem h]
def Acs (h : Heap) (v : AV) (L : List Ac) : Prop := ElsR h v L.length 7 (csA L)
section
variable {h h' : Heap} {v : AV} {L : List Ac}
theorem Acs.sl (hi : Acs h v L) : ∃ a c g, v = .slice a L.length c g := by
  obtain ⟨_, a, c, g, e, _⟩ := hi
  exact ⟨a, c, g, e⟩
theorem Acs.sm {F : Nat → Prop} (hi : Acs h v L) (hs : Sm F h h') (hF : ∀ b, blkOf v b → ¬ F b) : Acs h' v L := elsR_sm hi hs hF
theorem Acs.lt (hi : Acs h v L) {b : Nat} (hb : blkOf v b) : b < h.next := elsR_lt hi hb
theorem Acs.at {a : Option (Nat × Nat)} {c : Nat} {g : Option Nat} (hi : Acs h (.slice a L.length c g) L) {i : Nat} (hl : i < L.length) :
    ∃ b o, a = some (b, o) ∧ h.ld1 b (o + i * 7) = some (.int .u8 (Ai L i).what) ∧ h.ld1 b (o + i * 7 + 1) = some (.int .u32 (Ai L i).id) ∧ h.ld1 b (o + i * 7 + 2) = some (.str (Ai L i).data) ∧ h.ld1 b (o + i * 7 + 3) = some (.int .i64 (Ai L i).block) ∧ h.ld1 b (o + i * 7 + 4) = some (.int .i64 (Ai L i).refs) ∧ h.ld1 b (o + i * 7 + 5) = some (.int .u32 (Ai L i).ask) ∧ h.ld1 b (o + i * 7 + 6) = some (.str (Ai L i).other) ∧ h.ld b (o + i * 7) 7 = some (Ai L i).c := by
  obtain ⟨h0, a', c', g', e, h1, h2⟩ := hi
  cases e
  cases a with
  | none => have := h1 rfl; omega
  | some p =>
    have hld := (h2 p.1 p.2 rfl).2 (by omega)
    have hc := (ld_ld1 hld).2
    have hp := ld_part hld (i := i * 7) (k := 7) (by omega)
    refine ⟨p.1, p.2, rfl, ?_, ?_, ?_, ?_, ?_, ?_, ?_, ?_⟩
    · rw [hc _ (by omega)]; rw [Ai_at hl]; exact (csA_get L i hl 0 (by omega))
    · rw [Nat.add_assoc]; rw [hc _ (by omega)]; rw [Ai_at hl]; exact (csA_get L i hl 1 (by omega))
    · rw [Nat.add_assoc]; rw [hc _ (by omega)]; rw [Ai_at hl]; exact (csA_get L i hl 2 (by omega))
    · rw [Nat.add_assoc]; rw [hc _ (by omega)]; rw [Ai_at hl]; exact (csA_get L i hl 3 (by omega))
    · rw [Nat.add_assoc]; rw [hc _ (by omega)]; rw [Ai_at hl]; exact (csA_get L i hl 4 (by omega))
    · rw [Nat.add_assoc]; rw [hc _ (by omega)]; rw [Ai_at hl]; exact (csA_get L i hl 5 (by omega))
    · rw [Nat.add_assoc]; rw [hc _ (by omega)]; rw [Ai_at hl]; exact (csA_get L i hl 6 (by omega))
    · rw [hp]; congr 1
      apply List.ext_getElem?
      intro f
      rw [Ai_at hl]
      by_cases hf : f < 7
      · rw [List.getElem?_take_of_lt hf, List.getElem?_drop]; exact csA_get L i hl f hf
      · rw [List.getElem?_eq_none (by simp; omega), List.getElem?_eq_none (by simp [Ac.c]; omega)]
end
theorem few_ok {n : Nat} (hn : 1 ≤ n) {h : Heap} {v : AV} {L : List Ac} (hi : Acs h v L) :
    WC (C n (.fn 32) [v] h) fun r h' => h' = h ∧ ∃ b, r = .bool b ∧ (b = true → L.length ≤ 60 ∧ ∀ i, i < L.length → (Ai L i).data.length ≤ 100 ∧ (Ai L i).other.length ≤ 100) := by
  obtain ⟨a, c, g, rfl⟩ := hi.sl
  obtain ⟨m, rfl⟩ : ∃ m, n = m + 1 := ⟨n - 1, by omega⟩
  refine call_fn _ f32A rfl (by simp [fn32]) fun QQ hQ => ?_
  simp only [fn32] at hQ
  simp only [fn32, fill_cons, fill_nil, Nat.zero_add, Nat.reduceAdd]
  simp only [F32, SS, Nat.reduceBEq, Nat.reduceEqDiff, Nat.reduceAdd, reduceIte, Nat.reduceMul]
  refine run_loop (c := c32_7) (I := fun m' tm' h' => ∃ i, i ≤ 70 ∧ m' = 70 - i ∧ i ≤ L.length ∧ h' = h ∧ (∀ j, j < i → (Ai L j).data.length ≤ 100 ∧ (Ai L j).other.length ≤ 100) ∧ tm'.gt 0 = some (.slice a L.length c g) ∧ tm'.gt 3 = some (I i) ∧ tm'.gt 33 = none) (n := 70)
    ⟨0, by omega, rfl, by omega, rfl, (fun j hj => by omega), by simp only [SS, Nat.reduceBEq], by simp only [SS, Nat.reduceBEq, Nat.reduceEqDiff, Nat.reduceAdd, reduceIte, Nat.reduceMul]; rfl, by simp only [SS, Nat.reduceBEq]⟩ (by omega) ?_
  rintro _ tm h1 ⟨i, hi7, rfl, hil, rfl, hno, t0, t3, t33⟩ Q1 hN1 hE
  by_cases hlt : i < L.length
  · have hlt' : (i : Int) < (L.length : Int) := by omega
    by_cases h70 : i < 70
    · have h70' : (i : Int) < 70 := by omega
      obtain ⟨b, o, rfl, i0, i1, i2, i3, i4, i5, i6, _⟩ := hi.at hlt
      have x2 := x_ia_60 (k := .i64) (b := b) (o := o) (c := c) (g := g) hlt
      by_cases d1 : 100 < (Ai L i).data.length
      · have d1' : (100 : Int) < ((Ai L i).data.length : Int) := by omega
        simp only [F32, SS, Nat.reduceBEq, Nat.reduceEqDiff, Nat.reduceAdd, reduceIte, Nat.reduceMul, t0, t3, x_len_60, hlt', h70', x2, x_fa_65_2, i2, x_len_9, d1', w_undef]
        refine hE _ _ _ (by simp) ?_
        simp only [SS, Nat.reduceBEq, Nat.reduceEqDiff, Nat.reduceAdd, reduceIte, Nat.reduceMul]
        refine hQ _ _ _ _ (.inr rfl) (by simp only [SS, Nat.reduceBEq, t33]) (by simp only [SS, Nat.reduceBEq, Nat.reduceEqDiff, Nat.reduceAdd, reduceIte, Nat.reduceMul]; rfl) ⟨rfl, false, rfl, fun h => by cases h⟩
      have d1' : ¬ (100 : Int) < ((Ai L i).data.length : Int) := by omega
      by_cases d2 : 100 < (Ai L i).other.length
      · have d2' : (100 : Int) < ((Ai L i).other.length : Int) := by omega
        simp only [F32, SS, Nat.reduceBEq, Nat.reduceEqDiff, Nat.reduceAdd, reduceIte, Nat.reduceMul, t0, t3, x_len_60, hlt', h70', x2, x_fa_65_2, i2, x_len_9, d1', x_fa_65_6, i6, d2', w_undef]
        refine hE _ _ _ (by simp) ?_
        simp only [SS, Nat.reduceBEq, Nat.reduceEqDiff, Nat.reduceAdd, reduceIte, Nat.reduceMul]
        refine hQ _ _ _ _ (.inr rfl) (by simp only [SS, Nat.reduceBEq, t33]) (by simp only [SS, Nat.reduceBEq, Nat.reduceEqDiff, Nat.reduceAdd, reduceIte, Nat.reduceMul]; rfl) ⟨rfl, false, rfl, fun h => by cases h⟩
      have d2' : ¬ (100 : Int) < ((Ai L i).other.length : Int) := by omega
      simp only [F32, SS, Nat.reduceBEq, Nat.reduceEqDiff, Nat.reduceAdd, reduceIte, Nat.reduceMul, t0, t3, x_len_60, hlt', h70', x2, x_fa_65_2, i2, x_len_9, d1', x_fa_65_6, i6, d2', w_undef, wAdd1 (show i ≤ 1000000 by omega)]
      refine hN1 _ _ (70 - (i + 1)) (by omega) ⟨i + 1, h70, rfl, hlt, rfl, fun j hj => ?_, by simp only [SS, Nat.reduceBEq, t0], by simp only [SS, Nat.reduceBEq], by simp only [SS, Nat.reduceBEq, t33]⟩
      by_cases e : j = i
      · subst e; exact ⟨by omega, by omega⟩
      · exact hno j (by omega)
    · have h70' : ¬ (i : Int) < 70 := by omega
      simp only [F32, SS, Nat.reduceBEq, Nat.reduceEqDiff, Nat.reduceAdd, reduceIte, Nat.reduceMul, t0, t3, x_len_60, hlt', h70', w_undef]
      refine hE _ _ _ (by simp) ?_
      simp only [F32, SS, Nat.reduceBEq, Nat.reduceEqDiff, Nat.reduceAdd, reduceIte, Nat.reduceMul, t0, x_len_60]
      refine hQ _ _ _ _ (.inr rfl) (by simp only [SS, Nat.reduceBEq, t33]) (by simp only [SS, Nat.reduceBEq, Nat.reduceEqDiff, Nat.reduceAdd, reduceIte, Nat.reduceMul]; rfl) ⟨rfl, _, rfl, fun h => ?_⟩
      have := of_decide_eq_true h
      omega
  · have hlt' : ¬ (i : Int) < (L.length : Int) := by omega
    simp only [F32, SS, Nat.reduceBEq, Nat.reduceEqDiff, Nat.reduceAdd, reduceIte, Nat.reduceMul, t0, t3, x_len_60, hlt', w_undef]
    refine hE _ _ _ (by simp) ?_
    simp only [F32, SS, Nat.reduceBEq, Nat.reduceEqDiff, Nat.reduceAdd, reduceIte, Nat.reduceMul, t0, x_len_60]
    refine hQ _ _ _ _ (.inr rfl) (by simp only [SS, Nat.reduceBEq, t33]) (by simp only [SS, Nat.reduceBEq, Nat.reduceEqDiff, Nat.reduceAdd, reduceIte, Nat.reduceMul]; rfl) ⟨rfl, _, rfl, fun h => ?_⟩
    have := of_decide_eq_true h
    exact ⟨by omega, fun j hj => hno j (by omega)⟩
end Go.Proofs.Ytlfednnfkejcjaa

namespace Go.Proofs.Ytlfednnfkejcjaa
open Go.Am
set_option maxRecDepth 10000
theorem TabAt.flt {h : Heap} {tb : Nat} {L : List Ch} {next : Int} {F : Nat → Prop} (ht : TabAt h tb L next F) : ∀ b, F b → b < h.next := by
  obtain ⟨mb, x, es, c, B, X, h1, h2, h3, h4, h5, h6, h7, h8, h9, rfl⟩ := ht.ex
  rintro b (rfl | rfl | rfl | ⟨i, hi, hb⟩)
  · exact ht.lt
  · exact h6
  · exact h4.lt
  · obtain ⟨S, _, _, h3⟩ := h4.ex
    obtain ⟨v, _, o⟩ := h3 i hi
    exact o.lt b hb
structure St (h : Heap) (tb rb : Nat) (L R : List Ch) (next : Int) (F : Nat → Prop) (bs : List Nat) : Prop where
  t : TabAt h tb L next F
  r : RefAt h rb R next bs
  rel : Rel L R
  dj : ∀ b, F b → ¬ RefF rb bs b
section
variable {h h1 h2 h3 : Heap} {tb rb : Nat} {L R L' R' : List Ch} {next next' : Int} {F F' : Nat → Prop} {bs bs' : List Nat}
theorem St.r2 (hs : St h1 tb rb L R next F bs) (s : Sm F h1 h2) : RefAt h2 rb R next bs := hs.r.sm s (fun h => hs.dj _ h (.inl rfl)) (fun b hb h => hs.dj _ h (.inr hb))
theorem St.no (hs : St h1 tb rb L R next F bs) (s : Sm NoB h1 h2) : St h2 tb rb L R next F bs := ⟨hs.t.sm s (fun _ _ h => h), hs.r.no s, hs.rel, hs.dj⟩
def StF (F : Nat → Prop) (rb : Nat) (bs : List Nat) : Nat → Prop := fun b => F b ∨ RefF rb bs b
theorem St.flt (hs : St h tb rb L R next F bs) : ∀ b, StF F rb bs b → b < h.next := fun b hb => hb.elim (hs.t.flt b) (hs.r.flt b)
structure Nx (h1 h3 : Heap) (tb rb : Nat) (L R : List Ch) (next : Int) (F : Nat → Prop) (bs : List Nat) (n : Nat) : Prop where
  ex : ∃ L' R' next' F' bs', St h3 tb rb L' R' next' F' bs' ∧ L'.length ≤ n + 1 ∧ ∀ b, StF F' rb bs' b → StF F rb bs b ∨ h1.next ≤ b
  sm : Sm (StF F rb bs) h1 h3
theorem St.step {n : Nat} (hs : St h1 tb rb L R next F bs) (s12 : Sm F h1 h2) (t2 : TabAt h2 tb L' next' F') (hF : ∀ b, F' b → F b ∨ h1.next ≤ b) (s23 : Sm (RefF rb bs) h2 h3) (r3 : RefAt h3 rb R' next' bs') (hb : ∀ b, b ∈ bs' → b ∈ bs ∨ h2.next ≤ b) (rel : Rel L' R') (hn : L'.length ≤ n + 1) : Nx h1 h3 tb rb L R next F bs n := by
  have hfr := hs.r.flt
  have hft := t2.flt
  have hn12 := s12.1
  have d2 : ∀ b, F' b → ¬ RefF rb bs b := by
    intro b hb h9
    rcases hF b hb with h8 | h8
    · exact hs.dj b h8 h9
    · have := hfr b h9; omega
  refine ⟨⟨L', R', next', F', bs', ⟨t2.sm s23 d2, r3, rel, ?_⟩, hn, ?_⟩, s12.trans s23 (fun c _ hc => .inl hc) (fun c _ hc => .inr hc)⟩
  · rintro b hb' (rfl | h9)
    · exact d2 b hb' (.inl rfl)
    · rcases hb b h9 with h8 | h8
      · exact d2 b hb' (.inr h8)
      · have := hft b hb'; omega
  · rintro b (h9 | rfl | h9)
    · exact (hF b h9).imp (fun h => .inl h) (fun h => h)
    · exact .inl (.inr (.inl rfl))
    · rcases hb b h9 with h8 | h8
      · exact .inl (.inr (.inr h8))
      · exact .inr (by omega)
theorem St.stay {n : Nat} (hs : St h1 tb rb L R next F bs) (s : Sm NoB h1 h3) (hn : L.length ≤ n + 1) : Nx h1 h3 tb rb L R next F bs n :=
  ⟨⟨L, R, next, F, bs, hs.no s, hn, fun b hb => .inl hb⟩, s.no⟩
theorem both_add {n : Nat} (hn : 6 ≤ n) (hs : St h tb rb L R next F bs) (hlen : L.length ≤ 900) {s : List Nat} (block : Int) (hl : s.length ≤ 1000) (hb : Byts s) :
    ∃ id e h2 h3, C n (.fn 17) [.ptr (some (tb, 0)), .str s, .int .i64 block] h = some (.tuple [u id, .int .i64 e], h2) ∧ C n (.fn 64) [.ptr (some (rb, 0)), .str s, .int .i64 block] h2 = some (.tuple [u id, .int .i64 e], h3) ∧ Sm F h h2 ∧ Nx h h3 tb rb L R next F bs L.length := by
  have hrl := hs.rel.len
  obtain ⟨B, t5⟩ := hs.t.ok
  have hnx := t5.next
  obtain ⟨r1, h2, e1, c1⟩ := tadd_full (by omega) hs.t block hl hb (by omega)
  have s12 : Sm F h h2 := by
    rcases c1 with ⟨_, _, s⟩ | ⟨_, ⟨_, _, s⟩ | ⟨_, ⟨_, _, s⟩ | ⟨_, _, F', _, s, _⟩⟩⟩
    · exact s.no
    · exact s.no
    · exact s.no
    · exact s
  obtain ⟨r2, h3, e2, c2⟩ := radd_ok (n := n) (by omega) (hs.r2 s12) hs.rel (by omega) hnx s block
  rcases c1 with ⟨b1, rfl, s1⟩ | ⟨b1, ⟨⟨c, q1⟩, rfl, s1⟩ | ⟨q1, ⟨q2, rfl, s1⟩ | ⟨q2, rfl, F', t2, _, f2⟩⟩⟩
  · rcases c2 with ⟨_, rfl, rfl⟩ | ⟨b2, _⟩
    · exact ⟨_, _, _, _, e1, e2, s12, hs.stay s1 (by omega)⟩
    · exact absurd b1 b2
  · rcases c2 with ⟨b2, _⟩ | ⟨_, ⟨_, rfl, rfl⟩ | ⟨k1, _⟩⟩
    · exact absurd b2 b1
    · exact ⟨_, _, _, _, e1, e2, s12, hs.stay s1 (by omega)⟩
    · rw [q1] at k1; cases k1
  · rcases c2 with ⟨b2, _⟩ | ⟨_, ⟨⟨_, k1⟩, _⟩ | ⟨_, ⟨_, rfl, rfl⟩ | ⟨k2, _⟩⟩⟩
    · exact absurd b2 b1
    · rw [q1] at k1; cases k1
    · exact ⟨_, _, _, _, e1, e2, s12, hs.stay s1 (by omega)⟩
    · exact absurd q2 k2
  · rcases c2 with ⟨b2, _⟩ | ⟨_, ⟨⟨_, k1⟩, _⟩ | ⟨_, ⟨k2, _⟩ | ⟨_, rfl, bs', r3, s23, hb3⟩⟩⟩
    · exact absurd b2 b1
    · rw [q1] at k1; cases k1
    · exact absurd k2 q2
    · exact ⟨_, _, _, _, e1, e2, s12, hs.step s12 t2 f2 (s23.mono fun c _ hc => .inl hc) r3 (fun b hb => .inr (hb3 b hb)) (hs.rel.add (tnoid hs.t) q1) (by simp)⟩
theorem both_load {n : Nat} (hn : 6 ≤ n) (hs : St h tb rb L R next F bs) (hlen : L.length ≤ 900) (id : Int) (hid : 0 ≤ id ∧ id ≤ 4294967295) {s : List Nat} (block refs : Int) (hl : s.length ≤ 1000) (hb : Byts s) :
    ∃ e h2 h3, C n (.fn 36) [.ptr (some (tb, 0)), u id, .str s, .int .i64 block, .int .i64 refs] h = some (.int .i64 e, h2) ∧ C n (.fn 65) [.ptr (some (rb, 0)), .agg [u id, .str s, .int .i64 block, .int .i64 refs]] h2 = some (.int .i64 e, h3) ∧ Sm F h h2 ∧ Nx h h3 tb rb L R next F bs L.length := by
  have hrl := hs.rel.len
  obtain ⟨r1, h2, e1, c1⟩ := tload_ok (by omega) hs.t id hid block refs hl hb (by omega)
  have s12 : Sm F h h2 := by
    rcases c1 with ⟨_, _, s⟩ | ⟨_, ⟨_, _, s⟩ | ⟨_, ⟨_, _, s⟩ | ⟨_, _, _, F', _, s, _⟩⟩⟩
    · exact s.no
    · exact s.no
    · exact s.no
    · exact s
  obtain ⟨r2, h3, e2, c2⟩ := rload_ok (n := n) (by omega) (hs.r2 s12) hs.rel (by omega) id hid s block refs
  rcases c1 with ⟨b1, rfl, s1⟩ | ⟨b1, ⟨q1, rfl, s1⟩ | ⟨q1, ⟨q2, rfl, s1⟩ | ⟨q2, q3, rfl, F', t2, _, f2⟩⟩⟩
  · rcases c2 with ⟨_, rfl, s2⟩ | ⟨b2, _⟩
    · exact ⟨_, _, _, e1, e2, s12, hs.stay (s1.trans s2 (fun _ _ h => h) (fun _ _ h => h)) (by omega)⟩
    · exact absurd b1 b2
  · rcases c2 with ⟨b2, _⟩ | ⟨_, ⟨_, rfl, s2⟩ | ⟨k1, _⟩⟩
    · exact absurd b2 b1
    · exact ⟨_, _, _, e1, e2, s12, hs.stay (s1.trans s2 (fun _ _ h => h) (fun _ _ h => h)) (by omega)⟩
    · exact absurd q1 k1
  · rcases c2 with ⟨b2, _⟩ | ⟨_, ⟨k1, _⟩ | ⟨_, ⟨_, rfl, s2⟩ | ⟨k2, k3, _⟩⟩⟩
    · exact absurd b2 b1
    · exact absurd k1 q1
    · exact ⟨_, _, _, e1, e2, s12, hs.stay (s1.trans s2 (fun _ _ h => h) (fun _ _ h => h)) (by omega)⟩
    · rcases q2 with ⟨c, q2⟩ | ⟨c, q2⟩
      · rw [q2] at k2; cases k2
      · rw [q2] at k3; cases k3
  · rcases c2 with ⟨b2, _⟩ | ⟨_, ⟨k1, _⟩ | ⟨_, ⟨k2, _⟩ | ⟨_, _, rfl, bs', r3, s23, hb3⟩⟩⟩
    · exact absurd b2 b1
    · exact absurd k1 q1
    · rcases k2 with ⟨c, k2⟩ | ⟨c, k2⟩
      · rw [q2] at k2; cases k2
      · rw [q3] at k2; cases k2
    · exact ⟨_, _, _, e1, e2, s12, hs.step s12 t2 f2 (s23.mono fun c _ hc => .inl hc) r3 (fun b hb => .inr (hb3 b hb)) (hs.rel.add (x := ⟨id, s, block, refs⟩) q2 q3) (by simp)⟩
theorem St.refs (hs : St h tb rb L R next F bs) : ∀ c, c ∈ L → 1 ≤ c.refs ∧ c.refs ≤ 65535 := by
  obtain ⟨B, t5⟩ := hs.t.ok
  intro c hc
  exact ⟨(t5.ch c hc).2.2.2.2.2.1, (t5.ch c hc).2.2.2.2.2.2⟩
theorem both_hold {n : Nat} (hn : 6 ≤ n) (hs : St h tb rb L R next F bs) (hlen : L.length ≤ 900) (id : Int) :
    ∃ e h2 h3, C n (.fn 16) [.ptr (some (tb, 0)), u id] h = some (.int .i64 e, h2) ∧ C n (.fn 66) [.ptr (some (rb, 0)), u id] h2 = some (.int .i64 e, h3) ∧ Sm F h h2 ∧ Nx h h3 tb rb L R next F bs L.length := by
  have hrl := hs.rel.len
  obtain ⟨r1, h2, e1, c1⟩ := hold_full (n := n) (by omega) hs.t id
  have s12 : Sm F h h2 := by
    rcases c1 with ⟨_, _, s⟩ | ⟨_, _, ⟨_, _, s⟩ | ⟨_, _, _, s⟩⟩
    · exact s.no
    · exact s.no
    · exact s
  obtain ⟨r2, h3, e2, c2⟩ := rhold_ok (n := n) (by omega) (hs.r2 s12) hs.rel (by omega) hs.refs id
  rcases c1 with ⟨b1, rfl, s1⟩ | ⟨c, b1, ⟨q1, rfl, s1⟩ | ⟨q1, rfl, t2, _⟩⟩
  · rcases c2 with ⟨_, rfl, rfl⟩ | ⟨_, b2, _⟩
    · exact ⟨_, _, _, e1, e2, s12, hs.stay s1 (by omega)⟩
    · rw [b1] at b2; cases b2
  · rcases c2 with ⟨b2, _⟩ | ⟨c', b2, ⟨_, rfl, rfl⟩ | ⟨k1, _⟩⟩
    · rw [b1] at b2; cases b2
    · exact ⟨_, _, _, e1, e2, s12, hs.stay s1 (by omega)⟩
    · rw [b1] at b2; cases b2; exact absurd q1 k1
  · rcases c2 with ⟨b2, _⟩ | ⟨c', b2, ⟨k1, _⟩ | ⟨_, rfl, i, hi, r3, s23⟩⟩
    · rw [b1] at b2; cases b2
    · rw [b1] at b2; cases b2; exact absurd k1 q1
    · rw [b1] at b2; cases b2
      have hg : gtL L ({ c with refs := c.refs + 1 } : Ch).id = some c := by show gtL L c.id = _; rw [(gt_some b1).2]; exact b1
      exact ⟨_, _, _, e1, e2, s12, hs.step s12 t2 (fun b hb => .inl hb) (s23.mono fun c _ hc => .inr hc) r3 (fun b hb => .inl hb) (hs.rel.upd hg rfl hi) (by rw [(putC_upd _ hg rfl).2.2.1]; omega)⟩
theorem both_rel {n : Nat} (hn : 6 ≤ n) (hs : St h tb rb L R next F bs) (hlen : L.length ≤ 900) (id : Int) :
    ∃ x e h2 h3, C n (.fn 15) [.ptr (some (tb, 0)), u id] h = some (.tuple [.bool x, .int .i64 e], h2) ∧ C n (.fn 67) [.ptr (some (rb, 0)), u id] h2 = some (.tuple [.bool x, .int .i64 e], h3) ∧ Sm F h h2 ∧ Nx h h3 tb rb L R next F bs L.length := by
  have hrl := hs.rel.len
  obtain ⟨r1, h2, e1, c1⟩ := release_full (n := n) (by omega) hs.t id
  have s12 : Sm F h h2 := by
    rcases c1 with ⟨_, _, s⟩ | ⟨_, _, s, _⟩
    · exact s.no
    · exact s
  obtain ⟨r2, h3, e2, c2⟩ := rrel_ok (n := n) (by omega) (hs.r2 s12) hs.rel (by omega) hs.refs id
  rcases c1 with ⟨b1, rfl, s1⟩ | ⟨c, b1, _, ⟨q1, rfl, t2⟩ | ⟨q1, rfl, F', t2, f2⟩⟩
  · rcases c2 with ⟨_, rfl, rfl⟩ | ⟨_, _, b2, _⟩
    · exact ⟨_, _, _, _, e1, e2, s12, hs.stay s1 (by omega)⟩
    · rw [b1] at b2; cases b2
  · rcases c2 with ⟨b2, _⟩ | ⟨c', i, b2, hi, ⟨_, rfl, r3, s23⟩ | ⟨k1, _⟩⟩
    · rw [b1] at b2; cases b2
    · rw [b1] at b2; cases b2
      have hg : gtL L ({ c with refs := c.refs - 1 } : Ch).id = some c := by show gtL L c.id = _; rw [(gt_some b1).2]; exact b1
      exact ⟨_, _, _, _, e1, e2, s12, hs.step s12 t2 (fun b hb => .inl hb) s23 r3 (fun b hb => .inl hb) (hs.rel.upd hg rfl hi) (by rw [(putC_upd _ hg rfl).2.2.1]; omega)⟩
    · rw [b1] at b2; cases b2; exact absurd q1 k1
  · rcases c2 with ⟨b2, _⟩ | ⟨c', i, b2, hi, ⟨k1, _⟩ | ⟨_, rfl, bs', r3, s23, hb3⟩⟩
    · rw [b1] at b2; cases b2
    · rw [b1] at b2; cases b2; exact absurd k1 q1
    · rw [b1] at b2; cases b2
      exact ⟨_, _, _, _, e1, e2, s12, hs.step s12 t2 (fun b hb => .inl (f2 b hb)) s23 r3 (fun b hb => .inr (hb3 b hb)) (hs.rel.cut b1 hi) (by have := cutC_len b1; omega)⟩
theorem both_skip {n : Nat} (hn : 6 ≤ n) (hs : St h tb rb L R next F bs) (x : Int) (hx : 0 ≤ x ∧ x ≤ 4294967295) :
    ∃ r1 r2 h2 h3, C n (.fn 37) [.ptr (some (tb, 0)), u x] h = some (r1, h2) ∧ C n (.fn 68) [.ptr (some (rb, 0)), u x] h2 = some (r2, h3) ∧ Sm F h h2 ∧ Nx h h3 tb rb L R next F bs L.length := by
  obtain ⟨r1, h2, e1, t2, s12⟩ := tskip_ok (n := n) (by omega) hs.t x hx
  obtain ⟨r2, h3, e2, r3, s23⟩ := rskip_ok (n := n) (by omega) (hs.r2 s12) x
  exact ⟨_, _, _, _, e1, e2, s12, hs.step s12 t2 (fun b hb => .inl hb) (s23.mono fun c _ hc => .inl hc) r3 (fun b hb => .inl hb) hs.rel (by omega)⟩
end
end Go.Proofs.Ytlfednnfkejcjaa

namespace Go.Proofs.Ytlfednnfkejcjaa
open Go.Am
set_option maxRecDepth 10000
def Ac.Ok (x : Ac) : Prop := (0 ≤ x.id ∧ x.id ≤ 4294967295) ∧ Byts x.data ∧ Byts x.other ∧ (0 ≤ x.ask ∧ x.ask ≤ 4294967295) ∧ x.data.length ≤ 100 ∧ x.other.length ≤ 100
section
variable {h h1 h3 : Heap} {tb rb : Nat} {L R : List Ch} {next : Int} {F : Nat → Prop} {bs : List Nat}
theorem Nx.pre {n : Nat} (s : Sm NoB h h1) (x : Nx h1 h3 tb rb L R next F bs n) : Nx h h3 tb rb L R next F bs n := by
  obtain ⟨⟨L', R', next', F', bs', a, b, c⟩, d⟩ := x
  exact ⟨⟨L', R', next', F', bs', a, b, fun q hq => (c q hq).imp (fun h => h) (fun h => Nat.le_trans s.1 h)⟩, s.trans d (fun _ _ h => h.elim) (fun _ _ h => h)⟩
theorem one_ok {n : Nat} (hn : 7 ≤ n) (hs : St h tb rb L R next F bs) (hlen : L.length ≤ 900) (a : Ac) (ok : a.Ok) :
    WC (C n (.fn 43) [.ptr (some (tb, 0)), .ptr (some (rb, 0)), .agg a.c] h) fun r h' => r = .bool true ∧ Nx h h' tb rb L R next F bs L.length := by
  obtain ⟨hid, hbd, _, _, hld, _⟩ := ok
  obtain ⟨m, rfl⟩ : ∃ m, n = m + 1 := ⟨n - 1, by omega⟩
  refine call_fn _ f43A rfl (by simp [fn43]) fun QQ hQ => ?_
  simp only [fn43] at hQ
  simp only [fn43, fill_cons, fill_nil, Nat.zero_add, Nat.reduceAdd]
  obtain ⟨h1, e1, rx, n1, g1⟩ := Rw.alloc h (id := h.next) (n := 7) (vs := a.c) (z := []) (ro := false) (Nat.le_refl _) rfl
  have s1 : Sm NoB h h1 := ⟨by omega, fun c hc _ => g1 c (by omega)⟩
  have hft := hs.t.flt
  have hs1 := hs.no s1
  have i0 := rx.ld1 0
  have i1 := rx.ld1 1
  have i2 := rx.ld1 2
  have i3 := rx.ld1 3
  have i4 := rx.ld1 4
  unfold Ac.c at e1 i0 i1 i2 i3 i4
  simp only [List.getElem?_cons_zero, List.getElem?_cons_succ] at i0 i1 i2 i3 i4
  obtain ⟨q, hq⟩ : ∃ q, q = a.what.tmod 9 := ⟨_, rfl⟩
  have hrem : bin2 P .rem 5 (.int .u8 a.what) (.int .u8 9) = some (.int .u8 q) := by rw [hq]; exact b_rem (by decide)
  have back : ∀ h2, Sm F h1 h2 → ∀ j, h2.ld1 h.next j = h1.ld1 h.next j := by
    intro h2 s j
    rw [(rx.sm s (by omega) (fun h9 => by have := hft _ h9; omega)).ld1, rx.ld1]
  have T : ∀ k : Int, q = k → ∀ j : Int, j = k → decide (q = j) = true := fun k h j e => by subst e; exact decide_eq_true h
  have N : ∀ k : Int, q = k → ∀ j : Int, j ≠ k → decide (q = j) = false := fun k h j e => decide_eq_false (by omega)
  by_cases q0 : q = 0
  · obtain ⟨id, e, h2, h3, ea, eb, s12, nx⟩ := both_add (n := m) (by omega) hs1 hlen (s := a.data) a.block (by omega) hbd
    have b2 := back h2 s12
    simp only [F43, SS, Nat.reduceBEq, Nat.reduceEqDiff, Nat.reduceAdd, reduceIte, Nat.reduceMul, e1, Ac.c, x_fa_65_0, x_fa_65_1, x_fa_65_2, x_fa_65_3, x_fa_65_4, i0, i1, i2, i3, i4, hrem, T 0 q0 0 rfl, ea, eb, b2]
    refine hQ _ _ _ _ (.inr rfl) (by simp only [SS, Nat.reduceBEq]) (by simp only [SS, Nat.reduceBEq, Nat.reduceEqDiff, Nat.reduceAdd, reduceIte, Nat.reduceMul]; rfl) ?_
    exact ⟨rfl, nx.pre s1⟩
  by_cases q1 : q = 1
  · obtain ⟨id, e, h2, h3, ea, eb, s12, nx⟩ := both_add (n := m) (by omega) hs1 hlen (s := a.data) a.block (by omega) hbd
    have b2 := back h2 s12
    simp only [F43, SS, Nat.reduceBEq, Nat.reduceEqDiff, Nat.reduceAdd, reduceIte, Nat.reduceMul, e1, Ac.c, x_fa_65_0, x_fa_65_1, x_fa_65_2, x_fa_65_3, x_fa_65_4, i0, i1, i2, i3, i4, hrem, N 1 q1 0 (by decide), T 1 q1 1 rfl, ea, eb, b2]
    refine hQ _ _ _ _ (.inr rfl) (by simp only [SS, Nat.reduceBEq]) (by simp only [SS, Nat.reduceBEq, Nat.reduceEqDiff, Nat.reduceAdd, reduceIte, Nat.reduceMul]; rfl) ?_
    exact ⟨rfl, nx.pre s1⟩
  by_cases q2 : q = 2
  · obtain ⟨id, e, h2, h3, ea, eb, s12, nx⟩ := both_add (n := m) (by omega) hs1 hlen (s := a.data) a.block (by omega) hbd
    have b2 := back h2 s12
    simp only [F43, SS, Nat.reduceBEq, Nat.reduceEqDiff, Nat.reduceAdd, reduceIte, Nat.reduceMul, e1, Ac.c, x_fa_65_0, x_fa_65_1, x_fa_65_2, x_fa_65_3, x_fa_65_4, i0, i1, i2, i3, i4, hrem, N 2 q2 0 (by decide), N 2 q2 1 (by decide), T 2 q2 2 rfl, ea, eb, b2]
    refine hQ _ _ _ _ (.inr rfl) (by simp only [SS, Nat.reduceBEq]) (by simp only [SS, Nat.reduceBEq, Nat.reduceEqDiff, Nat.reduceAdd, reduceIte, Nat.reduceMul]; rfl) ?_
    exact ⟨rfl, nx.pre s1⟩
  have d0 : decide (q = 0) = false := decide_eq_false q0
  have d1 : decide (q = 1) = false := decide_eq_false q1
  have d2 : decide (q = 2) = false := decide_eq_false q2
  by_cases q3 : q = 3
  · obtain ⟨e, h2, h3, ea, eb, s12, nx⟩ := both_load (n := m) (by omega) hs1 hlen a.id hid (s := a.data) a.block a.refs (by omega) hbd
    have b2 := back h2 s12
    simp only [F43, SS, Nat.reduceBEq, Nat.reduceEqDiff, Nat.reduceAdd, reduceIte, Nat.reduceMul, e1, Ac.c, x_fa_65_0, x_fa_65_1, x_fa_65_2, x_fa_65_3, x_fa_65_4, i0, i1, i2, i3, i4, hrem, d0, d1, d2, T 3 q3 3 rfl, ea, x_bd_114_0_1_2_3, eb, b2]
    refine hQ _ _ _ _ (.inr rfl) (by simp only [SS, Nat.reduceBEq]) (by simp only [SS, Nat.reduceBEq, Nat.reduceEqDiff, Nat.reduceAdd, reduceIte, Nat.reduceMul]; rfl) ?_
    exact ⟨rfl, nx.pre s1⟩
  have d3 : decide (q = 3) = false := decide_eq_false q3
  by_cases q4 : q = 4
  · obtain ⟨e, h2, h3, ea, eb, s12, nx⟩ := both_hold (n := m) (by omega) hs1 hlen a.id
    have b2 := back h2 s12
    simp only [F43, SS, Nat.reduceBEq, Nat.reduceEqDiff, Nat.reduceAdd, reduceIte, Nat.reduceMul, e1, Ac.c, x_fa_65_0, x_fa_65_1, x_fa_65_2, x_fa_65_3, x_fa_65_4, i0, i1, i2, i3, i4, hrem, d0, d1, d2, d3, T 4 q4 4 rfl, ea, eb, b2]
    refine hQ _ _ _ _ (.inr rfl) (by simp only [SS, Nat.reduceBEq]) (by simp only [SS, Nat.reduceBEq, Nat.reduceEqDiff, Nat.reduceAdd, reduceIte, Nat.reduceMul]; rfl) ?_
    exact ⟨rfl, nx.pre s1⟩
  have d4 : decide (q = 4) = false := decide_eq_false q4
  by_cases q5 : q = 5
  · obtain ⟨x, e, h2, h3, ea, eb, s12, nx⟩ := both_rel (n := m) (by omega) hs1 hlen a.id
    have b2 := back h2 s12
    simp only [F43, SS, Nat.reduceBEq, Nat.reduceEqDiff, Nat.reduceAdd, reduceIte, Nat.reduceMul, e1, Ac.c, x_fa_65_0, x_fa_65_1, x_fa_65_2, x_fa_65_3, x_fa_65_4, i0, i1, i2, i3, i4, hrem, d0, d1, d2, d3, d4, T 5 q5 5 rfl, ea, eb, b2, x_eq_4, beq_self_eq_true]
    refine hQ _ _ _ _ (.inr rfl) (by simp only [SS, Nat.reduceBEq]) (by simp only [SS, Nat.reduceBEq, Nat.reduceEqDiff, Nat.reduceAdd, reduceIte, Nat.reduceMul]; rfl) ?_
    exact ⟨rfl, nx.pre s1⟩
  have d5 : decide (q = 5) = false := decide_eq_false q5
  by_cases q6 : q = 6
  · obtain ⟨x, e, h2, h3, ea, eb, s12, nx⟩ := both_rel (n := m) (by omega) hs1 hlen a.id
    have b2 := back h2 s12
    simp only [F43, SS, Nat.reduceBEq, Nat.reduceEqDiff, Nat.reduceAdd, reduceIte, Nat.reduceMul, e1, Ac.c, x_fa_65_0, x_fa_65_1, x_fa_65_2, x_fa_65_3, x_fa_65_4, i0, i1, i2, i3, i4, hrem, d0, d1, d2, d3, d4, d5, T 6 q6 6 rfl, ea, eb, b2, x_eq_4, beq_self_eq_true]
    refine hQ _ _ _ _ (.inr rfl) (by simp only [SS, Nat.reduceBEq]) (by simp only [SS, Nat.reduceBEq, Nat.reduceEqDiff, Nat.reduceAdd, reduceIte, Nat.reduceMul]; rfl) ?_
    exact ⟨rfl, nx.pre s1⟩
  have d6 : decide (q = 6) = false := decide_eq_false q6
  by_cases q7 : q = 7
  · obtain ⟨_, _, h2, h3, ea, eb, s12, nx⟩ := both_skip (n := m) (by omega) hs1 a.id hid
    have b2 := back h2 s12
    simp only [F43, SS, Nat.reduceBEq, Nat.reduceEqDiff, Nat.reduceAdd, reduceIte, Nat.reduceMul, e1, Ac.c, x_fa_65_0, x_fa_65_1, x_fa_65_2, x_fa_65_3, x_fa_65_4, i0, i1, i2, i3, i4, hrem, d0, d1, d2, d3, d4, d5, d6, T 7 q7 7 rfl, ea, eb, b2]
    refine hQ _ _ _ _ (.inr rfl) (by simp only [SS, Nat.reduceBEq]) (by simp only [SS, Nat.reduceBEq, Nat.reduceEqDiff, Nat.reduceAdd, reduceIte, Nat.reduceMul]; rfl) ?_
    exact ⟨rfl, nx.pre s1⟩
  have d7 : decide (q = 7) = false := decide_eq_false q7
  simp only [F43, SS, Nat.reduceBEq, Nat.reduceEqDiff, Nat.reduceAdd, reduceIte, Nat.reduceMul, e1, Ac.c, x_fa_65_0, x_fa_65_1, x_fa_65_2, x_fa_65_3, x_fa_65_4, i0, i1, i2, i3, i4, hrem, d0, d1, d2, d3, d4, d5, d6, d7]
  refine hQ _ _ _ _ (.inr rfl) (by simp only [SS, Nat.reduceBEq]) (by simp only [SS, Nat.reduceBEq, Nat.reduceEqDiff, Nat.reduceAdd, reduceIte, Nat.reduceMul]; rfl) ?_
  exact ⟨rfl, (hs1.stay (Sm.refl _ _) (by omega)).pre s1⟩
end
end Go.Proofs.Ytlfednnfkejcjaa

namespace Go.Proofs.Ytlfednnfkejcjaa
open Go.Am
set_option maxRecDepth 10000
theorem ep_int {d t : Nat} {k : IntKind} {a : Int} (hu : P.underlying t = some (.int k)) : eqPlain P (d + 1) t (.int k a) (.int k a) = some true := by
  unfold eqPlain
  rw [hu]
  show (if k = k then some (eqI a a) else none) = _
  rw [if_pos rfl, eqI_eq]; simp
theorem ep_str {d t : Nat} {s : List Nat} (hu : P.underlying t = some .string) : eqPlain P (d + 1) t (.str s) (.str s) = some true := by
  unfold eqPlain
  rw [hu]
  show some (strEq s s) = _
  rw [strEq_eq]; simp
noncomputable def fs114 : Array Field := match P.underlying 114 with
  | some (.struct fs) => fs
  | _ => #[]
theorem un114 : P.underlying 114 = some (.struct fs114) := by kernel_rfl
theorem ef114 (eq : TypeId → AV → AV → Option Bool) (a b c d a' b' c' d' : AV) (h1 : eq 27 a a' = some true) (h2 : eq 9 b b' = some true) (h3 : eq 3 c c' = some true) (h4 : eq 3 d d' = some true) : eqFields P eq fs114.toList [a, b, c, d] [a', b', c', d'] = some true := by
  have h0 : eqFields P eq fs114.toList [a, b, c, d] [a', b', c', d'] = (match eq 27 a a' with | some true => (match eq 9 b b' with | some true => (match eq 3 c c' with | some true => (match eq 3 d d' with | some true => some true | r => r) | r => r) | r => r) | r => r) := by kernel_rfl
  rw [h0, h1]
  simp only [h2, h3, h4]
theorem x_ne_114 (a : Int) (s : List Nat) (b c : Int) : bin2 P .neq 114 (.agg [.int .u32 a, .str s, .int .i64 b, .int .i64 c]) (.agg [.int .u32 a, .str s, .int .i64 b, .int .i64 c]) = some (.bool false) := by
  have h : eqPlain P 50 114 (.agg [.int .u32 a, .str s, .int .i64 b, .int .i64 c]) (.agg [.int .u32 a, .str s, .int .i64 b, .int .i64 c]) = some true := by
    unfold eqPlain
    rw [un114]
    show (if P.stoodInHeld 114 = true then none else eqFields P (eqPlain P 49) fs114.toList _ _) = _
    rw [if_neg (by rw [show P.stoodInHeld 114 = false by kernel_rfl]; decide)]
    exact ef114 _ _ _ _ _ _ _ _ _ (ep_int (by kernel_rfl)) (ep_str (by kernel_rfl)) (ep_int (by kernel_rfl)) (ep_int (by kernel_rfl))
  show Option.rec (motive := fun _ => Option AV) none (fun b => yesB (notB b)) (iff' (notB (P.eqGuardType P.depth 114)) (eqPlain P 50 114 _ _)) = _
  rw [show P.eqGuardType P.depth 114 = false by kernel_rfl, h]
  rfl
theorem same_refl_slice (a : Option (Nat × Nat)) (n c : Nat) (g : Option Nat) : AV.same (.slice a n c g) (.slice a n c g) = true := by simp [AV.same]
theorem same_refl_int (k : IntKind) (n : Int) : AV.same (.int k n) (.int k n) = true := by simp [AV.same]
section
variable {h h1 h3 : Heap} {tb rb : Nat} {L R : List Ch} {next : Int} {F : Nat → Prop} {bs : List Nat}
theorem alike_ok {n : Nat} (hn : 6 ≤ n) (hs : St h tb rb L R next F bs) (hlen : L.length ≤ 900) (id : Int) {s : List Nat} (hl : s.length ≤ 1000) (hb : Byts s) :
    WC (C n (.fn 44) [.ptr (some (tb, 0)), .ptr (some (rb, 0)), u id, .str s] h) fun r h' => r = .bool true ∧ Sm NoB h h' := by
  have hrl := hs.rel.len
  obtain ⟨m, rfl⟩ : ∃ m, n = m + 1 := ⟨n - 1, by omega⟩
  refine call_fn _ f44A rfl (by simp [fn44]) fun QQ hQ => ?_
  simp only [fn44] at hQ
  simp only [fn44, fill_cons, fill_nil, Nat.zero_add, Nat.reduceAdd]
  obtain ⟨_, h1, e1, s1, rfl⟩ := tget_ok (n := m) (by omega) hs.t id
  have hs1 := hs.no s1
  obtain ⟨ra, h1', e2, rfl, hA⟩ := rat_ok (n := m) (by omega) hs1.r (by omega) id
  have hA := firstI hs.rel hA
  obtain ⟨rf, h1', e3, rfl, hF⟩ := rfd_ok (n := m) (by omega) hs1.r (by omega) s
  have hF := firstD hs.rel hF
  obtain ⟨_, h2, e4, s2, rfl⟩ := tFind_ok (n := m) (by omega) hs1.t (s := s) hl hb
  obtain ⟨h3, eb, sb, bb, nb⟩ := Sm.bump h2 47
  have hs3 := (hs1.no s2).no sb
  obtain ⟨_, h4, e5, e6, rfl⟩ := count_ok (n := m) (by omega) hs3.t
  subst e6
  obtain ⟨_, h4', e7, e6, rfl⟩ := tnext_ok (n := m) (by omega) hs3.t
  subst e6
  have key : ∀ {h : Heap}, RefAt h rb R next bs → ∃ a c g, h.ld1 rb 0 = some (.slice a R.length c g) ∧ h.ld1 rb 1 = some (u next) ∧ Chs h (.slice a R.length c g) R := by
    intro h hr
    obtain ⟨v, r1, o1⟩ := hr.ex
    obtain ⟨a, c, g, rfl⟩ := Chs.sl (els_R o1.els)
    exact ⟨a, c, g, r1.ld1 0, r1.ld1 1, els_R o1.els⟩
  obtain ⟨a1, c1, g1, l10, l11, ch1⟩ := key hs1.r
  obtain ⟨a3, c3, g3, l30, l31, ch3⟩ := key hs3.r
  have sF : Sm NoB h h4' := (s1.trans s2 (fun _ _ h => h) (fun _ _ h => h)).trans sb (fun _ _ h => h) (fun _ _ h => h)
  have hlen' : (L.length : Int) = (R.length : Int) := by omega
  rw [hlen'] at e5
  have dm : ¬ (0 : Int) ≤ -1 := by decide
  have dn : (-1 : Int) < 0 := by decide
  cases hg : gtL L id with
  | none =>
    rw [hg] at hA e1
    subst hA
    simp only at e1
    cases hd : fdL L s with
    | none =>
      rw [hd] at hF e4
      subst hF
      simp only at e4
      simp only [F44, SS, Nat.reduceBEq, Nat.reduceEqDiff, Nat.reduceAdd, reduceIte, Nat.reduceMul, e1, e2, e3, e4, dn, dm, eb, x_eq_4, e5, e7, x_fa_109_0, x_fa_109_1, l30, l31, x_len_107, w_undef, same_refl_slice, same_refl_int, and'_eq, iff'_true, Bool.and_true, beq_self_eq_true]
      refine hQ _ _ _ _ (.inr rfl) (by simp only [SS, Nat.reduceBEq]) (by simp only [SS, Nat.reduceBEq, Nat.reduceEqDiff, Nat.reduceAdd, reduceIte, Nat.reduceMul]; rfl) ?_
      exact ⟨rfl, sF⟩
    | some d =>
      rw [hd] at hF e4
      obtain ⟨k, hk, rfl⟩ := hF
      simp only at e4
      obtain ⟨k1, k2⟩ := List.getElem?_eq_some_iff.1 hk
      obtain ⟨b, o, rfl, j0, _⟩ := ch3.at k1
      rw [Ri_at k1, k2] at j0
      have dk : (0 : Int) ≤ (k : Int) := by omega
      simp only [F44, SS, Nat.reduceBEq, Nat.reduceEqDiff, Nat.reduceAdd, reduceIte, Nat.reduceMul, e1, e2, e3, e4, dn, dm, dk, eb, x_eq_4, e5, e7, x_fa_109_0, x_fa_109_1, l30, l31, x_len_107, x_ia_107 k1, x_fa_114_0, j0, w_undef, same_refl_slice, same_refl_int, and'_eq, iff'_true, Bool.and_true, beq_self_eq_true]
      refine hQ _ _ _ _ (.inr rfl) (by simp only [SS, Nat.reduceBEq]) (by simp only [SS, Nat.reduceBEq, Nat.reduceEqDiff, Nat.reduceAdd, reduceIte, Nat.reduceMul]; rfl) ?_
      exact ⟨rfl, sF⟩
  | some c =>
    rw [hg] at hA e1
    obtain ⟨i, hi, rfl⟩ := hA
    simp only at e1
    obtain ⟨i1, i2⟩ := List.getElem?_eq_some_iff.1 hi
    obtain ⟨b1, o1, rfl, _, _, _, _, j4⟩ := ch1.at i1
    rw [Ri_at i1, i2] at j4
    unfold Ch.rc at j4
    have di : (0 : Int) ≤ (i : Int) := by omega
    have di' : ¬ (i : Int) < 0 := by omega
    have hcid := (gt_some hg).2
    rw [← hcid] at e1 e2 ⊢
    cases hd : fdL L s with
    | none =>
      rw [hd] at hF e4
      subst hF
      simp only at e4
      simp only [F44, SS, Nat.reduceBEq, Nat.reduceEqDiff, Nat.reduceAdd, reduceIte, Nat.reduceMul, e1, e2, e3, e4, dn, dm, di, di', eb, x_eq_4, e5, e7, x_fa_109_0, x_fa_109_1, l10, l30, l31, x_len_107, x_ia_107 i1, j4, x_bd_114_0_1_2_3, x_ne_114, w_undef, same_refl_slice, same_refl_int, and'_eq, iff'_true, Bool.and_true, beq_self_eq_true]
      refine hQ _ _ _ _ (.inr rfl) (by simp only [SS, Nat.reduceBEq]) (by simp only [SS, Nat.reduceBEq, Nat.reduceEqDiff, Nat.reduceAdd, reduceIte, Nat.reduceMul]; rfl) ?_
      exact ⟨rfl, sF⟩
    | some d =>
      rw [hd] at hF e4
      obtain ⟨k, hk, rfl⟩ := hF
      simp only at e4
      obtain ⟨k1, k2⟩ := List.getElem?_eq_some_iff.1 hk
      obtain ⟨b, o, rfl, j0, _⟩ := ch3.at k1
      rw [Ri_at k1, k2] at j0
      have dk : (0 : Int) ≤ (k : Int) := by omega
      simp only [F44, SS, Nat.reduceBEq, Nat.reduceEqDiff, Nat.reduceAdd, reduceIte, Nat.reduceMul, e1, e2, e3, e4, dn, dm, di, di', dk, eb, x_eq_4, e5, e7, x_fa_109_0, x_fa_109_1, l10, l30, l31, x_len_107, x_ia_107 i1, j4, x_bd_114_0_1_2_3, x_ne_114, x_ia_107 k1, x_fa_114_0, j0, w_undef, same_refl_slice, same_refl_int, and'_eq, iff'_true, Bool.and_true, beq_self_eq_true]
      refine hQ _ _ _ _ (.inr rfl) (by simp only [SS, Nat.reduceBEq]) (by simp only [SS, Nat.reduceBEq, Nat.reduceEqDiff, Nat.reduceAdd, reduceIte, Nat.reduceMul]; rfl) ?_
      exact ⟨rfl, sF⟩
end
end Go.Proofs.Ytlfednnfkejcjaa

namespace Go.Proofs.Ytlfednnfkejcjaa
open Go.Am
set_option maxRecDepth 10000
section
variable {h h1 h3 : Heap} {tb rb : Nat} {L R : List Ch} {next : Int} {F : Nat → Prop} {bs : List Nat}
theorem keys_ok {n : Nat} (hn : 1 ≤ n) {mb : Nat} : WC (C n (.fn 89) [.map (some mb)] h) fun r h' => ∃ cb, r = .func (.func 103) [] [.ptr (some (cb, 0))] ∧ h'.ld1 cb 0 = some (.map (some mb)) ∧ Sm NoB h h' := by
  obtain ⟨m, rfl⟩ : ∃ m, n = m + 1 := ⟨n - 1, by omega⟩
  refine call_fn _ f89A rfl (by simp [fn89]) fun QQ hQ => ?_
  simp only [fn89] at hQ
  simp only [fn89, fill_cons, fill_nil, Nat.zero_add, Nat.reduceAdd]
  obtain ⟨h1, e1, rx, n1, g1⟩ := Rw.alloc h (id := h.next) (n := 1) (vs := [.map (some mb)]) (z := []) (ro := false) (Nat.le_refl _) rfl
  have eb : box1 (.map (some mb)) = some (.cells (fillC [.map (some mb)] .leaf 0) [] 1 false, ptrTo) := rfl
  have ef : ∀ b, mkFunc (Fn.func 103) 0 [.ptr (some (b, 0))] = some (.func (.func 103) [] [.ptr (some (b, 0))]) := fun b => rfl
  simp only [F89, SS, Nat.reduceBEq, Nat.reduceEqDiff, Nat.reduceAdd, reduceIte, Nat.reduceMul, eb, e1, ef]
  refine hQ _ _ _ _ (.inr rfl) (by simp only [SS, Nat.reduceBEq]) (by simp only [SS, Nat.reduceBEq, Nat.reduceEqDiff, Nat.reduceAdd, reduceIte, Nat.reduceMul]; rfl) ?_
  exact ⟨h.next, rfl, rx.ld1 0, ⟨by omega, fun c hc _ => g1 c (by omega)⟩⟩
theorem all_ok {n : Nat} (hn : 1 ≤ n) : WC (C n (.fn 63) [.ptr (some (tb, 0))] h) fun r h' => ∃ bx, r = .func (.func 87) [] [.ptr (some (bx, 0))] ∧ Rw h' bx [.ptr (some (tb, 0))] [] false ∧ bx < h'.next ∧ Sm NoB h h' ∧ h.next ≤ bx := by
  obtain ⟨m, rfl⟩ : ∃ m, n = m + 1 := ⟨n - 1, by omega⟩
  refine call_fn _ f63A rfl (by simp [fn63]) fun QQ hQ => ?_
  simp only [fn63] at hQ
  simp only [fn63, fill_cons, fill_nil, Nat.zero_add, Nat.reduceAdd]
  obtain ⟨h1, e1, rx, n1, g1⟩ := Rw.alloc h (id := h.next) (n := 1) (vs := [.ptr (some (tb, 0))]) (z := []) (ro := false) (Nat.le_refl _) rfl
  have eb : box1 (.ptr (some (tb, 0))) = some (.cells (fillC [.ptr (some (tb, 0))] .leaf 0) [] 1 false, ptrTo) := rfl
  have ef : ∀ b, mkFunc (Fn.func 87) 0 [.ptr (some (b, 0))] = some (.func (.func 87) [] [.ptr (some (b, 0))]) := fun b => rfl
  simp only [F63, SS, Nat.reduceBEq, Nat.reduceEqDiff, Nat.reduceAdd, reduceIte, Nat.reduceMul, eb, e1, ef]
  refine hQ _ _ _ _ (.inr rfl) (by simp only [SS, Nat.reduceBEq]) (by simp only [SS, Nat.reduceBEq, Nat.reduceEqDiff, Nat.reduceAdd, reduceIte, Nat.reduceMul]; rfl) ?_
  exact ⟨h.next, rfl, rx, by omega, ⟨by omega, fun c hc _ => g1 c (by omega)⟩, Nat.le_refl _⟩
theorem allIt_ok {n : Nat} (hn : 3 ≤ n) (ht : TabAt h tb L next F) (hrel : Rel L R) (hlen : L.length ≤ 1000) {bx l : Nat} (hbx : Rw h bx [.ptr (some (tb, 0))] [] false)
    (J : Nat → Nat → Heap → Prop) (D : Heap → Prop) (hJ0 : ∀ h1, Sm NoB h h1 → J h1.next 0 h1)
    (hround : ∀ hi i h1 (_ : i < R.length), J hi i h1 → h.next ≤ hi → WC (C (n - 1) (.loop l) [u (Ri R i).id] h1) fun v h2 => (v = .bool true ∧ J hi (i + 1) h2 ∨ v = .bool false ∧ D h2) ∧ ∀ b, h.next ≤ b → b < hi → h2.bs.gt b = h1.bs.gt b) :
    WC (C n (.fn 87) [.func (.yield l) [] [], .ptr (some (bx, 0))] h) fun _ h' => (∃ hi, J hi R.length h') ∨ D h' := by
  have hrl := hrel.len
  obtain ⟨m, rfl⟩ : ∃ m, n = m + 1 := ⟨n - 1, by omega⟩
  refine call_fn _ f87A rfl (by simp [fn87]) fun QQ hQ => ?_
  simp only [fn87] at hQ
  simp only [fn87, fill_cons, fill_nil, Nat.zero_add, Nat.reduceAdd]
  simp only [Nat.add_sub_cancel] at hround
  have l0 := hbx.ld1 0
  rw [List.getElem?_cons_zero] at l0
  obtain ⟨_, h0, ea, e0, rfl⟩ := tis_ok (n := m) (by omega) ht
  subst e0
  obtain ⟨mb, x, es, k, B, X, t1, t2, t3, _, _, hmb, _⟩ := ht.ex
  obtain ⟨_, h1, eb, cb, rfl, hcb, s1⟩ := keys_ok (n := m) (by omega) (h := h0) (mb := mb)
  have hsk := skeys_ok (m := m) (by omega) hcb ((s1.2 mb hmb (fun h => h)).trans t2) t3 hrel (by omega)
  obtain ⟨a, cc, gg, h2, ec, s2, hld⟩ : ∃ a cc gg h2, C m (.fn 88) [.func (.func 103) [] [.ptr (some (cb, 0))]] h1 = some (.slice a R.length cc gg, h2) ∧ Sm NoB h1 h2 ∧ (∀ i, i < R.length → ∃ sb, a = some (sb, 0) ∧ h0.next ≤ sb ∧ sb < h2.next ∧ ∀ h' : Heap, h'.bs.gt sb = h2.bs.gt sb → h'.ld1 sb i = some (u (Ri R i).id)) := by
    by_cases hR : R = []
    · rw [if_pos hR] at hsk
      refine ⟨none, 0, none, h1, ?_, Sm.refl _ _, fun i hi => ?_⟩
      · rw [hsk, hR]; rfl
      · rw [hR] at hi; cases hi
    · rw [if_neg hR] at hsk
      obtain ⟨h2, e2, r2, n2, g2⟩ := Rw.alloc h1 (id := h1.next) (n := ((R.map Ch.id).map u).length) (vs := (R.map Ch.id).map u) (z := []) (ro := false) (Nat.le_refl _) rfl
      rw [e2] at hsk
      have hs1 := s1.1
      refine ⟨_, _, _, h2, hsk, ⟨by omega, fun c hc _ => g2 c (by omega)⟩, fun i hi => ⟨h1.next, rfl, by omega, by omega, fun h' e => ?_⟩⟩
      rw [(r2.same e).ld1, Ri_at hi]
      simp [hi]
  have s02 : Sm NoB h0 h2 := s1.trans s2 (fun _ _ h => h) (fun _ _ h => h)
  simp only [F87, SS, Nat.reduceBEq, Nat.reduceEqDiff, Nat.reduceAdd, reduceIte, Nat.reduceMul, l0, ea, x_fa_87_0, t1.ld1, eb, ec, x_len_43]
  refine run_loop (c := c87_10) (I := fun m' tm' h' => ∃ i, i ≤ R.length ∧ m' = R.length - i ∧ J h2.next i h' ∧ (∀ b, h0.next ≤ b → b < h2.next → h'.bs.gt b = h2.bs.gt b) ∧ tm'.gt 0 = some (.func (.yield l) [] []) ∧ tm'.gt 13 = some (.slice a R.length cc gg) ∧ tm'.gt 14 = some (I R.length) ∧ tm'.gt 15 = some (I i) ∧ tm'.gt 24 = none) (n := R.length)
    ⟨0, by omega, rfl, hJ0 h2 s02, fun _ _ _ => rfl, by simp only [SS, Nat.reduceBEq], by simp only [SS, Nat.reduceBEq], by simp only [SS, Nat.reduceBEq], by simp only [SS, Nat.reduceBEq, Nat.reduceEqDiff, Nat.reduceAdd, reduceIte, Nat.reduceMul]; rfl, by simp only [SS, Nat.reduceBEq]⟩ (by omega) ?_
  rintro _ tm h3 ⟨i, hil, rfl, hJ, hk, t0, t13, t14, t15, t24⟩ Q1 hN1 hE
  by_cases hlt : i < R.length
  · have hlt' : (i : Int) < (R.length : Int) := by omega
    obtain ⟨sb, rfl, hsb1, hsb2, hl1⟩ := hld i hlt
    have hl1 := hl1 h3 (hk sb hsb1 hsb2)
    obtain ⟨v, h4, ey, hv, hk4⟩ := hround h2.next i h3 hlt hJ s02.1
    have x2 := x_ia_43 (k := .i64) (b := sb) (o := 0) (c := cc) (g := gg) hlt
    rcases hv with ⟨rfl, hJ4⟩ | ⟨rfl, hD⟩
    · simp only [F87, SS, Nat.reduceBEq, Nat.reduceEqDiff, Nat.reduceAdd, reduceIte, Nat.reduceMul, t0, t13, t14, t15, hlt', x2, hl1, ey, wAdd1 (show i ≤ 1000000 by omega)]
      refine hN1 _ _ (R.length - (i + 1)) (by omega) ⟨i + 1, hlt, rfl, hJ4, fun b h8 h9 => (hk4 b h8 h9).trans (hk b h8 h9), by simp only [SS, Nat.reduceBEq, t0], by simp only [SS, Nat.reduceBEq, t13], by simp only [SS, Nat.reduceBEq, t14], by simp only [SS, Nat.reduceBEq], by simp only [SS, Nat.reduceBEq, t24]⟩
    · simp only [F87, SS, Nat.reduceBEq, Nat.reduceEqDiff, Nat.reduceAdd, reduceIte, Nat.reduceMul, t0, t13, t14, t15, hlt', x2, hl1, ey]
      refine hE _ _ _ (by simp) ?_
      simp only [SS, Nat.reduceBEq, Nat.reduceEqDiff, Nat.reduceAdd, reduceIte, Nat.reduceMul]
      refine hQ _ _ _ _ (.inr rfl) (by simp only [SS, Nat.reduceBEq, t24]) (by simp only [SS, Nat.reduceBEq, Nat.reduceEqDiff, Nat.reduceAdd, reduceIte, Nat.reduceMul]; rfl) (.inr hD)
  · obtain rfl : i = R.length := by omega
    have hlt' : ¬ (R.length : Int) < (R.length : Int) := by omega
    simp only [F87, SS, Nat.reduceBEq, Nat.reduceEqDiff, Nat.reduceAdd, reduceIte, Nat.reduceMul, t0, t13, t14, t15, hlt']
    refine hE _ _ _ (by simp) ?_
    simp only [SS, Nat.reduceBEq, Nat.reduceEqDiff, Nat.reduceAdd, reduceIte, Nat.reduceMul]
    refine hQ _ _ _ _ (.inl rfl) (by simp only [SS, Nat.reduceBEq, t24]) (by simp only [SS, Nat.reduceBEq, Nat.reduceEqDiff, Nat.reduceAdd, reduceIte, Nat.reduceMul]; rfl) (.inl ⟨_, hJ⟩)
end
end Go.Proofs.Ytlfednnfkejcjaa

namespace Go.Proofs.Ytlfednnfkejcjaa
open Go.Am
set_option maxRecDepth 10000
theorem keep45 : keepF P 45 42 = false := by kernel_rfl
theorem nt45 : ntOf P 45 = 42 := by kernel_rfl
theorem put_sm {h : Heap} {b : Nat} {x : Blk} : ∃ h', h.put b x = h' ∧ h'.bs.gt b = some x ∧ h'.next = h.next ∧ Sm (· = b) h h' :=
  ⟨_, rfl, by rw [put_get, if_pos rfl], rfl, ⟨Nat.le_refl _, fun c _ hc => by rw [put_get, if_neg hc]⟩⟩
structure Rec45 (l b3 b4 b6 : Nat) (h : Heap) (b : LRec) : Prop where
  at' : h.bs.gt l = some (.loop b)
  st : b.st = .ready
  pd : b.pending = none
  fn : b.fn = 45
  ps : b.params = [13]
  asg : b.assign = c45_18A
  bo : b.body = c45_18B
  t3 : b.tm.gt 3 = some (.ptr (some (b3, 0)))
  t4 : b.tm.gt 4 = some (.ptr (some (b4, 0)))
  t6 : b.tm.gt 6 = some (.ptr (some (b6, 0)))
  t42 : b.tm.gt 42 = none
structure J45 (h0 : Heap) (l b3 b4 b6 rb : Nat) (R : List Ch) (next : Int) (bs : List Nat) (i : Nat) (h : Heap) : Prop where
  rc : ∃ b, Rec45 l b3 b4 b6 h b
  r3 : ∃ z, Rw h b3 [.ptr (some (rb, 0))] z false
  r4 : ∃ z, Rw h b4 [.bool false] z false
  r6 : ∃ z, Rw h b6 [I i] z false
  rf : RefAt h rb R next bs
  sm : Sm NoB h0 h
  lt : b3 < h.next ∧ b4 < h.next ∧ b6 < h.next ∧ l < h.next
  ge : h0.next ≤ b3 ∧ h0.next ≤ b4 ∧ h0.next ≤ b6 ∧ h0.next ≤ l
  ne : l ≠ b3 ∧ l ≠ b4 ∧ l ≠ b6 ∧ b6 ≠ b3 ∧ b6 ≠ b4
  fb : ∀ b, RefF rb bs b → b < h0.next
section
variable {h0 h : Heap} {l b3 b4 b6 rb : Nat} {R : List Ch} {next : Int} {bs : List Nat} {i : Nat}
theorem J45.no {h' : Heap} (hj : J45 h0 l b3 b4 b6 rb R next bs i h) (hs : Sm NoB h h') : J45 h0 l b3 b4 b6 rb R next bs i h' := by
  obtain ⟨⟨b, q1, q2, q3, q4, q5, q6, q7, q8, q9, q10, q11⟩, ⟨z3, r3⟩, ⟨z4, r4⟩, ⟨z6, r6⟩, rf, sm, ⟨l3, l4, l6, ll⟩, ge, ne, fb⟩ := hj
  have := hs.1
  exact ⟨⟨b, (hs.2 l ll (fun h => h)).trans q1, q2, q3, q4, q5, q6, q7, q8, q9, q10, q11⟩, ⟨z3, r3.sm hs l3 (fun h => h)⟩, ⟨z4, r4.sm hs l4 (fun h => h)⟩, ⟨z6, r6.sm hs l6 (fun h => h)⟩, rf.no hs, sm.trans hs (fun _ _ h => h) (fun _ _ h => h), ⟨by omega, by omega, by omega, by omega⟩, ge, ne, fb⟩
theorem lround_ok {m : Nat} (hm : 1 ≤ m) (hj : J45 h0 l b3 b4 b6 rb R next bs i h) (hi : i < R.length) (hl : R.length ≤ 1000) :
    WC (C m (.loop l) [u (Ri R i).id] h) fun v h2 => v = .bool true ∧ J45 h0 l b3 b4 b6 rb R next bs (i + 1) h2 ∧ Sm (fun b => b = b6 ∨ b = l) h h2 := by
  obtain ⟨m, rfl⟩ : ∃ m', m = m' + 1 := ⟨m - 1, by omega⟩
  obtain ⟨⟨b, hat, hst, hpd, hfn, hps, has, hbo, t3, t4, t6, t42⟩, ⟨z3, r3⟩, ⟨z4, r4⟩, ⟨z6, r6⟩, rf, sm, ⟨l3, l4, l6, ll⟩, ge, ne, fb⟩ := hj
  refine call_loop _ hat (nt := 42) (CA := c45_19) (CB := c45_20) (tm' := b.tm.up (some (u (Ri R i).id)) 13) (by rw [hfn]; exact nt45) (by rw [hps]; rfl) (by rw [hfn]; exact keep45) t42 (by rw [hfn, has]; exact q45_18a) (by rw [hfn, hbo]; exact q45_18b) fun QA hA => ?_
  rw [hfn] at hA ⊢
  simp only [F45, SS, Nat.reduceBEq, Nat.reduceEqDiff, Nat.reduceAdd, reduceIte, Nat.reduceMul]
  refine hA _ _ b hat hst fun QB hB => ?_
  obtain ⟨h3, e3, m3, n3, s3⟩ := put_sm (h := h) (b := l) (x := .loop { b with st := .busy })
  rw [e3]
  obtain ⟨h4, e4, s4, b4', n4⟩ := Sm.bump h3 19
  have hrlt := rf.flt
  have sall : Sm (· = l) h h4 := s3.trans s4 (fun _ _ h => h) (fun _ _ h => h.elim)
  have r34 := r3.sm sall l3 (fun e => ne.1 e.symm)
  have r44 := r4.sm sall l4 (fun e => ne.2.1 e.symm)
  have r64 := r6.sm sall l6 (fun e => ne.2.2.1 e.symm)
  have rf4 := rf.sm sall (fun e => by have := fb rb (.inl rfl); omega) (fun c hc e => by have := fb c (.inr hc); omega)
  obtain ⟨v, rr, ro⟩ := rf4.ex
  obtain ⟨a, c, g, rfl⟩ := Chs.sl (els_R ro.els)
  have hch : Chs h4 (.slice a R.length c g) R := els_R ro.els
  obtain ⟨sb, so, rfl, j0, _⟩ := hch.at hi
  have k0 := rr.ld1 0
  have k3 := r34.ld1 0
  have k6 := r64.ld1 0
  rw [List.getElem?_cons_zero] at k0 k3 k6
  have hlt : ¬ (R.length : Int) ≤ (i : Int) := by omega
  obtain ⟨w1, w2, w3, w4⟩ := r64.st1 (o := 0) (v := I (i + 1)) (by simp) rfl
  rw [show ([I i] : List AV).set 0 (I (i + 1)) = [I (i + 1)] from rfl] at w2
  have hla : h4.bs.gt l = some (.loop { b with st := .busy }) := by rw [b4']; exact m3
  simp only [F45, SS, Nat.reduceBEq, Nat.reduceEqDiff, Nat.reduceAdd, reduceIte, Nat.reduceMul, t3, t4, t6, e4, k0, k3, k6, x_fa_109_0, x_len_107, hlt, x_ia_107 hi, x_fa_114_0, j0, w_undef, wAdd1 (show i ≤ 1000000 by omega), w1]
  refine hB _ _ _ _ ((w4 l ne.2.2.1).trans hla) rfl ?_
  obtain ⟨h6, e6, m6, n6, s6⟩ := put_sm (h := h4.wr b6 0 [I (i + 1)]) (b := l) (x := .loop (endL .normal { b with st := .busy }).2)
  rw [e6]
  have s46 : Sm (fun c => c = b6 ∨ c = l) h4 h6 := (show Sm (· = b6) h4 (h4.wr b6 0 [I (i + 1)]) from ⟨by omega, fun c _ hc => w4 c hc⟩).trans s6 (fun _ _ h => .inl h) (fun _ _ h => .inr h)
  have s06 : Sm (fun c => c = b6 ∨ c = l) h h6 := sall.trans s46 (fun _ _ h => .inr h) (fun _ _ h => h)
  have h46 := s06.1
  refine ⟨rfl, ⟨⟨_, m6, rfl, rfl, hfn, hps, has, hbo, t3, t4, t6, t42⟩, ⟨z3, r3.sm s06 l3 (by omega)⟩, ⟨z4, r4.sm s06 l4 (by omega)⟩, ⟨z6, w2.sm s6 (by omega) (fun e => ne.2.2.1 e.symm)⟩, rf.sm s06 (fun e => by have := fb rb (.inl rfl); omega) (fun c hc e => by have := fb c (.inr hc); omega), sm.trans s06 (fun _ _ h => h) (fun c hc e => by omega), ⟨by omega, by omega, by omega, by omega⟩, ge, ne, fb⟩, s06⟩
end
end Go.Proofs.Ytlfednnfkejcjaa

namespace Go.Proofs.Ytlfednnfkejcjaa
open Go.Am
set_option maxRecDepth 10000
theorem x_eq_104 (cap : List AV) : bin2 P .eql 104 (.func (.func 87) [] cap) .nilFunc = some (.bool false) := by kernel_rfl
theorem rc_4 : resC P 4 = load1 := by kernel_rfl
section
variable {h : Heap} {tb rb : Nat} {L R : List Ch} {next : Int} {F : Nat → Prop} {bs : List Nat}
theorem listed_ok {n : Nat} (hn : 5 ≤ n) (hs : St h tb rb L R next F bs) (hlen : L.length ≤ 900) :
    WC (C n (.fn 45) [.ptr (some (tb, 0)), .ptr (some (rb, 0))] h) fun r h' => r = .bool true ∧ Sm NoB h h' := by
  have hrl := hs.rel.len
  have hflt := hs.r.flt
  obtain ⟨m, rfl⟩ : ∃ m, n = m + 1 := ⟨n - 1, by omega⟩
  refine call_fn _ f45A rfl (by simp [fn45]) fun QQ hQ => ?_
  simp only [fn45] at hQ
  simp only [fn45, fill_cons, fill_nil, Nat.zero_add, Nat.reduceAdd]
  obtain ⟨h1, e1, r1, n1, g1⟩ := Rw.alloc h (id := h.next) (n := 1) (vs := [.ptr (some (rb, 0))]) (z := []) (ro := false) (Nat.le_refl _) rfl
  obtain ⟨h2, e2, r2, n2, g2⟩ := Rw.alloc h1 (id := h1.next) (n := 1) (vs := [.bool false]) (z := tyMark 4 true) (ro := false) (Nat.le_refl _) rfl
  have s01 : Sm NoB h h1 := ⟨by omega, fun c hc _ => g1 c (by omega)⟩
  have s12 : Sm NoB h1 h2 := ⟨by omega, fun c hc _ => g2 c (by omega)⟩
  obtain ⟨_, h3, ea, bx, rfl, rx, lx, s23, gx⟩ := all_ok (n := m) (by omega) (h := h2) (tb := tb)
  obtain ⟨h4, e4, r4, n4, g4⟩ := Rw.alloc h3 (id := h3.next) (n := 1) (vs := [.int .i64 0]) (z := tyMark 3 true) (ro := false) (Nat.le_refl _) rfl
  have s34 : Sm NoB h3 h4 := ⟨by omega, fun c hc _ => g4 c (by omega)⟩
  obtain ⟨w1, w2, w3, w4⟩ := r4.st1 (o := 0) (v := .int .i64 0) (by simp) rfl
  rw [show ([.int .i64 0] : List AV).set 0 (.int .i64 0) = [.int .i64 0] from rfl] at w2
  obtain ⟨h5, e5⟩ : ∃ h5, h4.wr h3.next 0 [.int .i64 0] = h5 := ⟨_, rfl⟩
  rw [e5] at w1 w2 w3 w4
  have s35 : Sm NoB h3 h5 := ⟨by omega, fun c hc _ => by rw [w4 c (by omega), g4 c (by omega)]⟩
  have s05 : Sm NoB h h5 := ((s01.trans s12 (fun _ _ h => h) (fun _ _ h => h)).trans s23 (fun _ _ h => h) (fun _ _ h => h)).trans s35 (fun _ _ h => h) (fun _ _ h => h)
  have q23 := s23.1
  have rr5 : Rw h5 h.next [.ptr (some (rb, 0))] [] false := ((r1.sm s12 (by omega) (fun h => h)).sm s23 (by omega) (fun h => h)).sm s35 (by omega) (fun h => h)
  have rc5 : Rw h5 h1.next [.bool false] (tyMark 4 true) false := (r2.sm s23 (by omega) (fun h => h)).sm s35 (by omega) (fun h => h)
  have rx5 := rx.sm s35 lx (fun h => h)
  have key : ∀ tm, tm.gt 3 = some (.ptr (some (h.next, 0))) → tm.gt 4 = some (.ptr (some (h1.next, 0))) → tm.gt 6 = some (.ptr (some (h3.next, 0))) → tm.gt 12 = some (.func (.func 87) [] [.ptr (some (bx, 0))]) → tm.gt 42 = none → run (C m) 100000 42 45 none c45_18 [.blk 0, .seq (.seq c45_31 .ret)] tm h5 QQ := by
    intro tm t3 t4 t6 t12 t42
    refine run_rangeF (t := 12) (i := 87) (ps := [13]) (A := c45_18A) (B := c45_18B) t12 ?_
    generalize hlb : LRec.mk .ready none 45 (tm.up none 42) [13] c45_18A c45_18B = lr
    have b3 : lr.tm.gt 3 = some (.ptr (some (h.next, 0))) := by rw [← hlb]; show (tm.up none 42).gt 3 = _; simp only [SS, Nat.reduceBEq, Nat.reduceEqDiff, Nat.reduceAdd, reduceIte, Nat.reduceMul, t3]
    have b4 : lr.tm.gt 4 = some (.ptr (some (h1.next, 0))) := by rw [← hlb]; show (tm.up none 42).gt 4 = _; simp only [SS, Nat.reduceBEq, Nat.reduceEqDiff, Nat.reduceAdd, reduceIte, Nat.reduceMul, t4]
    have b6 : lr.tm.gt 6 = some (.ptr (some (h3.next, 0))) := by rw [← hlb]; show (tm.up none 42).gt 6 = _; simp only [SS, Nat.reduceBEq, Nat.reduceEqDiff, Nat.reduceAdd, reduceIte, Nat.reduceMul, t6]
    have b42 : lr.tm.gt 42 = none := by rw [← hlb]; show (tm.up none 42).gt 42 = _; simp only [SS, Nat.reduceBEq, Nat.reduceEqDiff, Nat.reduceAdd, reduceIte, Nat.reduceMul]
    obtain ⟨h7, e7⟩ : ∃ h7, h5.new h5.next (.loop lr) = h7 := ⟨_, rfl⟩
    have m7 : h7.bs.gt h5.next = some (.loop lr) := by rw [← e7, new_get' (Nat.le_refl _), if_pos rfl]
    have n7 : h7.next = h5.next + 1 := by rw [← e7, new_next' (Nat.le_refl _)]
    have s57 : Sm NoB h5 h7 := ⟨by omega, fun c hc _ => by rw [← e7, new_get' (Nat.le_refl _), if_neg (by omega)]⟩
    rw [e7]
    have s07 : Sm NoB h h7 := s05.trans s57 (fun _ _ h => h) (fun _ _ h => h)
    have hs7 := hs.no s07
    have hj : J45 h h5.next h.next h1.next h3.next rb R next bs 0 h7 := ⟨⟨lr, m7, by rw [← hlb], by rw [← hlb], by rw [← hlb], by rw [← hlb], by rw [← hlb], by rw [← hlb], b3, b4, b6, b42⟩, ⟨_, rr5.sm s57 (by omega) (fun h => h)⟩, ⟨_, rc5.sm s57 (by omega) (fun h => h)⟩, ⟨_, w2.sm s57 (by omega) (fun h => h)⟩, hs7.r, s07, ⟨by omega, by omega, by omega, by omega⟩, ⟨by omega, by omega, by omega, by omega⟩, ⟨by omega, by omega, by omega, by omega, by omega⟩, hflt⟩
    obtain ⟨_, h8, e8, hres⟩ := allIt_ok (n := m) (by omega) hs7.t hs7.rel (by omega) (bx := bx) (l := h5.next) (rx5.sm s57 (by omega) (fun h => h))
      (fun hi i h' => J45 h h5.next h.next h1.next h3.next rb R next bs i h' ∧ hi ≤ h'.next) (fun _ => False) (fun h1 s => ⟨hj.no s, Nat.le_refl _⟩)
      (fun hi i h1 hlt hj' hle => by
        obtain ⟨v, h2, e, rfl, j2, s2⟩ := lround_ok (m := m - 1) (by omega) hj'.1 hlt (by omega)
        have hj2 := hj'.2
        have s21 := s2.1
        exact ⟨_, h2, e, .inl ⟨rfl, j2, by omega⟩, fun b hb _ => s2.2 b (by omega) (by omega)⟩)
    obtain ⟨hi, hj8, _⟩ := hres.resolve_right (fun h => h)
    obtain ⟨⟨b, q1, q2, q3, q4, q5, q6, q7, q8, q9, q10, q11⟩, ⟨z3, r38⟩, ⟨z4, r48⟩, ⟨z6, r68⟩, rf8, sm8, ⟨l3, l4, l6, ll⟩, ge, ne, fb⟩ := hj8
    refine ⟨_, h8, e8, b, q1, (by rw [q2]; exact fun e => by cases e), ?_⟩
    rw [q3]
    obtain ⟨h9, e9, m9, n9, s9⟩ := put_sm (h := h8) (b := h5.next) (x := .loop { b with st := .exhausted, pending := none })
    show ret (C m) 100000 42 45 none .normal [.blk 0, .seq (.seq c45_31 .ret)] tm (h8.put h5.next (.loop { b with st := .exhausted, pending := none })) QQ
    rw [e9]
    obtain ⟨h10, e10, s10, b10, n10⟩ := Sm.bump h9 8
    have sall : Sm (· = h5.next) h8 h10 := s9.trans s10 (fun _ _ h => h) (fun _ _ h => h.elim)
    have k3 := (r38.sm sall l3 (by omega)).ld1 0
    have k6 := (r68.sm sall l6 (by omega)).ld1 0
    have r410 := r48.sm sall l4 (by omega)
    have rf10 := rf8.sm sall (fun e => by have := fb rb (.inl rfl); omega) (fun c hc e => by have := fb c (.inr hc); omega)
    obtain ⟨v, rr, ro⟩ := rf10.ex
    obtain ⟨a, c, g, rfl⟩ := Chs.sl (els_R ro.els)
    have k0 := rr.ld1 0
    rw [List.getElem?_cons_zero] at k0 k3 k6
    obtain ⟨y1, y2, y3, y4⟩ := r410.st1 (o := 0) (v := .bool true) (by simp) rfl
    rw [show ([.bool false] : List AV).set 0 (.bool true) = [.bool true] from rfl] at y2
    have l4' := y2.ld1 0
    rw [List.getElem?_cons_zero] at l4'
    simp only [F45, SS, Nat.reduceBEq, Nat.reduceEqDiff, Nat.reduceAdd, reduceIte, Nat.reduceMul, t3, t4, t6, e10, k0, k3, k6, x_fa_109_0, x_len_107, y1]
    refine hQ _ _ _ _ (.inr rfl) (by simp only [SS, Nat.reduceBEq, t42]) (by simp only [SS, Nat.reduceBEq, Nat.reduceEqDiff, Nat.reduceAdd, reduceIte, Nat.reduceMul, t4, rc_4, l4']; rfl) ?_
    refine ⟨rfl, ⟨by have := sm8.1; have := sall.1; omega, fun c hc hF => ?_⟩⟩
    have := sm8.1
    rw [y4 c (by omega), sall.2 c (by omega) (by omega), sm8.2 c hc hF]
  have eb : box1 (.ptr (some (rb, 0))) = some (.cells (fillC [.ptr (some (rb, 0))] .leaf 0) [] 1 false, ptrTo) := rfl
  simp only [F45, SS, Nat.reduceBEq, Nat.reduceEqDiff, Nat.reduceAdd, reduceIte, Nat.reduceMul, eb, e1, x_al_4, e2, ea, x_eq_104, x_al_3, e4, w1]
  exact key _ (by simp only [SS, Nat.reduceBEq]) (by simp only [SS, Nat.reduceBEq]) (by simp only [SS, Nat.reduceBEq]) (by simp only [SS, Nat.reduceBEq]) (by simp only [SS, Nat.reduceBEq])
end
end Go.Proofs.Ytlfednnfkejcjaa

namespace Go.Proofs.Ytlfednnfkejcjaa
open Go.Am
set_option maxRecDepth 10000
theorem keep41 : keepF P 41 29 = false := by kernel_rfl
theorem nt41 : ntOf P 41 = 29 := by kernel_rfl
theorem take_fresh {α β : Type} {f : α → β} {R : List α} (hn : (R.map f).Nodup) {i : Nat} (hi : i < R.length) : ∀ d, d ∈ R.take i → f d ≠ f R[i] := by
  have h1 : ((R.take (i + 1)).map f).Nodup := hn.sublist ((List.take_sublist _ _).map f)
  rw [List.take_succ_eq_append_getElem hi, List.map_append, List.nodup_append] at h1
  intro d hd e
  exact h1.2.2 _ (List.mem_map.2 ⟨d, hd, rfl⟩) (f R[i]) (List.mem_map.2 ⟨R[i], List.mem_singleton.2 rfl, rfl⟩) e
theorem gt_no {L : List Ch} {id : Int} (h : ∀ c, c ∈ L → c.id ≠ id) : gtL L id = none := by
  unfold gtL
  rw [List.find?_eq_none]
  intro c hc; simpa using h c hc
theorem fd_no {L : List Ch} {s : List Nat} (h : ∀ c, c ∈ L → c.data ≠ s) : fdL L s = none := by
  unfold fdL
  rw [List.find?_eq_none]
  intro c hc; simpa using h c hc
structure Rec41 (l b1 b3 : Nat) (h : Heap) (b : LRec) : Prop where
  at' : h.bs.gt l = some (.loop b)
  st : b.st = .ready
  pd : b.pending = none
  fn : b.fn = 41
  ps : b.params = [11]
  asg : b.assign = c41_16A
  bo : b.body = c41_16B
  t1 : b.tm.gt 1 = some (.ptr (some (b1, 0)))
  t3 : b.tm.gt 3 = some (.ptr (some (b3, 0)))
  t29 : b.tm.gt 29 = none
structure J41 (h0 : Heap) (l b1 b3 tb ctb lo hi : Nat) (L R : List Ch) (next : Int) (F : Nat → Prop) (i : Nat) (h : Heap) : Prop where
  rc : ∃ b, Rec41 l b1 b3 h b
  r1 : ∃ z, Rw h b1 [.ptr (some (tb, 0))] z false
  r3 : ∃ z, Rw h b3 [.ptr (some (ctb, 0))] z false
  t : TabAt h tb L next F
  c : ∃ nx Fc, TabAt h ctb (R.take i) nx Fc ∧ ∀ b, Fc b → h0.next ≤ b ∧ b ≠ b1 ∧ b ≠ b3 ∧ b ≠ l ∧ (b < lo ∨ hi ≤ b)
  sm : Sm NoB h0 h
  lt : b1 < h.next ∧ b3 < h.next ∧ l < h.next ∧ hi ≤ h.next
  ge : h0.next ≤ b1 ∧ h0.next ≤ b3 ∧ h0.next ≤ l
  ne : l ≠ b1 ∧ l ≠ b3
  fb : ∀ b, F b → b < h0.next
section
variable {h0 h : Heap} {l b1 b3 tb ctb lo hi : Nat} {L R : List Ch} {next : Int} {F : Nat → Prop} {i : Nat}
theorem cround_ok {m : Nat} (hm : 6 ≤ m) (hrel : Rel L R) (hL : L.length ≤ 1000) (hj : J41 h0 l b1 b3 tb ctb lo hi L R next F i h) (hi' : i < R.length) (hlo : l < lo) :
    WC (C m (.loop l) [u (Ri R i).id] h) fun v h2 => v = .bool true ∧ J41 h0 l b1 b3 tb ctb lo hi L R next F (i + 1) h2 ∧ ∀ b, lo ≤ b → b < hi → h2.bs.gt b = h.bs.gt b := by
  have hrl := hrel.len
  obtain ⟨m, rfl⟩ : ∃ m', m = m' + 1 := ⟨m - 1, by omega⟩
  obtain ⟨⟨b, hat, hst, hpd, hfn, hps, has, hbo, t1, t3, t29⟩, ⟨z1, r1⟩, ⟨z3, r3⟩, ht, ⟨nx, Fc, hc, hfc⟩, sm, ⟨l1, l3, ll, lhi⟩, ge, ne, fb⟩ := hj
  refine call_loop _ hat (nt := 29) (CA := c41_17) (CB := c41_18) (tm' := b.tm.up (some (u (Ri R i).id)) 11) (by rw [hfn]; exact nt41) (by rw [hps]; rfl) (by rw [hfn]; exact keep41) t29 (by rw [hfn, has]; exact q41_16a) (by rw [hfn, hbo]; exact q41_16b) fun QA hA => ?_
  rw [hfn] at hA ⊢
  simp only [F41, SS, Nat.reduceBEq, Nat.reduceEqDiff, Nat.reduceAdd, reduceIte, Nat.reduceMul]
  refine hA _ _ b hat hst fun QB hB => ?_
  obtain ⟨h3, e3, m3, n3, s3⟩ := put_sm (h := h) (b := l) (x := .loop { b with st := .busy })
  rw [e3]
  obtain ⟨h4, e4, s4, b4', n4⟩ := Sm.bump h3 9
  have sall : Sm (· = l) h h4 := s3.trans s4 (fun _ _ h => h) (fun _ _ h => h.elim)
  have hq0 := sm.1
  have r14 := r1.sm sall l1 (fun e => ne.1 e.symm)
  have r34 := r3.sm sall l3 (fun e => ne.2 e.symm)
  have ht4 := ht.sm sall (fun b hb e => by have := fb b hb; omega)
  have hc4 := hc.sm sall (fun b hb e => (hfc b hb).2.2.2.1 e)
  have hla : h4.bs.gt l = some (.loop { b with st := .busy }) := by rw [b4']; exact m3
  obtain ⟨mb, x, es, k, B, X, u1, u2, u3, _, u5, _⟩ := ht4.ex
  have hge : R[i] = Ri R i := (Ri_at hi').symm
  have hcL : Ri R i ∈ L := (hrel.mem _).1 (by rw [← hge]; exact List.getElem_mem hi')
  have hg := gt_mem hrel.nd hcL
  have hch := u5.ch _ hcL
  have hnx := u5.next
  have hid : gtL (R.take i) (Ri R i).id = none := gt_no fun d hd => by have := take_fresh hrel.ndR hi' d hd; rw [hge] at this; exact this
  have hdt : fdL (R.take i) (Ri R i).data = none := fd_no fun d hd => by have := take_fresh hrel.ddR hi' d hd; rw [hge] at this; exact this
  obtain ⟨_, h5, ec, rfl, F', hc5, s5, f5⟩ := tput_ok (n := m) (by omega) hc4 (Ri R i) hch.1 (by omega) hid hdt hch.2.2.1 hch.2.2.2.1 hch.2.2.2.2.1 hch.2.2.2.2.2.1 hch.2.2.2.2.2.2 (by rw [List.length_take]; omega)
  have hlk := lkF_some u2 u3.e hg
  have k1 := r14.ld1 0
  have k3 := r34.ld1 0
  rw [List.getElem?_cons_zero] at k1 k3
  have hFl : ¬ Fc l := fun h => (hfc l h).2.2.2.1 rfl
  simp only [F41, SS, Nat.reduceBEq, Nat.reduceEqDiff, Nat.reduceAdd, reduceIte, Nat.reduceMul, t1, t3, e4, k1, k3, x_fa_87_0, u1.ld1, hlk, ec]
  have hla5 := (s5.2 l (by have := sall.1; omega) hFl).trans hla
  refine hB _ _ _ _ hla5 rfl ?_
  obtain ⟨h6, e6, m6, n6, s6⟩ := put_sm (h := h5) (b := l) (x := .loop (endL .normal { b with st := .busy }).2)
  rw [e6]
  have s46 : Sm (fun c => Fc c ∨ c = l) h4 h6 := s5.trans s6 (fun _ _ h => .inl h) (fun _ _ h => .inr h)
  have s06 : Sm (fun c => Fc c ∨ c = l) h h6 := sall.trans s46 (fun _ _ h => .inr h) (fun _ _ h => h)
  have n06 := s06.1
  have n04 := sall.1
  have hF'l : ∀ b, F' b → b ≠ l := fun b hb e => by
    rcases f5 b hb with h | h
    · exact (hfc b h).2.2.2.1 e
    · omega
  have hno : ∀ b, b < h0.next → ¬ (Fc b ∨ b = l) := by
    rintro b hb (h | h)
    · have := (hfc b h).1; omega
    · omega
  refine ⟨rfl, ⟨⟨_, m6, rfl, rfl, hfn, hps, has, hbo, t1, t3, t29⟩, ⟨z1, r1.sm s06 l1 (fun h => h.elim (fun h => (hfc _ h).2.1 rfl) (fun h => ne.1 h.symm))⟩, ⟨z3, r3.sm s06 l3 (fun h => h.elim (fun h => (hfc _ h).2.2.1 rfl) (fun h => ne.2 h.symm))⟩,
    ht.sm s06 (fun b hb => hno b (fb b hb)), ⟨max nx ((Ri R i).id + 1), F', ?_, fun b hb => ?_⟩, sm.trans s06 (fun _ _ h => h) (fun c hc h => (hno c hc h).elim), ⟨by omega, by omega, by omega, by omega⟩, ge, ne, fb⟩, fun b h7 h8 => s06.2 b (by omega) (fun h => ?_)⟩
  · rw [List.take_succ_eq_append_getElem hi', hge]
    exact hc5.sm s6 (fun b hb e => hF'l b hb e)
  · rcases f5 b hb with h | h
    · exact hfc b h
    · exact ⟨by omega, by omega, by omega, by omega, .inr (by omega)⟩
  · rcases h with h | h
    · have := (hfc b h).2.2.2.2; omega
    · omega
end
end Go.Proofs.Ytlfednnfkejcjaa

namespace Go.Proofs.Ytlfednnfkejcjaa
open Go.Am
set_option maxRecDepth 10000
section
variable {h : Heap} {tb rb : Nat} {L R : List Ch} {next nx : Int} {F : Nat → Prop} {bs : List Nat}
theorem TabAt.st2 (ht : TabAt h tb L nx F) {x : Int} (hle : ∀ c, c ∈ L → c.id < x) (hx : 1 ≤ x ∧ x ≤ 4294967295) : ∃ h', h.st1 tb 2 (u x) = some h' ∧ TabAt h' tb L x F ∧ Sm (· = tb) h h' := by
  have hlt := ht.lt
  obtain ⟨mb, xx, es, k, B, X, t1, t2, t3, t4, t5, hmb, hne, hx1, hx2, rfl⟩ := ht.ex
  obtain ⟨w1, w2, w3, w4⟩ := t1.st1 (o := 2) (v := u x) (by simp) rfl
  rw [show ([.map (some mb), .ptr (some (xx, 0)), u nx] : List AV).set 2 (u x) = [.map (some mb), .ptr (some (xx, 0)), u x] from rfl] at w2
  have hs : Sm (· = tb) h (h.wr tb 2 [u x]) := ⟨by omega, fun c _ hc => w4 c hc⟩
  refine ⟨_, w1, ⟨⟨mb, xx, es, k, B, X, w2, (w4 mb (fun e => hne e.symm)).trans t2, t3, t4.sm hs (fun b hb e => hx1 (e ▸ hb)), ⟨t5.ids, t5.datas, fun c hc => ?_, hx, t5.inB, t5.ofB, t5.ndB, t5.len⟩, by omega, hne, hx1, hx2, rfl⟩, by omega⟩, hs⟩
  have := t5.ch c hc
  exact ⟨this.1, hle c hc, this.2.2⟩
theorem copy_ok {n : Nat} (hn : 8 ≤ n) (ht : TabAt h tb L next F) (hrel : Rel L R) (hlen : L.length ≤ 900) :
    WC (C n (.fn 41) [.ptr (some (tb, 0))] h) fun r h' => ∃ ctb F', r = .ptr (some (ctb, 0)) ∧ TabAt h' ctb R next F' ∧ Sm NoB h h' ∧ ∀ b, F' b → h.next ≤ b := by
  have hrl := hrel.len
  have hflt := ht.flt
  have htb : F tb := by obtain ⟨mb, xx, es, k, B, X, _, _, _, _, _, _, _, _, _, rfl⟩ := ht.ex; exact .inl rfl
  have htl := ht.lt
  obtain ⟨m, rfl⟩ : ∃ m, n = m + 1 := ⟨n - 1, by omega⟩
  refine call_fn _ f41A rfl (by simp [fn41]) fun QQ hQ => ?_
  simp only [fn41] at hQ
  simp only [fn41, fill_cons, fill_nil, Nat.zero_add, Nat.reduceAdd]
  obtain ⟨h1, e1, r1, n1, g1⟩ := Rw.alloc h (id := h.next) (n := 1) (vs := [.ptr (some (tb, 0))]) (z := []) (ro := false) (Nat.le_refl _) rfl
  have s01 : Sm NoB h h1 := ⟨by omega, fun c hc _ => g1 c (by omega)⟩
  have ht1 := ht.sm s01 (fun _ _ h => h)
  obtain ⟨_, h1', ea, e0, rfl⟩ := tis_ok (n := m) (by omega) ht1
  subst e0
  obtain ⟨_, h2, eb, ctb, F0, rfl, hc2, s12, hF0⟩ := tnew_ok (n := m) (by omega) (h := h1')
  obtain ⟨h3, e3, r3, n3, g3⟩ := Rw.alloc h2 (id := h2.next) (n := 1) (vs := [.ptr none]) (z := tyMark 24 true) (ro := false) (Nat.le_refl _) rfl
  obtain ⟨w1, w2, w3, w4⟩ := r3.st1 (o := 0) (v := .ptr (some (ctb, 0))) (by simp) rfl
  rw [show ([.ptr none] : List AV).set 0 (.ptr (some (ctb, 0))) = [.ptr (some (ctb, 0))] from rfl] at w2
  obtain ⟨h4, e4⟩ : ∃ h4, h3.wr h2.next 0 [.ptr (some (ctb, 0))] = h4 := ⟨_, rfl⟩
  rw [e4] at w1 w2 w3 w4
  have s24 : Sm NoB h2 h4 := ⟨by omega, fun c hc _ => by rw [w4 c (by omega), g3 c (by omega)]⟩
  have q12 := s12.1
  have r1_4 := (r1.sm s12 (by omega) (fun h => h)).sm s24 (by omega) (fun h => h)
  have l1_0 := r1.ld1 0
  have l1_4 := r1_4.ld1 0
  rw [List.getElem?_cons_zero] at l1_0 l1_4
  obtain ⟨_, h5, ec, bx, rfl, rx, lx, s45, gx⟩ := all_ok (n := m) (by omega) (h := h4) (tb := tb)
  have s04 : Sm NoB h h4 := (s01.trans s12 (fun _ _ h => h) (fun _ _ h => h)).trans s24 (fun _ _ h => h) (fun _ _ h => h)
  have s05 : Sm NoB h h5 := s04.trans s45 (fun _ _ h => h) (fun _ _ h => h)
  have q45 := s45.1
  have hF0lt := hc2.flt
  have key : ∀ tm, tm.gt 1 = some (.ptr (some (h.next, 0))) → tm.gt 3 = some (.ptr (some (h2.next, 0))) → tm.gt 10 = some (.func (.func 87) [] [.ptr (some (bx, 0))]) → tm.gt 29 = none → run (C m) 100000 29 41 none c41_16 [.blk 0, .seq (.seq c41_21 (.seq c41_23 .ret))] tm h5 QQ := by
    intro tm t1 t3 t10 t29
    refine run_rangeF (t := 10) (i := 87) (ps := [11]) (A := c41_16A) (B := c41_16B) t10 ?_
    generalize hlb : LRec.mk .ready none 41 (tm.up none 29) [11] c41_16A c41_16B = lr
    have b1 : lr.tm.gt 1 = some (.ptr (some (h.next, 0))) := by rw [← hlb]; show (tm.up none 29).gt 1 = _; simp only [SS, Nat.reduceBEq, Nat.reduceEqDiff, Nat.reduceAdd, reduceIte, Nat.reduceMul, t1]
    have b3 : lr.tm.gt 3 = some (.ptr (some (h2.next, 0))) := by rw [← hlb]; show (tm.up none 29).gt 3 = _; simp only [SS, Nat.reduceBEq, Nat.reduceEqDiff, Nat.reduceAdd, reduceIte, Nat.reduceMul, t3]
    have b29 : lr.tm.gt 29 = none := by rw [← hlb]; show (tm.up none 29).gt 29 = _; simp only [SS, Nat.reduceBEq, Nat.reduceEqDiff, Nat.reduceAdd, reduceIte, Nat.reduceMul]
    obtain ⟨h7, e7⟩ : ∃ h7, h5.new h5.next (.loop lr) = h7 := ⟨_, rfl⟩
    have m7 : h7.bs.gt h5.next = some (.loop lr) := by rw [← e7, new_get' (Nat.le_refl _), if_pos rfl]
    have n7 : h7.next = h5.next + 1 := by rw [← e7, new_next' (Nat.le_refl _)]
    have s57 : Sm NoB h5 h7 := ⟨by omega, fun c hc _ => by rw [← e7, new_get' (Nat.le_refl _), if_neg (by omega)]⟩
    rw [e7]
    have s07 : Sm NoB h h7 := s05.trans s57 (fun _ _ h => h) (fun _ _ h => h)
    have s47 : Sm NoB h4 h7 := s45.trans s57 (fun _ _ h => h) (fun _ _ h => h)
    have s27 : Sm NoB h2 h7 := s24.trans s47 (fun _ _ h => h) (fun _ _ h => h)
    have ht7 := ht.sm s07 (fun _ _ h => h)
    have hc7 := hc2.sm s27 (fun _ _ h => h)
    have hJ : ∀ h1, Sm NoB h7 h1 → J41 h h5.next h.next h2.next tb ctb h7.next h1.next L R next F 0 h1 := fun h1 s => by
      have q := s.1
      exact ⟨⟨lr, (s.2 _ (by omega) (fun h => h)).trans m7, by rw [← hlb], by rw [← hlb], by rw [← hlb], by rw [← hlb], by rw [← hlb], by rw [← hlb], b1, b3, b29⟩, ⟨_, (r1_4.sm s47 (by omega) (fun h => h)).sm s (by omega) (fun h => h)⟩, ⟨_, (w2.sm s47 (by omega) (fun h => h)).sm s (by omega) (fun h => h)⟩, ht7.sm s (fun _ _ h => h), ⟨1, F0, hc7.sm s (fun _ _ h => h), fun b hb => by
        have a1 := hF0 b hb
        have a2 := hF0lt b hb
        exact ⟨by omega, by omega, by omega, by omega, .inl (by omega)⟩⟩, s07.trans s (fun _ _ h => h) (fun _ _ h => h), ⟨by omega, by omega, by omega, Nat.le_refl _⟩, ⟨by omega, by omega, by omega⟩, ⟨by omega, by omega⟩, hflt⟩
    obtain ⟨_, h8, e8, hres⟩ := allIt_ok (n := m) (by omega) ht7 hrel (by omega) (bx := bx) (l := h5.next) (rx.sm s57 lx (fun h => h))
      (fun hi i h' => J41 h h5.next h.next h2.next tb ctb h7.next hi L R next F i h') (fun _ => False) hJ
      (fun hi i h1 hlt hj' hle => by
        obtain ⟨v, h2, e, rfl, j2, s2⟩ := cround_ok (m := m - 1) (by omega) hrel (by omega) hj' hlt (by omega)
        exact ⟨_, h2, e, .inl ⟨rfl, j2⟩, s2⟩)
    obtain ⟨hi, hj8⟩ := hres.resolve_right (fun h => h)
    obtain ⟨⟨b, q1, q2, q3, q4, q5, q6, q7, q8, q9, q10⟩, ⟨z1, r18⟩, ⟨z3, r38⟩, ht8, ⟨nx, Fc, hc8, hfc⟩, sm8, ⟨l1, l3, ll, _⟩, ge, ne, fb⟩ := hj8
    rw [List.take_length] at hc8
    refine ⟨_, h8, e8, b, q1, (by rw [q2]; exact fun e => by cases e), ?_⟩
    rw [q3]
    obtain ⟨h9, e9, m9, n9, s9⟩ := put_sm (h := h8) (b := h5.next) (x := .loop { b with st := .exhausted, pending := none })
    show ret (C m) 100000 29 41 none .normal [.blk 0, .seq (.seq c41_21 (.seq c41_23 .ret))] tm (h8.put h5.next (.loop { b with st := .exhausted, pending := none })) QQ
    rw [e9]
    obtain ⟨h10, e10, s10, b10, n10⟩ := Sm.bump h9 8
    have sall : Sm (· = h5.next) h8 h10 := s9.trans s10 (fun _ _ h => h) (fun _ _ h => h.elim)
    have q8' := sm8.1
    have k1 := (r18.sm sall l1 (by omega)).ld1 0
    have r310 := r38.sm sall l3 (by omega)
    have k3 := r310.ld1 0
    have ht10 := ht8.sm sall (fun b hb e => by have := fb b hb; omega)
    have hc10 := hc8.sm sall (fun b hb e => (hfc b hb).2.2.2.1 e)
    have hnx := ht10.nxt
    obtain ⟨B, t5⟩ := ht10.ok
    rw [List.getElem?_cons_zero] at k1 k3
    have hcF : Fc ctb := by obtain ⟨mb, xx, es, k, B, X, _, _, _, _, _, _, _, _, _, rfl⟩ := hc8.ex; exact .inl rfl
    obtain ⟨h11, y1, hc11, y4⟩ := hc10.st2 (x := next) (fun c hc => (t5.ch c ((hrel.mem c).1 hc)).2.1) t5.next
    have hctb := hfc ctb hcF
    have k3' := (r310.sm y4 (by have := sall.1; omega) (fun e => hctb.2.2.1 e.symm)).ld1 0
    rw [List.getElem?_cons_zero] at k3'
    simp only [F41, SS, Nat.reduceBEq, Nat.reduceEqDiff, Nat.reduceAdd, reduceIte, Nat.reduceMul, t1, t3, e10, k1, k3, x_fa_87_2, hnx, y1, k3']
    refine hQ _ _ _ _ (.inr rfl) (by simp only [SS, Nat.reduceBEq, t29]) (by simp only [SS, Nat.reduceBEq, Nat.reduceEqDiff, Nat.reduceAdd, reduceIte, Nat.reduceMul, t29]; rfl) ?_
    refine ⟨ctb, Fc, rfl, hc11, ⟨by have := sall.1; have := y4.1; omega, fun c hc hF => ?_⟩, fun b hb => (hfc b hb).1⟩
    rw [y4.2 c (by have := sall.1; omega) (by omega), sall.2 c (by omega) (by omega), sm8.2 c hc hF]
  have eb1 : box1 (.ptr (some (tb, 0))) = some (.cells (fillC [.ptr (some (tb, 0))] .leaf 0) [] 1 false, ptrTo) := rfl
  simp only [F41, SS, Nat.reduceBEq, Nat.reduceEqDiff, Nat.reduceAdd, reduceIte, Nat.reduceMul, eb1, e1, l1_0, ea, eb, x_al_24, e3, w1, l1_4, ec]
  exact key _ (by simp only [SS, Nat.reduceBEq]) (by simp only [SS, Nat.reduceBEq]) (by simp only [SS, Nat.reduceBEq]) (by simp only [SS, Nat.reduceBEq])
end
end Go.Proofs.Ytlfednnfkejcjaa

namespace Go.Proofs.Ytlfednnfkejcjaa
open Go.Am
set_option maxRecDepth 10000
def spoilt : List Nat := [115, 112, 111, 105, 108, 116]
theorem spoilt_b : Byts spoilt := by
  intro i c h
  have := List.mem_of_getElem? h
  simp only [spoilt, List.mem_cons, List.not_mem_nil, or_false] at this
  omega
section
variable {h h1 h3 : Heap} {tb rb : Nat} {L R : List Ch} {next : Int} {F : Nat → Prop} {bs : List Nat}
theorem Nx.post {n : Nat} (x : Nx h h1 tb rb L R next F bs n) (s : Sm NoB h1 h3) : Nx h h3 tb rb L R next F bs n := by
  obtain ⟨⟨L', R', next', F', bs', a, b, c⟩, d⟩ := x
  exact ⟨⟨L', R', next', F', bs', a.no s, b, c⟩, d.trans s (fun _ _ h => h) (fun _ _ h => h.elim)⟩
theorem check_ok {m : Nat} (hm : 7 ≤ m) (hs : St h tb rb L R next F bs) (hlen : L.length ≤ 800) (a : Ac) (ok : a.Ok) : ∃ h1 h2 h3 h4, C m (.fn 43) [.ptr (some (tb, 0)), .ptr (some (rb, 0)), .agg a.c] h = some (.bool true, h1) ∧ C m (.fn 44) [.ptr (some (tb, 0)), .ptr (some (rb, 0)), u a.ask, .str a.other] h1 = some (.bool true, h2) ∧
    C m (.fn 44) [.ptr (some (tb, 0)), .ptr (some (rb, 0)), u a.id, .str a.data] h2 = some (.bool true, h3) ∧ C m (.fn 45) [.ptr (some (tb, 0)), .ptr (some (rb, 0))] h3 = some (.bool true, h4) ∧ Sm (StF F rb bs) h h1 ∧ Sm NoB h1 h2 ∧ Nx h h4 tb rb L R next F bs L.length := by
  obtain ⟨_, h1, e1, rfl, nx⟩ := one_ok (n := m) hm hs (by omega) a ok
  obtain ⟨hid, hbd, hbo, _, hld, hlo⟩ := ok
  obtain ⟨⟨L', R', next', F', bs', a1, a2, a3⟩, d⟩ := id nx
  obtain ⟨_, h2, e2, rfl, s2⟩ := alike_ok (n := m) (by omega) a1 (by omega) a.ask (s := a.other) (by omega) hbo
  obtain ⟨_, h3, e3, rfl, s3⟩ := alike_ok (n := m) (by omega) (a1.no s2) (by omega) a.id (s := a.data) (by omega) hbd
  obtain ⟨_, h4, e4, rfl, s4⟩ := listed_ok (n := m) (by omega) ((a1.no s2).no s3) (by omega)
  exact ⟨h1, h2, h3, h4, e1, e2, e3, e4, d, s2, ((nx.post s2).post s3).post s4⟩
theorem both_copy {m : Nat} (hm : 8 ≤ m) (hs : St h tb rb L R next F bs) (hlen : L.length ≤ 800) (id : Int) : ∃ ctb rb' r3 r4 r5 h1 h2 h3 h4 h5, C m (.fn 41) [.ptr (some (tb, 0))] h = some (.ptr (some (ctb, 0)), h1) ∧ C m (.fn 42) [.ptr (some (rb, 0))] h1 = some (.ptr (some (rb', 0)), h2) ∧
    C m (.fn 17) [.ptr (some (tb, 0)), .str spoilt, .int .i64 1] h2 = some (r3, h3) ∧ C m (.fn 15) [.ptr (some (tb, 0)), u id] h3 = some (r4, h4) ∧ C m (.fn 37) [.ptr (some (tb, 0)), u 1048576] h4 = some (r5, h5) ∧ Sm F h h3 ∧ Sm F h h5 ∧ ∃ F' bs', St h5 ctb rb' R R next F' bs' ∧ ∀ b, StF F' rb' bs' b → h.next ≤ b := by
  have hrl := hs.rel.len
  obtain ⟨_, h1, e1, ctb, F', rfl, hc1, s01, hF'⟩ := copy_ok (n := m) hm hs.t hs.rel (by omega)
  obtain ⟨_, h2, e2, rb', bs', rfl, hr2, s12, hrb, hbs⟩ := rcopy_ok (n := m) (by omega) (hs.r.no s01) (by omega)
  have s02 : Sm NoB h h2 := s01.trans s12 (fun _ _ h => h) (fun _ _ h => h)
  have hft := hs.t.flt
  have hc2 := hc1.sm s12 (fun _ _ h => h)
  have hcl := hc1.flt
  have hcl2 := hc2.flt
  have hrl2 := hr2.flt
  have ht2 := hs.t.sm s02 (fun _ _ h => h)
  have q01 := s01.1
  have q12 := s12.1
  obtain ⟨r3, h3, e3, c3⟩ := tadd_full (n := m) (by omega) ht2 (s := spoilt) 1 (by decide) spoilt_b (by omega)
  obtain ⟨L3, n3, F3, t3, f3, s23⟩ : ∃ L3 n3 F3, TabAt h3 tb L3 n3 F3 ∧ (∀ b, F3 b → F b ∨ h2.next ≤ b) ∧ Sm F h2 h3 := by
    rcases c3 with ⟨_, _, s⟩ | ⟨_, ⟨_, _, s⟩ | ⟨_, ⟨_, _, s⟩ | ⟨_, _, F3, t, s, f⟩⟩⟩
    · exact ⟨_, _, _, ht2.sm s (fun _ _ h => h), fun b hb => .inl hb, s.no⟩
    · exact ⟨_, _, _, ht2.sm s (fun _ _ h => h), fun b hb => .inl hb, s.no⟩
    · exact ⟨_, _, _, ht2.sm s (fun _ _ h => h), fun b hb => .inl hb, s.no⟩
    · exact ⟨_, _, F3, t, f, s⟩
  obtain ⟨r4, h4, e4, c4⟩ := release_full (n := m) (by omega) t3 id
  obtain ⟨L4, F4, t4, f4, s34⟩ : ∃ L4 F4, TabAt h4 tb L4 n3 F4 ∧ (∀ b, F4 b → F3 b) ∧ Sm F3 h3 h4 := by
    rcases c4 with ⟨_, _, s⟩ | ⟨c, _, s, ⟨_, _, t⟩ | ⟨_, _, F4, t, f⟩⟩
    · exact ⟨_, _, t3.sm s (fun _ _ h => h), fun b hb => hb, s.no⟩
    · exact ⟨_, _, t, fun b hb => hb, s⟩
    · exact ⟨_, F4, t, f, s⟩
  obtain ⟨r5, h5, e5, t5, s45⟩ := tskip_ok (n := m) (by omega) t4 1048576 (by decide)
  have s25 : Sm (fun b => F b ∨ h2.next ≤ b) h2 h5 := (s23.trans s34 (fun _ _ h => .inl h) (fun c hc h => f3 c h) : Sm (fun b => F b ∨ h2.next ≤ b) h2 h4).trans s45 (fun _ _ h => h) (fun c hc h => f3 c (f4 c h))
  have hdj : ∀ b, b < h2.next → h.next ≤ b → ¬ (F b ∨ h2.next ≤ b) := by
    rintro b h8 h9 (h7 | h7)
    · have := hft b h7; omega
    · omega
  have hbs' : ∀ b, b ∈ bs' → h.next ≤ b := fun b hb => by have := hbs b hb; omega
  refine ⟨ctb, rb', r3, r4, r5, h1, h2, h3, h4, h5, e1, e2, e3, e4, e5, s02.trans s23 (fun _ _ h => h.elim) (fun _ _ h => h), s02.trans s25 (fun _ _ h => h.elim) (fun c hc h => h.elim (fun h => h) (fun h => by omega)), F', bs', ⟨hc2.sm s25 (fun b hb => hdj b (hcl2 b hb) (hF' b hb)), hr2.sm s25 (hdj _ (hrl2 _ (.inl rfl)) (by omega)) (fun b hb => hdj b (hrl2 b (.inr hb)) (hbs' b hb)), hs.rel.self, fun b hb hr => ?_⟩, fun b hb => ?_⟩
  · have a1 := hcl b hb
    rcases hr with rfl | hr
    · omega
    · have := hbs b hr; omega
  · rcases hb with hb | rfl | hb
    · exact hF' b hb
    · omega
    · exact hbs' b hb
end
end Go.Proofs.Ytlfednnfkejcjaa

namespace Go.Proofs.Ytlfednnfkejcjaa
open Go.Am
set_option maxRecDepth 10000
def AcR (x : Ac) : Prop := (0 ≤ x.id ∧ x.id ≤ 4294967295) ∧ Byts x.data ∧ Byts x.other ∧ (0 ≤ x.ask ∧ x.ask ≤ 4294967295)
theorem plays_ok {n : Nat} (hn : 10 ≤ n) {h : Heap} {v : AV} {A : List Ac} (hv : Acs h v A) (hok : ∀ i, i < A.length → AcR (Ai A i)) :
    WC (C n (.fn 9) [v] h) fun r _ => r = .bool true := by
  obtain ⟨a, c, g, rfl⟩ := hv.sl
  have hvl : ∀ b, blkOf (.slice a A.length c g) b → b < h.next := fun b hb => hv.lt hb
  obtain ⟨m, rfl⟩ : ∃ m, n = m + 1 := ⟨n - 1, by omega⟩
  refine call_fn _ f9A rfl (by simp [fn9]) fun QQ hQ => ?_
  simp only [fn9] at hQ
  simp only [fn9, fill_cons, fill_nil, Nat.zero_add, Nat.reduceAdd]
  obtain ⟨_, h0, e1, rfl, b, rfl, hb⟩ := few_ok (n := m) (by omega) hv
  cases b with
  | false =>
    have e2 := works_ok (n := m) (by omega) h0
    simp only [F9, SS, Nat.reduceBEq, Nat.reduceEqDiff, Nat.reduceAdd, reduceIte, Nat.reduceMul, e1, e2]
    refine hQ _ _ _ _ (.inr rfl) (by simp only [SS, Nat.reduceBEq]) (by simp only [SS, Nat.reduceBEq, Nat.reduceEqDiff, Nat.reduceAdd, reduceIte, Nat.reduceMul]; rfl) ?_
    rfl
  | true =>
  obtain ⟨hA60, hA100⟩ := hb rfl
  obtain ⟨_, h1, e2, tb, F, rfl, ht1, s01, hF⟩ := tnew_ok (n := m) (by omega) (h := h0)
  obtain ⟨_, h2, e3, rb, rfl, hr2, s12, hrb⟩ := rnew_ok (n := m) (by omega) (h := h1)
  have hflt := ht1.flt
  have s02 : Sm NoB h0 h2 := s01.trans s12 (fun _ _ h => h) (fun _ _ h => h)
  have hs2 : St h2 tb rb [] [] 1 F [] := ⟨ht1.sm s12 (fun _ _ h => h), hr2, Rel.nil, fun b hb h => by
    have := hflt b hb
    rcases h with rfl | h
    · omega
    · cases h⟩
  have q01 := s01.1
  have hge2 : ∀ b, StF F rb [] b → h0.next ≤ b := by
    rintro b (hb | rfl | hb)
    · exact hF b hb
    · omega
    · cases hb
  simp only [F9, SS, Nat.reduceBEq, Nat.reduceEqDiff, Nat.reduceAdd, reduceIte, Nat.reduceMul, e1, e2, e3]
  refine run_loop (c := c9_19) (I := fun m' tm' h' => ∃ i tb rb L R next F bs, i ≤ A.length ∧ m' = A.length - i ∧ St h' tb rb L R next F bs ∧ L.length ≤ i ∧ (∀ b, StF F rb bs b → h0.next ≤ b) ∧ Sm NoB h0 h' ∧ tm'.gt 0 = some (.slice a A.length c g) ∧ tm'.gt 3 = some (.ptr (some (tb, 0))) ∧ tm'.gt 4 = some (.ptr (some (rb, 0))) ∧ tm'.gt 5 = some (I i) ∧ tm'.gt 73 = none) (n := A.length)
    ⟨0, tb, rb, [], [], 1, F, [], by omega, rfl, hs2, Nat.le_refl _, hge2, s02, by simp only [SS, Nat.reduceBEq], by simp only [SS, Nat.reduceBEq], by simp only [SS, Nat.reduceBEq], by simp only [SS, Nat.reduceBEq, Nat.reduceEqDiff, Nat.reduceAdd, reduceIte, Nat.reduceMul]; rfl, by simp only [SS, Nat.reduceBEq]⟩ (by omega) ?_
  clear hs2 hge2 hF ht1 hr2 hflt
  rintro _ tm h3 ⟨i, tb, rb, L, R, next, F, bs, hil, rfl, hs, hLi, hge, s03, t0, t3, t4, t5, t73⟩ Q1 hN1 hE
  by_cases hlt : i < A.length
  · have hlt' : (i : Int) < (A.length : Int) := by omega
    have hv3 : Acs h3 (.slice a A.length c g) A := hv.sm s03 (fun _ _ h => h)
    obtain ⟨ab, ao, rfl, _, _, _, _, _, _, _, ldn⟩ := hv3.at hlt
    have x2 := x_ia_60 (k := .i64) (b := ab) (o := ao) (c := c) (g := g) hlt
    obtain ⟨x, hx⟩ : ∃ x, Ai A i = x := ⟨_, rfl⟩
    have hokx := hok i hlt
    have h100 := hA100 i hlt
    rw [hx] at ldn hokx h100
    have okx : x.Ok := ⟨hokx.1, hokx.2.1, hokx.2.2.1, hokx.2.2.2, h100.1, h100.2⟩
    obtain ⟨h4, e4, r4, n4, g4⟩ := Rw.alloc h3 (id := h3.next) (n := 7) (vs := [(AV.int .u8 0), (AV.int .u32 0), (AV.str []), (AV.int .i64 0), (AV.int .i64 0), (AV.int .u32 0), (AV.str [])]) (z := tyMark 65 true) (ro := false) (Nat.le_refl _) rfl
    obtain ⟨w1, w2, w3, w4⟩ := r4.sto (o := 0) (us := x.c) (by simp [Ac.c]) rfl
    rw [show putL [(AV.int .u8 0), (AV.int .u32 0), (AV.str []), (AV.int .i64 0), (AV.int .i64 0), (AV.int .u32 0), (AV.str [])] 0 x.c = x.c from rfl] at w2
    generalize h4.wr h3.next 0 x.c = h5 at w1 w2 w3 w4
    have s35 : Sm NoB h3 h5 := ⟨by omega, fun c hc _ => by rw [w4 c (by omega), g4 c (by omega)]⟩
    have hs5 := hs.no s35
    have hfl3 := hs.flt
    have q03 := s03.1
    have k0 := w2.ld1 0
    rw [show x.c[0]? = some (.int .u8 x.what) from rfl] at k0
    obtain ⟨q, hq⟩ : ∃ q, q = x.what.tmod 9 := ⟨_, rfl⟩
    have hrem : bin2 P .rem 5 (.int .u8 x.what) (.int .u8 9) = some (.int .u8 q) := by rw [hq]; exact b_rem (by decide)
    have hl7 : x.c.length = 7 := rfl
    have rd : ∀ {hh : Heap}, Rw hh h3.next x.c (tyMark 65 true) false → hh.ld h3.next 0 7 = some x.c ∧ hh.ld1 h3.next 1 = some (u x.id) ∧ hh.ld1 h3.next 2 = some (.str x.data) ∧ hh.ld1 h3.next 5 = some (u x.ask) ∧ hh.ld1 h3.next 6 = some (.str x.other) := by
      intro hh r
      refine ⟨?_, r.ld1 1, r.ld1 2, r.ld1 5, r.ld1 6⟩
      rw [r.ld (i := 0) (n := 7) (by rw [hl7]; omega)]; rfl
    by_cases q8 : q = 8
    · have d8 : decide (q = 8) = true := decide_eq_true q8
      obtain ⟨ctb, rb', r3, r4', r5, g1, g2, g3, g4', g5, f1, f2, f3, f4, f5, sg3, sg5, F', bs', hs6, hge6⟩ := both_copy (m := m) (by omega) hs5 (by omega) x.id
      simp only [spoilt] at f3
      have nF : ¬ F h3.next := fun h => by have := hfl3 _ (.inl h); omega
      have w2g3 := w2.sm sg3 (by omega) nF
      have w2g5 := w2.sm sg5 (by omega) nF
      have qg5 := sg5.1
      obtain ⟨h6, h7, h8, h9, c1, c2, c3, c4, sm6, sm7, nx⟩ := check_ok (m := m) (by omega) hs6 (by have := hs.rel.len; omega) x okx
      have nF6 : ¬ StF F' rb' bs' h3.next := fun h => by have := hge6 _ h; omega
      have w26 := w2g5.sm sm6 (by omega) nF6
      have w27 := w26.sm sm7 (by have := sm6.1; omega) (fun h => h)
      obtain ⟨_, a31, _, _, _⟩ := rd w2g3
      obtain ⟨a50, _⟩ := rd w2g5
      obtain ⟨_, _, _, a63, a64⟩ := rd w26
      obtain ⟨_, a71, a72, _, _⟩ := rd w27
      simp only [F9, SS, Nat.reduceBEq, Nat.reduceEqDiff, Nat.reduceAdd, reduceIte, Nat.reduceMul, t0, t3, t4, t5, x_len_60, hlt', x2, ldn, x_al_65, e4, st_agg hl7, w1, x_fa_65_0, x_fa_65_1, x_fa_65_2, x_fa_65_5, x_fa_65_6, k0, hrem, d8, f1, f2, f3, a31, f4, f5, a50, c1, a63, a64, c2, a71, a72, c3, c4, w_undef, wAdd1 (show i ≤ 1000000 by omega)]
      obtain ⟨⟨L', R', next', F'', bs'', a1, a2, a3⟩, d⟩ := nx
      have hrl := hs.rel.len
      refine hN1 _ _ (A.length - (i + 1)) (by omega) ⟨i + 1, ctb, rb', L', R', next', F'', bs'', hlt, rfl, a1, by omega, fun b hb => ?_, ?_, by simp only [SS, Nat.reduceBEq, t0], by simp only [SS, Nat.reduceBEq], by simp only [SS, Nat.reduceBEq], by simp only [SS, Nat.reduceBEq], by simp only [SS, Nat.reduceBEq, t73]⟩
      · rcases a3 b hb with h | h
        · have := hge6 b h; omega
        · omega
      · have s05 : Sm NoB h0 h5 := s03.trans s35 (fun _ _ h => h) (fun _ _ h => h)
        exact (s05.trans sg5 (fun _ _ h => h) (fun c hc h => by have := hge c (.inl h); omega)).trans d (fun _ _ h => h) (fun c hc h => by have := hge6 c h; omega)
    · have d8 : decide (q = 8) = false := decide_eq_false q8
      obtain ⟨h6, h7, h8, h9, c1, c2, c3, c4, sm6, sm7, nx⟩ := check_ok (m := m) (by omega) hs5 (by omega) x okx
      have nF6 : ¬ StF F rb bs h3.next := fun h => by have := hfl3 _ h; omega
      have w26 := w2.sm sm6 (by omega) nF6
      have w27 := w26.sm sm7 (by have := sm6.1; omega) (fun h => h)
      obtain ⟨a50, _⟩ := rd w2
      obtain ⟨_, _, _, a63, a64⟩ := rd w26
      obtain ⟨_, a71, a72, _, _⟩ := rd w27
      simp only [F9, SS, Nat.reduceBEq, Nat.reduceEqDiff, Nat.reduceAdd, reduceIte, Nat.reduceMul, t0, t3, t4, t5, x_len_60, hlt', x2, ldn, x_al_65, e4, st_agg hl7, w1, x_fa_65_0, x_fa_65_1, x_fa_65_2, x_fa_65_5, x_fa_65_6, k0, hrem, d8, a50, c1, a63, a64, c2, a71, a72, c3, c4, w_undef, wAdd1 (show i ≤ 1000000 by omega)]
      obtain ⟨⟨L', R', next', F'', bs'', a1, a2, a3⟩, d⟩ := nx
      refine hN1 _ _ (A.length - (i + 1)) (by omega) ⟨i + 1, tb, rb, L', R', next', F'', bs'', hlt, rfl, a1, by omega, fun b hb => ?_, ?_, by simp only [SS, Nat.reduceBEq, t0], by simp only [SS, Nat.reduceBEq, t3], by simp only [SS, Nat.reduceBEq, t4], by simp only [SS, Nat.reduceBEq], by simp only [SS, Nat.reduceBEq, t73]⟩
      · rcases a3 b hb with h | h
        · exact hge b h
        · omega
      · have s05 : Sm NoB h0 h5 := s03.trans s35 (fun _ _ h => h) (fun _ _ h => h)
        exact s05.trans d (fun _ _ h => h) (fun c hc h => by have := hge c h; omega)
  · have hlt' : ¬ (i : Int) < (A.length : Int) := by omega
    have e9 := works_ok (n := m) (by omega) h3
    simp only [F9, SS, Nat.reduceBEq, Nat.reduceEqDiff, Nat.reduceAdd, reduceIte, Nat.reduceMul, t0, t5, x_len_60, hlt']
    refine hE _ _ _ (by simp) ?_
    simp only [F9, SS, Nat.reduceBEq, Nat.reduceEqDiff, Nat.reduceAdd, reduceIte, Nat.reduceMul, e9]
    refine hQ _ _ _ _ (.inr rfl) (by simp only [SS, Nat.reduceBEq, t73]) (by simp only [SS, Nat.reduceBEq, Nat.reduceEqDiff, Nat.reduceAdd, reduceIte, Nat.reduceMul, t73]; rfl) ?_
    rfl
end Go.Proofs.Ytlfednnfkejcjaa

namespace Go.Proofs.Ytlfednnfkejcjaa
open Go.ChangeShapes Go.WideShapes Go.Am Go.Deep
set_option maxRecDepth 10000
theorem exists_list {α : Type} {Pr : Nat → α → Prop} : ∀ n, (∀ i, i < n → ∃ x, Pr i x) → ∃ l : List α, l.length = n ∧ ∀ i, i < n → ∃ x, l[i]? = some x ∧ Pr i x
  | 0, _ => ⟨[], rfl, fun i h => by omega⟩
  | n + 1, h => by
    obtain ⟨l, hl, hp⟩ := exists_list n fun i hi => h i (by omega)
    obtain ⟨x, hx⟩ := h n (by omega)
    refine ⟨l ++ [x], by simp [hl], fun i hi => ?_⟩
    by_cases e : i < n
    · obtain ⟨y, hy, hp'⟩ := hp i e
      exact ⟨y, by rw [List.getElem?_append_left (by omega)]; exact hy, hp'⟩
    · obtain rfl : i = n := by omega
      refine ⟨x, ?_, hx⟩
      rw [List.getElem?_append_right (by omega), hl]; simp
def bts (s : ByteArray) : List Nat := s.data.toList.map (·.toNat)
theorem byts_bts {l : List Nat} {s : ByteArray} (h : l = bts s) : Byts l := by
  subst h
  intro i c hc
  unfold bts at hc
  rw [List.getElem?_map] at hc
  cases hx : s.data.toList[i]? with
  | none => rw [hx] at hc; cases hc
  | some y => rw [hx] at hc; cases hc; exact y.toNat_lt
noncomputable def fs65 : Array Field := match Try.prog.underlying 65 with
  | some (.struct fs) => fs
  | _ => #[]
theorem un65 : Try.prog.underlying 65 = some (.struct fs65) := by kernel_rfl
theorem one65 : oneCellFields Try.prog fs65 = true := by kernel_rfl
theorem size65 : fs65.size = 7 := by kernel_rfl
theorem ce65 : Try.prog.cellsOf 65 = 7 := by kernel_rfl
theorem us60 : Try.prog.underlying 60 = some (.slice 65) := by kernel_rfl
theorem ty65_0 : (fs65[0]?).map (·.type) = some 5 := by kernel_rfl
theorem ty65_1 : (fs65[1]?).map (·.type) = some 27 := by kernel_rfl
theorem ty65_2 : (fs65[2]?).map (·.type) = some 9 := by kernel_rfl
theorem ty65_3 : (fs65[3]?).map (·.type) = some 3 := by kernel_rfl
theorem ty65_4 : (fs65[4]?).map (·.type) = some 3 := by kernel_rfl
theorem ty65_5 : (fs65[5]?).map (·.type) = some 27 := by kernel_rfl
theorem ty65_6 : (fs65[6]?).map (·.type) = some 9 := by kernel_rfl
theorem un65_3 : Try.prog.underlying 3 = some (.int .i64) := by kernel_rfl
theorem un65_5 : Try.prog.underlying 5 = some (.int .u8) := by kernel_rfl
theorem un65_9 : Try.prog.underlying 9 = some .string := by kernel_rfl
theorem un65_27 : Try.prog.underlying 27 = some (.int .u32) := by kernel_rfl
def AcAt (W : World) (a : Addr) (i : Nat) (x : Ac) : Prop := ∃ s2 s6, W.cell? (a.add (i * 7)) = some (.int .u8 x.what) ∧ 0 ≤ x.what ∧ x.what ≤ 255 ∧ W.cell? (a.add (i * 7 + 1)) = some (.int .u32 x.id) ∧ 0 ≤ x.id ∧ x.id ≤ 4294967295 ∧ x.data = bts s2 ∧ W.cell? (a.add (i * 7 + 2)) = some (.string s2) ∧ W.cell? (a.add (i * 7 + 3)) = some (.int .i64 x.block) ∧ -9223372036854775808 ≤ x.block ∧ x.block ≤ 9223372036854775807 ∧ W.cell? (a.add (i * 7 + 4)) = some (.int .i64 x.refs) ∧ -9223372036854775808 ≤ x.refs ∧ x.refs ≤ 9223372036854775807 ∧ W.cell? (a.add (i * 7 + 5)) = some (.int .u32 x.ask) ∧ 0 ≤ x.ask ∧ x.ask ≤ 4294967295 ∧ x.other = bts s6 ∧ W.cell? (a.add (i * 7 + 6)) = some (.string s6)
def Ac.Rng (x : Ac) : Prop := 0 ≤ x.what ∧ x.what ≤ 255 ∧ 0 ≤ x.id ∧ x.id ≤ 4294967295 ∧ Byts x.data ∧ -9223372036854775808 ≤ x.block ∧ x.block ≤ 9223372036854775807 ∧ -9223372036854775808 ≤ x.refs ∧ x.refs ≤ 9223372036854775807 ∧ 0 ≤ x.ask ∧ x.ask ≤ 4294967295 ∧ Byts x.other
section
variable {H : Type} {enc : TypeId × Value → H}
theorem Ac_in {W : World} {base n : Nat} {sp : Nat → Bool} {held : Bool} {a : Addr} {i : Nat} {cs' : List Value} {x : DataW H × List MemPlace} (hc : W.cells? base (a.add (i * 7)) 7 = some cs') (ht : DataW.trod enc Try.prog W base sp held n 65 cs' = some x) : ∃ x, AcAt W a i x := by
  obtain ⟨ys, n', _, _, hlen, hyl, hf⟩ := DataW.trod_struct un65 ht
  obtain ⟨_, hcl, hat⟩ := World.cells?_some hc
  rw [size65] at hyl
  have get : ∀ j t, j < 7 → (fs65[j]?).map (·.type) = some t → ∃ v y, W.cell? (a.add (i * 7 + j)) = some v ∧ DataW.trod enc Try.prog W base sp held n' t [v] = some y := by
    intro j t hj htj
    cases hfj : fs65[j]? with
    | none => rw [hfj] at htj; cases htj
    | some f =>
      rw [hfj] at htj
      have htj : f.type = t := Option.some.inj htj
      obtain ⟨ho, hk⟩ := hone_of one65 j f hfj
      have h1 := hf j f hfj
      rw [ho, hk] at h1
      have hone' : (cs'.drop j).take 1 = [cs'[j]'(by omega)] := by
        rw [List.drop_eq_getElem_cons (by omega)]; rfl
      rw [hone', List.getElem?_eq_getElem (by omega), htj] at h1
      refine ⟨cs'[j]'(by omega), _, ?_, h1⟩
      rw [← add_add, hat j hj, List.getElem?_eq_getElem (by omega)]
  obtain ⟨v0, y0, c0, t0⟩ := get 0 5 (by omega) ty65_0
  obtain ⟨v1, y1, c1, t1⟩ := get 1 27 (by omega) ty65_1
  obtain ⟨v2, y2, c2, t2⟩ := get 2 9 (by omega) ty65_2
  obtain ⟨v3, y3, c3, t3⟩ := get 3 3 (by omega) ty65_3
  obtain ⟨v4, y4, c4, t4⟩ := get 4 3 (by omega) ty65_4
  obtain ⟨v5, y5, c5, t5⟩ := get 5 27 (by omega) ty65_5
  obtain ⟨v6, y6, c6, t6⟩ := get 6 9 (by omega) ty65_6
  obtain ⟨n0, e0, _, w0⟩ := DataW.trod_int un65_5 t0
  obtain ⟨n1, e1, _, w1⟩ := DataW.trod_int un65_27 t1
  obtain ⟨s2, e2, _, _⟩ := DataW.trod_string un65_9 t2
  obtain ⟨n3, e3, _, w3⟩ := DataW.trod_int un65_3 t3
  obtain ⟨n4, e4, _, w4⟩ := DataW.trod_int un65_3 t4
  obtain ⟨n5, e5, _, w5⟩ := DataW.trod_int un65_27 t5
  obtain ⟨s6, e6, _, _⟩ := DataW.trod_string un65_9 t6
  cases e0; cases e1; cases e2; cases e3; cases e4; cases e5; cases e6
  simp only [Lit.wf, Bool.and_eq_true, decide_eq_true_eq] at w0
  simp only [Lit.wf, Bool.and_eq_true, decide_eq_true_eq] at w1
  simp only [Lit.wf, Bool.and_eq_true, decide_eq_true_eq] at w3
  simp only [Lit.wf, Bool.and_eq_true, decide_eq_true_eq] at w4
  simp only [Lit.wf, Bool.and_eq_true, decide_eq_true_eq] at w5
  exact ⟨⟨n0, n1, bts s2, n3, n4, n5, bts s6⟩, s2, s6, c0, w0.1, w0.2, c1, w1.1, w1.2, rfl, c2, c3, w3.1, w3.2, c4, w4.1, w4.2, c5, w5.1, w5.2, rfl, c6⟩
theorem Acs_in {W : World} {base : Nat} {v : Value} {d : DataW H} {p : List MemPlace} {r : Reach} {b0 : Nat} (hok : Value.okWide Try.prog W r b0 60 v)
    (h : DataW.Trod enc Try.prog W base (fun _ => true) true 60 v d p) (i : Nat) :
    ∃ (it : ArgIt) (lv : AV) (L : List Ac), (∀ l1 l2 : List ArgIt, l1.length = i → VR (argP (l1 ++ it :: l2)) lv v ∧ Acs (argH (l1 ++ it :: l2)) lv L) ∧ (∀ ρ, ArgOk W ρ it) ∧ (∀ i, i < L.length → (Ai L i).Rng) := by
  obtain ⟨a0, len, cap, rfl⟩ := okWide_slice us60 hok
  obtain ⟨n, hn⟩ := h
  have hn : DataW.trod enc Try.prog W base (fun _ => true) true n 60 [.slice a0 len cap] = some (d, p) := hn
  have hat : ∀ (l1 l2 : List ArgIt) (it : ArgIt), l1.length = i → (l1 ++ it :: l2)[i]? = some it := fun l1 l2 it hl => by subst hl; simp
  rcases open_slice us60 hn with ⟨e1, _⟩ | ⟨a, len', cap', m, n', D, Pl, e1, _, hle, _, hm, _, hi⟩
  · cases e1
    exact ⟨⟨none, ⟨0, 0, 0⟩⟩, .slice none 0 0 none, [], fun l1 l2 _ => ⟨⟨rfl, rfl, rfl, rfl⟩, rfl, none, 0, none, rfl, fun _ => rfl, (fun _ _ e => by cases e)⟩, (fun _ _ e => by cases e), (fun _ h => absurd h (Nat.not_lt_zero _))⟩
  · cases e1
    have hm : m = cap := hm
    subst hm
    by_cases h0 : m = 0
    · subst h0
      obtain rfl : len = 0 := by omega
      refine ⟨⟨none, ⟨0, 0, 0⟩⟩, .slice (some (i, 0)) 0 0 none, [], fun l1 l2 hl => ⟨⟨⟨0, 0, 0⟩, a, 0, ?_, rfl, Nat.le_refl _, Nat.le_refl _, fun _ => rfl, (fun _ e => by cases e), fun h => absurd rfl h⟩, rfl, some (i, 0), 0, none, rfl, (fun e => by cases e), fun b o e => ?_⟩, (fun _ _ e => by cases e), (fun _ h => absurd h (Nat.not_lt_zero _))⟩
      · unfold argP; rw [hat l1 l2 _ hl]; rfl
      · cases e; exact ⟨args_lt (hat l1 l2 _ hl), fun h => absurd h (Nat.lt_irrefl 0)⟩
    · rw [ce65] at hi
      obtain ⟨L, hL, hLi⟩ := exists_list (Pr := AcAt W a) len fun j hj => by
        obtain ⟨cs', hc, ht⟩ := hi j (by omega)
        exact Ac_in hc ht
      obtain ⟨x0, h00⟩ := (fun ⟨cs', hc, ht⟩ => Ac_in hc ht : _ → ∃ x, AcAt W a 0 x) (hi 0 (by omega))
      obtain ⟨ps2, ps6, pc0, pa0, pb0, pc1, pa1, pb1, pe2, pc2, pc3, pa3, pb3, pc4, pa4, pb4, pc5, pa5, pb5, pe6, pc6⟩ := h00
      obtain ⟨blk, off, spot⟩ := a
      have hadd : ∀ j, (⟨blk, off, spot⟩ : Addr).add j = if j = 0 then ⟨blk, off, spot⟩ else ⟨blk, off + j, none⟩ := fun j => rfl
      rw [Nat.zero_mul, hadd, if_pos rfl] at pc0
      have hex : ∃ c e fz, W.heap[blk]? = some (.cells c e fz) ∧ spot = none := by
        unfold World.cell? at pc0
        cases hh : W.heap[blk]? with
        | none => rw [hh] at pc0; cases pc0
        | some ob =>
          rw [hh] at pc0
          cases ob with
          | cells c e fz =>
            cases spot with
            | none => exact ⟨c, e, fz, rfl, rfl⟩
            | some k => cases pc0
          | _ => cases pc0
      obtain ⟨c, e', fz, hblk, rfl⟩ := hex
      have hcell : ∀ j w, W.cell? ((⟨blk, off, none⟩ : Addr).add j) = some w → c[off + j]? = some w := fun j w hw => by
        rw [hadd] at hw
        split at hw
        · rename_i e0; subst e0; rw [cell_of_heap hblk] at hw; exact hw
        · rw [cell_of_heap hblk] at hw; exact hw
      obtain ⟨xl, hl0⟩ := (fun ⟨cs', hc, ht⟩ => Ac_in hc ht : _ → ∃ x, AcAt W ⟨blk, off, none⟩ (m - 1) x) (hi (m - 1) (by omega))
      obtain ⟨ls2, ls6, lc0, la0, lb0, lc1, la1, lb1, le2, lc2, lc3, la3, lb3, lc4, la4, lb4, lc5, la5, lb5, le6, lc6⟩ := hl0
      have hsz : off + m * 7 ≤ c.size := by
        have := (Array.getElem?_eq_some_iff.1 (hcell _ _ lc6)).1
        omega
      have hLv : ∀ j (hj : j < L.length), AcAt W ⟨blk, off, none⟩ j L[j] := fun j hj => by
        obtain ⟨x, hx, hp⟩ := hLi j (by omega)
        rw [List.getElem?_eq_getElem hj] at hx
        rw [Option.some.inj hx]; exact hp
      refine ⟨⟨some (csA L), ⟨blk, off, c.size⟩⟩, .slice (some (i, 0)) len m none, L, fun l1 l2 hl => ⟨⟨⟨blk, off, c.size⟩, ⟨blk, off, none⟩, m, ?_, rfl, hle, Nat.le_refl _, fun _ => rfl, (fun _ e => by cases e), fun _ => rfl⟩, ?_⟩, ?_, ?_⟩
      · unfold argP; rw [hat l1 l2 _ hl]; rfl
      · refine ⟨csA_len L, some (i, 0), m, none, by rw [hL], (fun e => by cases e), fun b o e => ?_⟩
        cases e
        refine ⟨args_lt (hat l1 l2 _ hl), fun _ => ?_⟩
        rw [(args_Rw (hat l1 l2 _ hl)).ld (by rw [csA_len]; omega), List.drop_zero, List.take_of_length_le (by rw [csA_len]; omega)]
      · intro ρ xs hcs
        cases hcs
        refine ⟨c, e', fz, hblk, rfl, by rw [csA_len, hL]; exact Nat.le_trans (Nat.add_le_add_left (Nat.mul_le_mul_right 7 hle) _) hsz, fun j w hw => ?_⟩
        have hjl : j < L.length * 7 := by have := (List.getElem?_eq_some_iff.1 hw).1; rw [csA_len] at this; exact this
        have hq : j / 7 < L.length := by omega
        have hjk : j = j / 7 * 7 + j % 7 := by omega
        obtain ⟨qs2, qs6, qc0, qa0, qb0, qc1, qa1, qb1, qe2, qc2, qc3, qa3, qb3, qc4, qa4, qb4, qc5, qa5, qb5, qe6, qc6⟩ := hLv (j / 7) hq
        rw [hjk, csA_get L (j / 7) hq (j % 7) (Nat.mod_lt _ (by omega))] at hw
        have hr : j % 7 = 0 ∨ j % 7 = 1 ∨ j % 7 = 2 ∨ j % 7 = 3 ∨ j % 7 = 4 ∨ j % 7 = 5 ∨ j % 7 = 6 := by omega
        rcases hr with hr | hr | hr | hr | hr | hr | hr
        · rw [hr] at hw; cases hw
          have h5 := hcell _ _ qc0
          rw [show j / 7 * 7 = j by omega] at h5
          exact ⟨rfl, _, h5, rfl⟩
        · rw [hr] at hw; cases hw
          have h5 := hcell _ _ qc1
          rw [show j / 7 * 7 + 1 = j by omega] at h5
          exact ⟨rfl, _, h5, rfl⟩
        · rw [hr] at hw; cases hw
          have h5 := hcell _ _ qc2
          rw [show j / 7 * 7 + 2 = j by omega] at h5
          exact ⟨rfl, _, h5, qs2, rfl, qe2.symm⟩
        · rw [hr] at hw; cases hw
          have h5 := hcell _ _ qc3
          rw [show j / 7 * 7 + 3 = j by omega] at h5
          exact ⟨rfl, _, h5, rfl⟩
        · rw [hr] at hw; cases hw
          have h5 := hcell _ _ qc4
          rw [show j / 7 * 7 + 4 = j by omega] at h5
          exact ⟨rfl, _, h5, rfl⟩
        · rw [hr] at hw; cases hw
          have h5 := hcell _ _ qc5
          rw [show j / 7 * 7 + 5 = j by omega] at h5
          exact ⟨rfl, _, h5, rfl⟩
        · rw [hr] at hw; cases hw
          have h5 := hcell _ _ qc6
          rw [show j / 7 * 7 + 6 = j by omega] at h5
          exact ⟨rfl, _, h5, qs6, rfl, qe6.symm⟩
      · intro j hj
        rw [Ai_at hj]
        obtain ⟨qs2, qs6, qc0, qa0, qb0, qc1, qa1, qb1, qe2, qc2, qc3, qa3, qb3, qc4, qa4, qb4, qc5, qa5, qb5, qe6, qc6⟩ := hLv j hj
        exact ⟨qa0, qb0, qa1, qb1, byts_bts qe2, qa3, qb3, qa4, qb4, qa5, qb5, byts_bts qe6⟩
end
end Go.Proofs.Ytlfednnfkejcjaa
