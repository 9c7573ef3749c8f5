/-
  AM, 43: slices.Sorted(maps.Keys(m)), answered at once.
-/
import Derived.Test.YtboobbebilegnaaGreatAm42
namespace Go.Am
section
variable {P : Program} {keep : Keeps}

/-! ### Orders of a list -/
def insA (x : AV) : List AV → List (List AV)
  | [] => [[x]]
  | y :: l => (x :: y :: l) :: (insA x l).map (y :: ·)
def permsA : List AV → List (List AV)
  | [] => [[]]
  | x :: l => (permsA l).flatMap (insA x)
theorem mem_insA (x : AV) (b : List AV) : ∀ (a : List AV), a ++ x :: b ∈ insA x (a ++ b)
  | [] => by cases b <;> simp [insA]
  | y :: a => by
    have := mem_insA x b a
    simp only [List.cons_append, insA, List.mem_cons, List.mem_map]
    exact .inr ⟨_, this, rfl⟩
theorem mem_permsA : ∀ {l π : List AV}, π.Perm l → π ∈ permsA l
  | [], π, h => by rw [List.perm_nil.1 h]; simp [permsA]
  | x :: l, π, h => by
    obtain ⟨a, b, rfl⟩ := List.append_of_mem (h.mem_iff.2 (List.mem_cons_self ..))
    have h2 : (a ++ b).Perm l := (List.perm_cons x).1 (List.perm_middle.symm.trans h)
    exact List.mem_flatMap.2 ⟨_, mem_permsA h2, mem_insA x b a⟩

/-! ### The answer -/
noncomputable section
def cellsL (ks : List AV) : List AV := List.rec (motive := fun _ => List AV) [] (fun k _ ih => app' k.cells ih) ks
def keysL (es : List MEnt) : List AV := List.rec (motive := fun _ => List AV) [] (fun e _ ih => e.key :: ih) es
def insK (lt : AV → AV → Option Bool) (x : AV) (l : List AV) : Option (List AV) :=
  List.rec (motive := fun _ => Option (List AV)) (some [x]) (fun y r ih => ob (lt x y) fun b => Bool.rec (motive := fun _ => Option (List AV)) (ob ih fun l => some (y :: l)) (some (x :: y :: r)) b) l
def sortK (lt : AV → AV → Option Bool) (l : List AV) : Option (List AV) :=
  List.rec (motive := fun _ => Option (List AV)) (some []) (fun x _ ih => ob ih fun l => insK lt x l) l
def bornIn (b : Nat) (r : List MEnt) : Bool := List.rec (motive := fun _ => Bool) true (fun d _ jh => and' (notB (Nat.beq b d.born)) jh) r
def bornB (clock : Nat) (es : List MEnt) : Bool :=
  List.rec (motive := fun _ => Bool) true (fun e r ih => and' (and' (Nat.ble (Nat.succ e.born) clock) (bornIn e.born r)) ih) es
def fineB (fine : AV → Bool) (es : List MEnt) : Bool := List.rec (motive := fun _ => Bool) true (fun e _ ih => and' (fine e.key) ih) es
def rowIs (h : Heap) (ds : List AV) : Bool :=
  Option.rec (motive := fun _ => Bool) false (fun l => AV.sames l ds) (h.cells 0 fun t z m ro => iff' (and' (notB ro) (Nat.beq m (len' ds))) (loadC t z m 0))
def sortsTo (call : CallFn) (T : FuncId) (sz n : Nat) (ds π : List AV) : Bool :=
  Option.rec (motive := fun _ => Bool) false (fun r => rowIs r.2 ds) (call (.fn T) [.slice (some (0, 0)) n n (some sz)] (minH (cellsL π)))
def allTo (call : CallFn) (T : FuncId) (sz n : Nat) (ds : List AV) (πs : List (List AV)) : Bool := List.rec (motive := fun _ => Bool) true (fun π _ ih => and' (sortsTo call T sz n ds π) ih) πs
def seqOf {β : Type} (seq : AV) (f : FuncId → Nat → Option β) : Option β := match seq with
  | .func (.func g) [] [.ptr (some (cb, 0))] => f g cb
  | _ => none
def mapAt {β : Type} (v : AV) (f : Nat → Option β) : Option β := match v with
  | .map (some mb) => f mb
  | _ => none
def sortedR (call : CallFn) (T : FuncId) (gs : List FuncId) (sz bs : Nat) (lt : AV → AV → Option Bool) (fine : AV → Bool) (seq : AV) (h : Heap) : Res :=
  seqOf seq fun g cb => iff' (gs.contains g) (ob (h.ld1 cb 0) fun m => mapAt m fun mb => h.theMap mb fun es clock =>
    iff' (and' (bornB clock es) (and' (fineB fine es) (room bs (len' es)))) (ob (sortK lt (keysL es)) fun ks =>
      iff' (allTo call T sz (len' es) (cellsL ks) (permsA (keysL es)))
        (Nat.rec (motive := fun _ => Res) (ob (call (.fn T) [.slice none 0 0 none] ⟨.leaf, 0⟩) fun _ => some (.slice none 0 0 none, h))
          (fun _ _ => some (.slice (some (h.next, 0)) (len' es) (len' es) (some sz), h.new h.next (.cells (fillC (cellsL ks) .leaf 0) [] (cellsL ks).length false))) (len' es))))
def sortedP (call : CallFn) (G T : FuncId) (gs : List FuncId) (sz bs : Nat) (lt : AV → AV → Option Bool) (fine : AV → Bool) : Prims :=
  ⟨fun f args h => Bool.rec (motive := fun _ => Option Res) none (some (l1 (fun seq => sortedR call T gs sz bs lt fine seq h) args)) (Nat.beq f G)⟩
end

theorem cellsL_eq (ks : List AV) : cellsL ks = ks.flatMap AV.cells := by
  induction ks with
  | nil => rfl
  | cons k ks ih => show app' k.cells (cellsL ks) = _; rw [app'_eq, ih]; rfl
theorem keysL_eq (es : List MEnt) : keysL es = es.map (·.key) := by
  induction es with
  | nil => rfl
  | cons e es ih => show e.key :: keysL es = _; rw [ih]; rfl
theorem bornIn_ok {b : Nat} : ∀ {es : List MEnt}, bornIn b es = true → ∀ d ∈ es, b ≠ d.born
  | [], _, d, hd => by cases hd
  | x :: es, h, d, hd => by
    have h : and' (notB (Nat.beq b x.born)) (bornIn b es) = true := h
    simp only [and'_eq, notB_eq, Bool.and_eq_true, Bool.not_eq_true'] at h
    rcases List.mem_cons.1 hd with rfl | hd
    · intro e; rw [e] at h; simp at h
    · exact bornIn_ok h.2 d hd
theorem bornB_ok {clock : Nat} : ∀ {es : List MEnt}, bornB clock es = true → bornOk es clock
  | [], _ => ⟨(fun e he => by cases he), List.Pairwise.nil⟩
  | e :: es, h => by
    have h : and' (and' (Nat.ble (e.born + 1) clock) (bornIn e.born es)) (bornB clock es) = true := h
    simp only [and'_eq, Bool.and_eq_true] at h
    obtain ⟨⟨h1, h2⟩, h3⟩ := h
    obtain ⟨g1, g2⟩ := bornB_ok h3
    refine ⟨fun x hx => ?_, List.pairwise_cons.2 ⟨bornIn_ok h2, g2⟩⟩
    rcases List.mem_cons.1 hx with rfl | hx
    · exact Nat.le_of_ble_eq_true h1
    · exact g1 x hx
theorem fineB_ok {fine : AV → Bool} : ∀ {es : List MEnt}, fineB fine es = true → ∀ k ∈ es.map (·.key), fine k = true
  | [], _, k, hk => by cases hk
  | e :: es, h, k, hk => by
    have h : and' (fine e.key) (fineB fine es) = true := h
    simp only [and'_eq, Bool.and_eq_true] at h
    rcases List.mem_cons.1 hk with rfl | hk
    · exact h.1
    · exact fineB_ok h.2 k hk
theorem allTo_ok {call : CallFn} {T : FuncId} {sz n : Nat} {ds : List AV} : ∀ {πs : List (List AV)}, allTo call T sz n ds πs = true → ∀ π ∈ πs, sortsTo call T sz n ds π = true
  | [], _, π, hp => by cases hp
  | x :: xs, h, π, hp => by
    have h : and' (sortsTo call T sz n ds x) (allTo call T sz n ds xs) = true := h
    simp only [and'_eq, Bool.and_eq_true] at h
    rcases List.mem_cons.1 hp with rfl | hp
    · exact h.1
    · exact allTo_ok h.2 π hp
theorem rowIs_ok {h : Heap} {ds : List AV} (hr : rowIs h ds = true) : ∃ t z, h.bs.gt 0 = some (.cells t z ds.length false) ∧ ∀ i, i < ds.length → cellAt t z i = ds[i]? := by
  unfold rowIs at hr
  cases hc : (h.cells 0 fun t z m ro => iff' (and' (notB ro) (Nat.beq m (len' ds))) (loadC t z m 0)) with
  | none => rw [hc] at hr; cases hr
  | some l =>
    rw [hc] at hr
    have hr : AV.sames l ds = true := hr
    obtain ⟨t, z, m, ro, hb, h1⟩ := cells_some hc
    obtain ⟨h2, h3⟩ := iff'_some.1 h1
    simp only [and'_eq, notB_eq, Bool.and_eq_true, Bool.not_eq_true', len'_eq] at h2
    obtain ⟨rfl, h4⟩ := h2
    obtain rfl := Nat.eq_of_beq_eq_true h4
    obtain rfl := sames_eq _ _ hr
    obtain ⟨_, h5⟩ := loadC_some h3
    exact ⟨t, z, hb, fun i hi => by simpa using h5 i hi⟩
theorem room_mono {bs m n : Nat} (h : room bs n = true) (hm : m < n) : room bs (m + 1) = true := by
  unfold room at h ⊢
  simp only [and'_eq, Bool.and_eq_true] at h ⊢
  have h1 : n * bs ≤ 68719476736 := Nat.le_of_ble_eq_true h.1
  have h2 : n ≤ 68719476736 := Nat.le_of_ble_eq_true h.2
  have h3 : (m + 1) * bs ≤ n * bs := Nat.mul_le_mul_right _ hm
  exact ⟨Nat.ble_eq_true_of_le (show (m + 1) * bs ≤ 68719476736 by omega), Nat.ble_eq_true_of_le (show m + 1 ≤ 68719476736 by omega)⟩
theorem sortK_mem {lt : AV → AV → Option Bool} : ∀ {l ks : List AV}, sortK lt l = some ks → ∀ k ∈ ks, k ∈ l
  | [], ks, h, k, hk => by cases h; cases hk
  | x :: l, ks, h, k, hk => by
    obtain ⟨ms, h1, h2⟩ := ob_some.1 (show ob (sortK lt l) (fun l => insK lt x l) = some ks from h)
    have key : ∀ {ms ks : List AV}, insK lt x ms = some ks → ∀ k ∈ ks, k = x ∨ k ∈ ms := by
      intro ms
      induction ms with
      | nil => intro ks h k hk; cases h; simpa using hk
      | cons y r ih =>
        intro ks h k hk
        obtain ⟨b, g1, g2⟩ := ob_some.1 (show ob (lt x y) (fun b => Bool.rec (motive := fun _ => Option (List AV)) (ob (insK lt x r) fun l => some (y :: l)) (some (x :: y :: r)) b) = some ks from h)
        cases b with
        | true => cases g2; rcases List.mem_cons.1 hk with e | hk; exact .inl e; exact .inr hk
        | false =>
          obtain ⟨q, g3, g4⟩ := ob_some.1 (show ob (insK lt x r) (fun l => some (y :: l)) = some ks from g2)
          cases g4
          rcases List.mem_cons.1 hk with e | hk
          · exact .inr (by rw [e]; exact List.mem_cons_self ..)
          · rcases ih g3 k hk with e | hk
            · exact .inl e
            · exact .inr (List.mem_cons_of_mem _ hk)
    rcases key h2 k hk with e | hk
    · rw [e]; exact List.mem_cons_self ..
    · exact List.mem_cons_of_mem _ (sortK_mem h1 k hk)

/-- what is told of the function that maps.Keys gives -/
def KeysFn (P : Program) (g : FuncId) : Prop := ∃ gfn gc tm tk te, P.funcs[g]? = some gfn ∧ gfn.body = some gc ∧ KeysCode tm gc ∧ gfn.results = #[] ∧ 14 ≤ gfn.ntmps ∧ P.underlying tm = some (.map tk te) ∧ tAgg P tm = some false

theorem sortedP_ok {lf n : Nat} (hm : P.follows .mixedOrders = true) (hn : NamesOk P) {A C T G : FuncId} {ts e sz bs : Nat} {F1 : List AV → Option (Blk × (Nat → AV))} {lt : AV → AV → Option Bool} {fine : AV → Bool} {gs : List FuncId} (K : AppCode P keep A ts sz F1)
    (hu : P.underlying ts = some (.slice e)) (hs : tSize P e = some (sz + 1)) (hbs : tBytes P e = some bs) (hz : (tZero P e).map (fun z => Nat.beq (len' z.cells) (sz + 1)) = some true)
    (hC : ∃ fn c, P.funcs[C]? = some fn ∧ fn.body = some c ∧ CollectCode A c ∧ fn.results = #[.tmp 2] ∧ 5 ≤ fn.ntmps) (hT : ∃ fn c, P.funcs[T]? = some fn ∧ fn.body = some c) (hG : ∃ fn c, P.funcs[G]? = some fn ∧ fn.body = some c ∧ SortedCode C T c ∧ fn.results = #[.tmp 2] ∧ 9 ≤ fn.ntmps)
    (hgs : ∀ g ∈ gs, KeysFn P g) (hfine : ∀ k, fine k = true → F1 [k] = some (rowBlk k.cells, sliceTo 1) ∧ k.cells.length = sz + 1 ∧ ∀ c ∈ k.cells, plainCell c = true) :
    PrimsOk P keep (sortedP (callN P keep noPrims lf (n + 1)) G T gs (sz + 1) bs lt fine) := by
  intro f args h r hr ρ w avs hh hv
  have hcall : CallOk P keep (callN P keep noPrims lf (n + 1)) := callN_sound hm hn noPrims_ok (n + 1)
  generalize hcl : callN P keep noPrims lf (n + 1) = call at hr hcall
  replace hr : (Bool.rec (motive := fun _ => Option Res) none (some (l1 (fun seq => sortedR call T gs (sz + 1) bs lt fine seq h) args)) (Nat.beq f G) : Option Res) = some (some r) := hr
  cases hfg : Nat.beq f G with
  | false => rw [hfg] at hr; cases hr
  | true =>
    rw [hfg] at hr
    obtain rfl := Nat.eq_of_beq_eq_true hfg
    have hr : l1 (fun seq => sortedR call T gs (sz + 1) bs lt fine seq h) args = some r := Option.some.inj hr
    obtain ⟨gfn, gc, hGf, hGb, hGc, hGr, hGn⟩ := hG
    refine ⟨⟨gfn, gc, hGf, hGb⟩, ?_⟩
    obtain ⟨seq, rfl, h1⟩ := l1_some hr
    obtain ⟨sv, rfl, vs⟩ := hv.one
    unfold sortedR seqOf at h1
    split at h1
    case h_2 => cases h1
    rename_i g cb _
    obtain ⟨h2, h3⟩ := iff'_some.1 h1
    have hmem : g ∈ gs := by simpa using h2
    obtain ⟨m, h4, h5⟩ := ob_some.1 h3
    unfold mapAt at h5
    split at h5
    case h_2 => cases h5
    rename_i mb
    obtain ⟨es, clock, h6, h7⟩ := theMap_some h5
    obtain ⟨h8, h9⟩ := iff'_some.1 h7
    simp only [and'_eq, Bool.and_eq_true, len'_eq] at h8
    obtain ⟨hb1, hb2, hb3⟩ := h8
    obtain ⟨ks, h10, h11⟩ := ob_some.1 h9
    obtain ⟨h12, h13⟩ := iff'_some.1 h11
    have hall := allTo_ok h12
    obtain ⟨kfn, kc, tm, tk, te, k1, k2, k3, k4, k5, k6, k7⟩ := hgs g hmem
    obtain ⟨cfn, cc, c1, c2, c3, c4, c5⟩ := hC
    have hkf := fineB_ok hb2
    have hplain : ∀ c ∈ cellsL ks, plainCell c = true := by
      intro c hc
      rw [cellsL_eq] at hc
      obtain ⟨k, hk, hc⟩ := List.mem_flatMap.1 hc
      have := sortK_mem h10 k hk
      rw [keysL_eq] at this
      exact (hfine k (hkf k this)).2.2 c hc
    have happ := append_rel (lf := lf) (n := n) (prims := noPrims) hm hn (by rw [hcl]; exact hcall) K hu hs hbs hz k1 k2 k3 k4 k5 k6 k7 (avs := [.slice none 0 0, sv]) hh ⟨_, [sv], rfl, ⟨rfl, rfl, rfl, rfl⟩, _, [], rfl, vs, rfl⟩ h4 h6 (bornB_ok hb1)
      (fun k hk => by
        obtain ⟨a, b, c⟩ := hfine k (hkf k hk)
        refine ⟨a, b, ?_⟩
        rw [allOne_eq, List.all_eq_true]
        exact fun x hx => plain_one (c x hx)) (fun m hm => room_mono hb3 hm)
    have hcol := collect_thru hn c1 c2 c3 c4 c5 ⟨_, _, K.hf, K.hb⟩ (S := fun v w' => ∃ π : List AV, π.Perm (es.map (·.key)) ∧ ∃ ρ' h' sv, VR ρ' sv v ∧ Grown h' (h.next + 2) e (sz + 1) sv (π.flatMap AV.cells) π.length ∧ Post P keep ρ h w ρ' h' w' ∧ ∀ b, b < h.next → h'.bs.gt b = h.bs.gt b) happ
    have hfin := sorted_thru hn hGf hGb hGc hGr hGn ⟨_, _, c1, c2⟩ hT (S' := fun v w' => ∃ ρ', VR ρ' r.1 v ∧ Post P keep ρ h w ρ' r.2 w') hcol (fun v w' hS => ?_)
    · refine CallsIn.mono (F := fen none) hfin fun en w'' ⟨v, he, hR⟩ => ?_
      subst he
      exact hR
    · obtain ⟨π, hπ, ρ', h', sv', v1, v2, v3, v4⟩ := hS
      have hlen : π.length = es.length := by rw [hπ.length_eq, List.length_map]
      have hso := hall π (mem_permsA (by rw [keysL_eq]; exact hπ))
      rcases v2 with ⟨n0, n1, rfl⟩ | ⟨id, t, z, a1, a2, rfl, a3, a4, a5, a6, a7⟩
      · -- no key at all
        have hn0 : es.length = 0 := by omega
        rw [len'_eq, hn0] at h13
        obtain ⟨q, g1, g2⟩ := ob_some.1 (show ob (call (.fn T) [.slice none 0 0 none] ⟨.leaf, 0⟩) (fun _ => some (.slice none 0 0 none, h)) = some r from h13)
        cases g2
        obtain ⟨_, hT2⟩ := hcall _ _ _ _ g1 (fun _ => none) w' [v] (empty_HR w') ⟨v, [], rfl, v1, rfl⟩
        refine CallsIn.mono (F := fen none) hT2 fun en w'' hR => ?_
        cases en with
        | panicked c => exact hR.elim
        | outgrown => exact hR.elim
        | returned u =>
          obtain ⟨ρ1, _, hp⟩ := hR
          refine ⟨u, rfl, ρ, v1, ?_⟩
          have ho := v3.old hh v4
          refine ⟨Pls.le_refl _, ho.hr.frame fun b x p hx hd hpl => ?_, ⟨hp.fr.os.trans ho.fr.os, hp.fr.output.trans ho.fr.output, Nat.le_trans ho.fr.size hp.fr.size, fun k hk hno => ?_⟩, fun _ _ h => h, Nat.le_refl _, fun _ _ h _ => h⟩
          · obtain ⟨q, hq, hlt⟩ := (ho.hr.blk b x hx).place hd
            rw [hpl] at hq; cases hq
            exact hp.fr.same _ hlt (by rintro ⟨_, _, _, hx, _⟩; cases hx)
          · exact (hp.fr.same k (Nat.lt_of_lt_of_le hk ho.fr.size) (by rintro ⟨_, _, _, hx, _⟩; cases hx)).trans (ho.fr.same k hk hno)
      · -- the keys in some order, sorted then
        have hpos : 0 < es.length := by omega
        obtain ⟨k, hk⟩ : ∃ k, es.length = k + 1 := ⟨es.length - 1, by omega⟩
        rw [len'_eq, hk] at h13
        have h13 : some (AV.slice (some (h.next, 0)) (k + 1) (k + 1) (some (sz + 1)), h.new h.next (.cells (fillC (cellsL ks) .leaf 0) [] (cellsL ks).length false)) = some r := h13
        cases h13
        have hv1 := v1
        obtain ⟨p, a', c', hp, rfl, w1, w2, _, w4, w5⟩ := v1
        have hπp : ∀ c ∈ cellsL π, plainCell c = true := by
          intro c hc
          rw [cellsL_eq] at hc
          obtain ⟨k, hk, hc⟩ := List.mem_flatMap.1 hc
          exact (hfine k (hkf k (hπ.mem_iff.1 hk))).2.2 c hc
        have hsub := sub_row (cs := cellsL π) v3.hr a3 hp (by rw [cellsL_eq, a5]) (fun i hi => by rw [cellsL_eq]; exact a6 i hi) hπp
        unfold sortsTo at hso
        cases hrun : call (.fn T) [.slice (some (0, 0)) (len' es) (len' es) (some (sz + 1))] (minH (cellsL π)) with
        | none => rw [hrun] at hso; cases hso
        | some q =>
          rw [hrun] at hso
          obtain ⟨t1, z1, r1, r2⟩ := rowIs_ok (show rowIs q.2 (cellsL ks) = true from hso)
          obtain ⟨_, hT2⟩ := hcall _ _ _ _ hrun (onePl p) w' [.slice (some a') π.length c'] hsub ⟨_, [], rfl, ⟨p, a', c', rfl, by rw [len'_eq, hlen], by rw [len'_eq, ← hlen]; exact w1, by rw [len'_eq, ← hlen]; exact w2, (fun e => by cases e), w4, w5⟩, rfl⟩
          refine CallsIn.mono (F := fen none) hT2 fun en w'' hR => ?_
          cases en with
          | panicked c => exact hR.elim
          | outgrown => exact hR.elim
          | returned u =>
            obtain ⟨ρ1, _, hp1⟩ := hR
            refine ⟨u, rfl, ρ.up h.next p, ?_, row_post v3 hh (by omega) a3 hp v4 hp1 r1 r2 hplain⟩
            exact ⟨p, a', c', Pls.up_same _ _ _, by rw [hlen, hk], by omega, by omega, (fun e => by cases e), w4, w5⟩
end
end Go.Am
