import Derived.Test.YtfjggobjijeniaaPure3
/-! The table is right: two types have the same entry exactly if they are the same. -/
namespace Go.L
open Go

theorem idx_append_left {T : Type} [Inhabited T] {X Y : List T} {a : Int} (h0 : 0 ≤ a) (h : a < X.length) : idx (X ++ Y) a = idx X a := by
  have : a = ((a.toNat : Nat) : Int) := by omega
  rw [this]
  exact idx_getD (List.getElem?_append_left (by omega))
theorem idx_append_right {T : Type} [Inhabited T] {X Y : List T} {b : Int} {i : Nat} (h : (X.length : Int) = b) : idx (X ++ Y) (b + (i : Int)) = idx Y (i : Int) := by
  rw [← h, show (X.length : Int) + (i : Int) = ((X.length + i : Nat) : Int) from by omega]
  exact idx_getD (by rw [List.getElem?_append_right (by omega), Nat.add_sub_cancel_left])
theorem idx_from {f : Int} {n i : Nat} (h : i < n) : idx (from_ f n) (i : Int) = f + (i : Int) := by
  rw [idx_nat (by rw [from_length]; exact h)]
  simp [from_]
open Classical in
theorem mfind_append {T : Type} {v : Value} {m : List (Value × T)} : ∀ {l : List (Value × T)}, mfind (l ++ m) v = match mfind l v with | some t => some t | none => mfind m v
  | [] => rfl
  | (k, t) :: l => by
    rw [List.cons_append]
    show (if k = v then some t else mfind (l ++ m) v) = match (if k = v then some t else mfind l v) with | some t => some t | none => mfind m v
    by_cases h : k = v
    · rw [if_pos h, if_pos h]
    · rw [if_neg h, if_neg h]; exact mfind_append
theorem flatMap_inj {S T U : Type} [Inhabited S] [Inhabited T] {f : S → List U} {g : T → List U} {n : Nat} : ∀ {L : List S} {M : List T} {X Y : List U}, L.length = M.length → (∀ x ∈ L, (f x).length = n) → (∀ y ∈ M, (g y).length = n) →
    (L.flatMap f ++ X = M.flatMap g ++ Y ↔ (∀ i : Nat, i < L.length → f (idx L (i : Int)) = g (idx M (i : Int))) ∧ X = Y)
  | [], [], X, Y, _, _, _ => by simp
  | [], _ :: _, _, _, h, _, _ => by simp at h
  | _ :: _, [], _, _, h, _, _ => by simp at h
  | x :: L, y :: M, X, Y, h, hf, hg => by
    have hl : L.length = M.length := by simpa using h
    have ih := flatMap_inj (X := X) (Y := Y) hl (fun z hz => hf z (by simp [hz])) (fun z hz => hg z (by simp [hz]))
    rw [List.flatMap_cons, List.flatMap_cons, List.append_assoc, List.append_assoc]
    constructor
    · intro e
      obtain ⟨e1, e2⟩ := List.append_inj e (by rw [hf x (by simp), hg y (by simp)])
      obtain ⟨h1, h2⟩ := ih.1 e2
      refine ⟨fun i hi => ?_, h2⟩
      cases i with
      | zero => simpa [idx] using e1
      | succ i =>
        have := h1 i (by simpa using hi)
        rwa [show idx (x :: L) ((i + 1 : Nat) : Int) = idx L (i : Int) from idx_getD (by simp), show idx (y :: M) ((i + 1 : Nat) : Int) = idx M (i : Int) from idx_getD (by simp)]
    · rintro ⟨h1, h2⟩
      have e1 : f x = g y := by simpa [idx] using h1 0 (by simp)
      rw [e1, ih.2 ⟨fun i hi => ?_, h2⟩]
      have := h1 (i + 1) (by simpa using hi)
      rwa [show idx (x :: L) ((i + 1 : Nat) : Int) = idx L (i : Int) from idx_getD (by simp), show idx (y :: M) ((i + 1 : Nat) : Int) = idx M (i : Int) from idx_getD (by simp)] at this

/-- What is known behind k groups. -/
structure CP (G : Kin) (k : Nat) : Prop where
  le : ∀ a : Int, 0 ≤ a → a < kbeg G (k : Int) → 0 ≤ idx (cst G k).1 a ∧ idx (cst G k).1 a ≤ a ∧ idx (cst G k).1 (idx (cst G k).1 a) = idx (cst G k).1 a
  same : ∀ a b : Int, 0 ≤ a → a < kbeg G (k : Int) → 0 ≤ b → b < kbeg G (k : Int) → (ksame G a b = true ↔ idx (cst G k).1 a = idx (cst G k).1 b)
  ent : ∀ j : Nat, j < k → ∃ f, mfind (cst G k).2 (keyV (cst G j).1 (grows (kbeg G (j : Int)) (idx G (j : Int)))) = some f ∧ ∀ i : Nat, i < (idx G (j : Int)).length → idx (cst G k).1 (kbeg G (j : Int) + (i : Int)) = f + (i : Int)

theorem cst_pre {G : Kin} {j : Nat} : ∀ {k : Nat}, j ≤ k → k ≤ G.length → ∀ a : Int, 0 ≤ a → a < kbeg G (j : Int) → idx (cst G k).1 a = idx (cst G j).1 a
  | 0, h, _, a, h0, ha => by
    have : j = 0 := by omega
    subst this; rfl
  | k + 1, h, hk, a, h0, ha => by
    rcases Nat.lt_or_ge j (k + 1) with q | q
    · have hm : kbeg G (j : Int) ≤ kbeg G (k : Int) := by rw [kbeg_nat, kbeg_nat]; exact kcnt_mono G (by omega)
      have hl := cst_len G k (by omega)
      rw [cst_fst, idx_append_left h0 (by omega)]
      exact cst_pre (by omega) (by omega) a h0 ha
    · rw [show j = k + 1 from by omega]

theorem code_iff {G : Kin} {k j l : Nat} (hk : k ≤ G.length) (hC : ∀ a b : Int, 0 ≤ a → a < kbeg G (k : Int) → 0 ≤ b → b < kbeg G (k : Int) → (ksame G a b = true ↔ idx (cst G k).1 a = idx (cst G k).1 b))
    (hl : ∀ a : Int, 0 ≤ a → a < kbeg G (k : Int) → 0 ≤ idx (cst G k).1 a) (hj : j ≤ k) (hlk : l ≤ k) {a b aj bl : Int} (ha : a < aj) (hb : b < bl) (haj : aj ≤ 8) (hbl : bl ≤ 8) :
    codeF (cst G j).1 (kbeg G (j : Int)) a = codeF (cst G l).1 (kbeg G (l : Int)) b ↔ kmatch (ksame G) G a b (j : Int) (l : Int) = true := by
  have h1 : kbeg G (j : Int) ≤ kbeg G (k : Int) := by rw [kbeg_nat, kbeg_nat]; exact kcnt_mono G hj
  have h2 : kbeg G (l : Int) ≤ kbeg G (k : Int) := by rw [kbeg_nat, kbeg_nat]; exact kcnt_mono G hlk
  have h3 := kbeg_nonneg G (j : Int)
  have h4 := kbeg_nonneg G (l : Int)
  unfold codeF kmatch
  by_cases qa : a < 0
  · rw [if_pos qa, if_pos (Or.inl qa : a < 0 ∨ b < 0)]
    by_cases qb : b < 0
    · rw [if_pos qb]; simp
    · rw [if_neg qb]
      split
      · simp; omega
      · have e1 := cst_pre (G := G) hlk hk b (by omega) (by omega)
        have e2 := hl b (by omega) (by omega)
        simp; omega
  · rw [if_neg qa]
    by_cases qb : b < 0
    · rw [if_pos qb, if_pos (Or.inr qb : a < 0 ∨ b < 0)]
      split
      · simp; omega
      · have e1 := cst_pre (G := G) hj hk a (by omega) (by omega)
        have e2 := hl a (by omega) (by omega)
        simp; omega
    · rw [if_neg qb, if_neg (show ¬ (a < 0 ∨ b < 0) by omega)]
      by_cases q1 : kbeg G (j : Int) ≤ a
      · rw [if_pos q1]
        by_cases q2 : kbeg G (l : Int) ≤ b
        · rw [if_pos q2, if_pos ⟨q1, q2⟩]; simp
        · have e1 := cst_pre (G := G) hlk hk b (by omega) (by omega)
          have e2 := hl b (by omega) (by omega)
          rw [if_neg q2, if_neg (show ¬ (kbeg G (j : Int) ≤ a ∧ kbeg G (l : Int) ≤ b) by omega), decide_eq_false (by omega : ¬ a < kbeg G (j : Int))]
          simp; omega
      · have e1 := cst_pre (G := G) hj hk a (by omega) (by omega)
        have e2 := hl a (by omega) (by omega)
        rw [if_neg q1]
        by_cases q2 : kbeg G (l : Int) ≤ b
        · rw [if_pos q2, if_neg (show ¬ (kbeg G (j : Int) ≤ a ∧ kbeg G (l : Int) ≤ b) by omega), decide_eq_false (by omega : ¬ b < kbeg G (l : Int))]
          simp; omega
        · have e3 := cst_pre (G := G) hlk hk b (by omega) (by omega)
          rw [if_neg q2, if_neg (show ¬ (kbeg G (j : Int) ≤ a ∧ kbeg G (l : Int) ≤ b) by omega), decide_eq_true (by omega : a < kbeg G (j : Int)), decide_eq_true (by omega : b < kbeg G (l : Int)), Bool.true_and, Bool.true_and, hC a b (by omega) (by omega) (by omega) (by omega), e1, e3]
          omega

section
variable {G : Kin} {k j l : Nat}
theorem fldV_iff {f g : Fld} : fldV f = fldV g ↔ f.kind = g.kind ∧ f.of = g.of ∧ f.mu = g.mu := by
  unfold fldV; simp
theorem fld_iff (hk : k ≤ G.length) (hC : ∀ a b : Int, 0 ≤ a → a < kbeg G (k : Int) → 0 ≤ b → b < kbeg G (k : Int) → (ksame G a b = true ↔ idx (cst G k).1 a = idx (cst G k).1 b))
    (hl : ∀ a : Int, 0 ≤ a → a < kbeg G (k : Int) → 0 ≤ idx (cst G k).1 a) (hj : j ≤ k) (hlk : l ≤ k) {f g : Fld} {aj bl : Int} (ha : fieldOk f aj = true) (hb : fieldOk g bl = true) (haj : aj ≤ 8) (hbl : bl ≤ 8) :
    fldV (codeFld (cst G j).1 (kbeg G (j : Int)) f) = fldV (codeFld (cst G l).1 (kbeg G (l : Int)) g) ↔ (decide (f.kind = g.kind) && (f.mu == g.mu) && (decide (f.kind = 1) || kmatch (ksame G) G f.of g.of (j : Int) (l : Int))) = true := by
  rw [fldV_iff]
  unfold fieldOk at ha hb
  unfold codeFld
  by_cases q1 : f.kind = 1
  · rw [if_pos q1] at ha ⊢
    have ha : f.of = 0 := by simpa using ha
    by_cases q2 : g.kind = 1
    · rw [if_pos q2] at hb ⊢
      have hb : g.of = 0 := by simpa using hb
      simp [q1, q2, ha, hb]
    · rw [if_neg q2]
      simp [q1, q2]
      intro h; exact absurd h.symm q2
  · rw [if_neg q1] at ha ⊢
    have ha2 : f.of < aj := by
      split at ha
      · simp at ha; exact ha.2
      · cases ha
    by_cases q2 : g.kind = 1
    · rw [if_pos q2]
      simp [q2, q1]
    · rw [if_neg q2] at hb ⊢
      have hb2 : g.of < bl := by
        split at hb
        · simp at hb; exact hb.2
        · cases hb
      have := code_iff hk hC hl hj hlk ha2 hb2 haj hbl
      simp only [this, q1, decide_false, Bool.false_or, Bool.and_eq_true, decide_eq_true_eq, beq_iff_eq]
      grind
theorem shape_iff (hk : k ≤ G.length) (hC : ∀ a b : Int, 0 ≤ a → a < kbeg G (k : Int) → 0 ≤ b → b < kbeg G (k : Int) → (ksame G a b = true ↔ idx (cst G k).1 a = idx (cst G k).1 b))
    (hl : ∀ a : Int, 0 ≤ a → a < kbeg G (k : Int) → 0 ≤ idx (cst G k).1 a) (hj : j ≤ k) (hlk : l ≤ k) {s t : Ty} {ma ml aj bl : Int} (hs : kform s ma aj = true) (ht : kform t ml bl = true) (hma : ma < aj) (hml : ml < bl) (haj : aj ≤ 8) (hbl : bl ≤ 8) :
    shapeV (cst G j).1 ⟨s, kbeg G (j : Int), aj⟩ = shapeV (cst G l).1 ⟨t, kbeg G (l : Int), bl⟩ ↔ kalike (ksame G) G s t (j : Int) (l : Int) = true := by
  unfold kform at hs ht
  simp only [Bool.and_eq_true, decide_eq_true_eq, allN_iff] at hs ht
  have hup := code_iff hk hC hl hj hlk (a := s.up) (b := t.up) (aj := aj) (bl := bl) (by omega) (by omega) haj hbl
  unfold shapeV shapeTo shapeH kalike
  simp only [List.take_length, List.cons_append, List.nil_append, List.cons.injEq, Value.int.injEq, true_and, Value.bool.injEq, hup, Bool.and_eq_true, decide_eq_true_eq, beq_iff_eq, allN_iff]
  constructor
  · rintro ⟨h1, h2, h3, h4, h5⟩
    have hlen : s.fields.length = t.fields.length := by omega
    refine ⟨⟨⟨⟨h1, h3⟩, hlen⟩, h2⟩, fun i hi => ?_⟩
    have h6 := (flatMap_inj hlen (n := 3) (fun _ _ => rfl) (fun _ _ => rfl)).1 h5
    have h7 := (fld_iff hk hC hl hj hlk (hs.2 i hi) (ht.2 i (by omega)) haj hbl).1 (h6.1 i hi)
    simpa only [Bool.and_eq_true, decide_eq_true_eq, beq_iff_eq] using h7
  · rintro ⟨⟨⟨⟨h1, h2⟩, h3⟩, h4⟩, h5⟩
    refine ⟨h1, h4, h2, by omega, ?_⟩
    refine (flatMap_inj h3 (n := 3) (fun _ _ => rfl) (fun _ _ => rfl)).2 ⟨fun i hi => ?_, by rw [h3]⟩
    refine (fld_iff hk hC hl hj hlk (hs.2 i hi) (ht.2 i (by omega)) haj hbl).2 ?_
    simpa only [Bool.and_eq_true, decide_eq_true_eq, beq_iff_eq] using h5 i hi
theorem grows_take (b : Int) (g : List Ty) : (grows b g).take g.length = grows b g := List.take_of_length_le (by rw [grows_len]; exact Nat.le_refl _)
theorem keyV_eq {c c' : List Int} {R R' : List Row} : keyV c R = keyV c' R' ↔ keyL c R = keyL c' R' := by
  unfold keyV
  constructor
  · intro h
    have h1 : (keyL c R).toArray = (keyL c' R').toArray := Value.agg.inj h
    simpa using h1
  · intro h; rw [h]
theorem key_iff (hP : PartsOk G) (hk : k ≤ G.length) (hC : ∀ a b : Int, 0 ≤ a → a < kbeg G (k : Int) → 0 ≤ b → b < kbeg G (k : Int) → (ksame G a b = true ↔ idx (cst G k).1 a = idx (cst G k).1 b))
    (hl : ∀ a : Int, 0 ≤ a → a < kbeg G (k : Int) → 0 ≤ idx (cst G k).1 a) (hj : j ≤ k) (hlk : l ≤ k) (hjG : j < G.length) (hlG : l < G.length) :
    keyV (cst G j).1 (grows (kbeg G (j : Int)) (idx G (j : Int))) = keyV (cst G l).1 (grows (kbeg G (l : Int)) (idx G (l : Int))) ↔
      (idx G (j : Int)).length = (idx G (l : Int)).length ∧ ∀ i : Nat, i < (idx G (j : Int)).length → kalike (ksame G) G (idx (idx G (j : Int)) (i : Int)) (idx (idx G (l : Int)) (i : Int)) (j : Int) (l : Int) = true := by
  have gj := grp_end G j hjG
  have gl := grp_end G l hlG
  have h8 := hP.cnt
  have fl : ∀ (c : List Int) (b : Int) (i : Nat) (hi : i < G.length), b = kbeg G (i : Int) → ∀ r ∈ grows b (idx G (i : Int)), (shapeV c r).length = 16 := by
    intro c b i hi e r hr
    refine shapeV_len ?_
    subst e
    obtain ⟨t, ht, rfl⟩ := List.mem_map.1 hr
    obtain ⟨n, hn, rfl⟩ := List.getElem_of_mem ht
    have := hP.form i n hi hn
    unfold kform at this
    simp only [Bool.and_eq_true, decide_eq_true_eq] at this
    rw [idx_nat hn] at this
    exact this.1.1.2
  have sh : ∀ i : Nat, i < (idx G (j : Int)).length → i < (idx G (l : Int)).length → (shapeV (cst G j).1 (idx (grows (kbeg G (j : Int)) (idx G (j : Int))) (i : Int)) = shapeV (cst G l).1 (idx (grows (kbeg G (l : Int)) (idx G (l : Int))) (i : Int)) ↔ kalike (ksame G) G (idx (idx G (j : Int)) (i : Int)) (idx (idx G (l : Int)) (i : Int)) (j : Int) (l : Int) = true) := fun i h1 h2 => by
    rw [idx_grows h1, idx_grows h2]
    exact shape_iff hk hC hl hj hlk (hP.form j i hjG h1) (hP.form l i hlG h2) (by omega) (by omega) (by omega) (by omega)
  rw [keyV_eq]
  unfold keyL keyTo
  simp only [List.cons.injEq, Value.int.injEq, true_and, grows_len, grows_take]
  constructor
  · rintro ⟨h1, h2⟩
    have hlen : (idx G (j : Int)).length = (idx G (l : Int)).length := by omega
    have h3 := (flatMap_inj (by rw [grows_len, grows_len]; exact hlen) (n := 16) (fl _ _ j hjG rfl) (fl _ _ l hlG rfl)).1 h2
    exact ⟨hlen, fun i hi => (sh i hi (by omega)).1 (h3.1 i (by rw [grows_len]; exact hi))⟩
  · rintro ⟨h1, h2⟩
    refine ⟨by omega, (flatMap_inj (by rw [grows_len, grows_len]; exact h1) (n := 16) (fl _ _ j hjG rfl) (fl _ _ l hlG rfl)).2 ⟨fun i hi => ?_, by rw [h1]⟩⟩
    rw [grows_len] at hi
    exact (sh i hi (by omega)).2 (h2 i hi)
end

noncomputable abbrev gkey (G : Kin) (j : Nat) : Value := keyV (cst G j).1 (grows (kbeg G (j : Int)) (idx G (j : Int)))
theorem grp_uniq {G : Kin} {i j : Nat} (hi : i < G.length) (hj : j < G.length) {a b : Nat} (ha : a < (idx G (i : Int)).length) (hb : b < (idx G (j : Int)).length) (e : kbeg G (i : Int) + (a : Int) = kbeg G (j : Int) + (b : Int)) : i = j ∧ a = b := by
  rcases Nat.lt_trichotomy i j with q | q | q
  · have := kbeg_lt hi q; omega
  · subst q; exact ⟨rfl, by omega⟩
  · have := kbeg_lt hj q; omega
/-- A number below the end of k groups, by group and place. -/
theorem below_of {G : Kin} {k : Nat} (hk : k ≤ G.length) {a : Int} (h0 : 0 ≤ a) (h : a < kbeg G (k : Int)) : ∃ l i : Nat, l < k ∧ i < (idx G (l : Int)).length ∧ a = kbeg G (l : Int) + (i : Int) ∧ kgrp G a = (l : Int) := by
  have hle := kbeg_le G (k : Int)
  obtain ⟨l, i, h1, h2, h3, h4, _⟩ := flat_of (G := G) h0 (by omega)
  refine ⟨l, i, ?_, h2, h3, h4⟩
  rcases Nat.lt_or_ge l k with q | q
  · exact q
  · have : kbeg G (k : Int) ≤ kbeg G (l : Int) := by rw [kbeg_nat, kbeg_nat]; exact kcnt_mono G q
    omega
theorem ks_other {G : Kin} (hP : PartsOk G) {k : Nat} (hk : k ≤ G.length) (ih : CP G k) {a b : Int} {l m i i' : Nat} (hl : l ≤ k) (hm : m ≤ k) (hlG : l < G.length) (hmG : m < G.length) (hi : i < (idx G (l : Int)).length) (hi' : i' < (idx G (m : Int)).length)
    (ea : a = kbeg G (l : Int) + (i : Int)) (eb : b = kbeg G (m : Int) + (i' : Int)) (ga : kgrp G a = (l : Int)) (gb : kgrp G b = (m : Int)) (hne : l ≠ m) : ksame G a b = true ↔ i = i' ∧ gkey G l = gkey G m := by
  have h0 := kbeg_nonneg G (l : Int)
  have h1 := grp_end G l hlG
  have hab : a ≠ b := fun e => hne (grp_uniq hlG hmG hi hi' (by omega)).1
  rw [ksame_eq (by omega) (by omega), if_neg hab, ga, gb, key_iff hP hk ih.same (fun x q1 q2 => (ih.le x q1 q2).1) hl hm hlG hmG]
  by_cases q : i = i' ∧ (idx G (l : Int)).length = (idx G (m : Int)).length
  · rw [if_neg (by omega), allN_iff]
    exact ⟨fun h => ⟨q.1, q.2, h⟩, fun h => h.2.2⟩
  · rw [if_pos (by omega)]
    constructor
    · intro h; cases h
    · intro h; exact absurd ⟨h.1, h.2.1⟩ q
theorem ks_same {G : Kin} {a b : Int} (h0 : 0 ≤ a) (h : a < kcnt G) (hg : kgrp G a = kgrp G b) : ksame G a b = true ↔ a = b := by
  rw [ksame_eq h0 h]
  by_cases q : a = b
  · rw [if_pos q]; simp [q]
  · rw [if_neg q, if_pos (.inl hg)]; simp [q]
theorem cp_all {G : Kin} (hP : PartsOk G) : ∀ k, k ≤ G.length → CP G k
  | 0, _ => ⟨fun a h0 h => by rw [kbeg_zero] at h; omega, fun a b h0 h _ _ => by rw [kbeg_zero] at h; omega, fun j h => by omega⟩
  | k + 1, hk => by
    have ih := cp_all hP k (by omega)
    have hkG : k < G.length := by omega
    have hcl := cst_len G k (by omega)
    have hst := kbeg_step hkG
    have hb0 := kbeg_nonneg G (k : Int)
    have hge := grp_end G k hkG
    have hpre : ∀ a : Int, 0 ≤ a → a < kbeg G (k : Int) → idx (cst G (k + 1)).1 a = idx (cst G k).1 a := fun a h0 h => cst_pre (by omega) hk a h0 h
    generalize hf : (mfind (cst G k).2 (gkey G k)).getD (kbeg G (k : Int)) = f
    have hnew : ∀ i : Nat, i < (idx G (k : Int)).length → idx (cst G (k + 1)).1 (kbeg G (k : Int) + (i : Int)) = f + (i : Int) := fun i hi => by
      rw [cst_fst, idx_append_right hcl, hf, idx_from hi]
    have hfc : (∃ j, j < k ∧ mfind (cst G k).2 (gkey G k) = some (kbeg G (j : Int)) ∧ f = kbeg G (j : Int) ∧ gkey G k = gkey G j ∧ (idx G (k : Int)).length = (idx G (j : Int)).length) ∨ (mfind (cst G k).2 (gkey G k) = none ∧ f = kbeg G (k : Int)) := by
      cases hm : mfind (cst G k).2 (gkey G k) with
      | none => right; rw [hm] at hf; exact ⟨rfl, hf.symm⟩
      | some a =>
        left
        rw [hm] at hf
        obtain ⟨j, h1, h2, h3, h4⟩ := cst_found hm
        exact ⟨j, h1, by rw [h2], by rw [← hf, ← h2]; rfl, h3, h4⟩
    have M : ∀ (l i i' : Nat), l < k → i < (idx G (k : Int)).length → i' < (idx G (l : Int)).length → (f + (i : Int) = idx (cst G k).1 (kbeg G (l : Int) + (i' : Int)) ↔ i = i' ∧ gkey G k = gkey G l) := by
      intro l i i' hl hi hi'
      obtain ⟨fl, e1, e2⟩ := ih.ent l hl
      rw [e2 i' hi']
      obtain ⟨j', hj', e3⟩ := (cIn G k).ent _ (mfind_mem e1)
      injection e3 with e3 e4
      have hlen : (idx G (l : Int)).length = (idx G (j' : Int)).length := by have := keyV_len e3; simpa [grows_len] using this
      constructor
      · intro e
        rcases hfc with ⟨j, hj, hm, hfj, hkey, hlj⟩ | ⟨hm, hfk⟩
        · obtain ⟨q1, q2⟩ := grp_uniq (G := G) (i := j) (j := j') (by omega) (by omega) (a := i) (b := i') (by omega) (by omega) (by omega)
          subst q1
          exact ⟨q2, hkey.trans e3.symm⟩
        · have := kbeg_lt (G := G) (i := j') (by omega) hj'
          omega
      · rintro ⟨q1, q2⟩
        have : mfind (cst G k).2 (gkey G k) = some fl := by rw [q2]; exact e1
        rw [this] at hf
        have : fl = f := hf
        omega
    refine ⟨fun a h0 h => ?_, fun a b ha0 ha hb0' hb => ?_, fun j hj => ?_⟩
    · by_cases q : a < kbeg G (k : Int)
      · obtain ⟨h1, h2, h3⟩ := ih.le a h0 q
        rw [hpre a h0 q, hpre _ h1 (by omega)]
        exact ⟨h1, h2, h3⟩
      · have ei : a = kbeg G (k : Int) + ((a - kbeg G (k : Int)).toNat : Int) := by omega
        have hi : (a - kbeg G (k : Int)).toNat < (idx G (k : Int)).length := by omega
        rw [ei, hnew _ hi]
        rcases hfc with ⟨j, hj, hm, hfj, hkey, hlj⟩ | ⟨hm, hfk⟩
        · have h1 := kbeg_lt (G := G) (i := j) (by omega) hj
          have h2 := kbeg_nonneg G (j : Int)
          refine ⟨by omega, by omega, ?_⟩
          obtain ⟨fj, e1, e2⟩ := ih.ent j hj
          have e3 : fj = f := by
            have : mfind (cst G k).2 (gkey G k) = some fj := by rw [hkey]; exact e1
            rw [this] at hf; exact hf
          rw [hpre _ (by omega) (by omega), hfj, e2 _ (by omega), e3, hfj]
        · refine ⟨by omega, by omega, ?_⟩
          rw [hfk, hnew _ hi, hfk]
    · obtain ⟨la, ia, a1, a2, a3, a4⟩ := below_of hk ha0 ha
      obtain ⟨lb, ib, b1, b2, b3, b4⟩ := below_of hk hb0' hb
      by_cases qa : la < k
      · have ha' : a < kbeg G (k : Int) := by have := kbeg_lt (G := G) (i := la) (by omega) qa; omega
        by_cases qb : lb < k
        · have hb' : b < kbeg G (k : Int) := by have := kbeg_lt (G := G) (i := lb) (by omega) qb; omega
          rw [hpre a ha0 ha', hpre b hb0' hb']
          exact ih.same a b ha0 ha' hb0' hb'
        · have : lb = k := by omega
          subst this
          rw [hpre a ha0 ha', ks_other hP (by omega) ih (by omega) (Nat.le_refl _) (by omega) hkG a2 b2 a3 b3 a4 b4 (by omega), b3, hnew ib b2, a3]
          have := M la ib ia qa b2 a2
          constructor
          · intro h; exact (this.2 ⟨h.1.symm, h.2.symm⟩).symm
          · intro h; have := this.1 h.symm; exact ⟨this.1.symm, this.2.symm⟩
      · have : la = k := by omega
        subst this
        by_cases qb : lb < la
        · have hb' : b < kbeg G (la : Int) := by have := kbeg_lt (G := G) (i := lb) (by omega) qb; omega
          rw [hpre b hb0' hb', ks_other hP (by omega) ih (Nat.le_refl _) (by omega) hkG (by omega) a2 b2 a3 b3 a4 b4 (by omega), a3, hnew ia a2, b3]
          exact (M lb ia ib qb a2 b2).symm
        · have : lb = la := by omega
          subst this
          rw [ks_same ha0 (by omega) (by rw [a4, b4]), a3, b3, hnew ia a2, hnew ib b2]
          omega
    · by_cases q : j < k
      · obtain ⟨fj, e1, e2⟩ := ih.ent j q
        refine ⟨fj, ?_, fun i hi => ?_⟩
        · cases hm : (mfind (cst G k).2 (gkey G k)).isSome with
          | true => rw [cst_yes hm]; exact e1
          | false => rw [cst_no hm, mfind_append, e1]
        · have := kbeg_lt (G := G) (i := j) (by omega) q
          have := kbeg_nonneg G (j : Int)
          rw [hpre _ (by omega) (by omega)]; exact e2 i hi
      · have : j = k := by omega
        subst this
        refine ⟨f, ?_, fun i hi => hnew i hi⟩
        rcases hfc with ⟨j', hj', hm, hfj, hkey, hlj⟩ | ⟨hm, hfk⟩
        · rw [cst_yes (by rw [hm]; rfl), hm, hfj]
        · rw [cst_no (by rw [hm]; rfl), mfind_append, hm, hfk]
          show mfind [(gkey G j, kbeg G (j : Int))] (gkey G j) = _
          unfold mfind
          rw [if_pos rfl]
end Go.L
