import Derived.Test.YtfjggobjijeniaaPure2
/-! The table of smallest same types: groups looked up by their structure. -/
namespace Go.L
open Go

theorem krows_split (G : Kin) (k : Nat) (h : k < G.length) : ∃ M, krows G = krows (G.take k) ++ (grows (kbeg G (k : Int)) (idx G (k : Int)) ++ M) := by
  have e : G = G.take k ++ (idx G (k : Int) :: G.drop (k + 1)) := by rw [idx_nat h, ← List.drop_eq_getElem_cons h, List.take_append_drop]
  refine ⟨krowsF (0 + kcnt (G.take k) + ((idx G (k : Int)).length : Int)) (G.drop (k + 1)), ?_⟩
  conv => lhs; rw [e]
  unfold krows
  rw [krowsF_append, krowsF]
  simp [kbeg_nat]
theorem kbeg_len (G : Kin) (k : Nat) : (krows (G.take k)).length = (kbeg G (k : Int)).toNat := by
  have := krows_cnt (G.take k)
  rw [kbeg_nat]; omega
theorem mid_slice {T : Type} (X Y Z : List T) : ((X ++ (Y ++ Z)).take (X.length + Y.length)).drop X.length = Y := by
  rw [← List.append_assoc, List.take_left' (by simp), List.drop_left]
theorem krows_slice {G : Kin} {k : Nat} (h : k < G.length) : ((krows G).take (kbeg G (k : Int) + ((idx G (k : Int)).length : Int)).toNat).drop (kbeg G (k : Int)).toNat = grows (kbeg G (k : Int)) (idx G (k : Int)) := by
  obtain ⟨M, e⟩ := krows_split G k h
  have hb := kbeg_nonneg G (k : Int)
  rw [e, show (kbeg G (k : Int) + ((idx G (k : Int)).length : Int)).toNat = (krows (G.take k)).length + (grows (kbeg G (k : Int)) (idx G (k : Int))).length from by rw [kbeg_len, grows_len]; omega, ← kbeg_len, mid_slice]
theorem krows_idx {G : Kin} {k : Nat} (h : k < G.length) {j : Nat} (hj : j < (idx G (k : Int)).length) : idx (krows G) (kbeg G (k : Int) + (j : Int)) = ⟨idx (idx G (k : Int)) (j : Int), kbeg G (k : Int), kbeg G (k : Int) + ((idx G (k : Int)).length : Int)⟩ := by
  obtain ⟨M, e⟩ := krows_split G k h
  have hb := kbeg_nonneg G (k : Int)
  rw [← idx_grows hj, show kbeg G (k : Int) + (j : Int) = (((kbeg G (k : Int)).toNat + j : Nat) : Int) from by omega]
  refine idx_getD ?_
  rw [e, List.getElem?_append_right (by rw [kbeg_len]; omega), kbeg_len, Nat.add_sub_cancel_left, List.getElem?_append_left (by rw [grows_len]; exact hj)]
theorem grows_sub {G : Kin} {k : Nat} (h : k < G.length) {r : Row} (hr : r ∈ grows (kbeg G (k : Int)) (idx G (k : Int))) : r ∈ krows G := by
  obtain ⟨M, e⟩ := krows_split G k h
  rw [e]; simp [hr]
theorem kbeg_zero (G : Kin) : kbeg G ((0 : Nat) : Int) = 0 := by rw [kbeg_nat]; rfl
theorem kbeg_all (G : Kin) : kbeg G (G.length : Int) = kcnt G := by rw [kbeg_nat, List.take_length]
theorem kbeg_step {G : Kin} {k : Nat} (h : k < G.length) : kbeg G ((k + 1 : Nat) : Int) = kbeg G (k : Int) + ((idx G (k : Int)).length : Int) := by
  rw [kbeg_nat, kbeg_nat]; exact kcnt_step G k h
theorem kbeg_lt {G : Kin} {i j : Nat} (hi : i < G.length) (hij : i < j) : kbeg G (i : Int) + ((idx G (i : Int)).length : Int) ≤ kbeg G (j : Int) := by
  rw [← kbeg_step hi, kbeg_nat, kbeg_nat]; exact kcnt_mono G hij
theorem Small.rows {G : Kin} (hG : Small G) {r : Row} (h : r ∈ krows G) : TyOk r.t := by
  have : ∀ (G : Kin) (b : Int), (∀ g ∈ G, ∀ t ∈ g, TyOk t) → ∀ r ∈ krowsF b G, TyOk r.t := by
    intro G
    induction G with
    | nil => intro b _ r hr; cases hr
    | cons g G ih =>
      intro b h r hr
      rcases List.mem_append.1 hr with hr | hr
      · obtain ⟨t, ht, rfl⟩ := List.mem_map.1 hr
        exact h g (by simp) t ht
      · exact ih _ (fun g' hg' => h g' (by simp [hg'])) r hr
  exact this G 0 hG.rng r h

/-- A group's key in the table. -/
def z16 : List Value := [.int .i64 0, .int .i64 0, .bool false, .int .i64 0] ++ z12
def z128 : List Value := z16 ++ z16 ++ z16 ++ z16 ++ z16 ++ z16 ++ z16 ++ z16
def keyTo (c : List Int) (R : List Row) (i : Nat) : List Value := .int .i64 (R.length : Int) :: ((R.take i).flatMap (shapeV c) ++ z128.drop (16 * i))
def keyL (c : List Int) (R : List Row) : List Value := keyTo c R R.length
def keyV (c : List Int) (R : List Row) : Value := .agg (keyL c R).toArray
theorem flatMap_lenM {S T : Type} {f : S → List T} {n : Nat} : ∀ {L : List S}, (∀ x ∈ L, (f x).length = n) → (L.flatMap f).length = L.length * n
  | [], _ => by simp
  | x :: L, h => by rw [List.flatMap_cons, List.length_append, h x (by simp), flatMap_lenM fun y hy => h y (by simp [hy]), List.length_cons, Nat.add_mul]; omega
theorem keyTo_len {c : List Int} {R : List Row} {i : Nat} (hR : ∀ r ∈ R, r.t.fields.length ≤ 4) (hi : i ≤ R.length) (h8 : R.length ≤ 8) : (keyTo c R i).length = 129 := by
  unfold keyTo
  rw [List.length_cons, List.length_append, flatMap_lenM (n := 16) (fun r hr => shapeV_len (hR r (List.mem_of_mem_take hr))), List.length_take, List.length_drop]
  simp [z128, z16, z12, z3]; omega
theorem key_step {c : List Int} {R : List Row} {i : Nat} (hR : ∀ r ∈ R, r.t.fields.length ≤ 4) (hi : i < R.length) (h8 : R.length ≤ 8) :
    (keyTo c R (i + 1)).map A.val = over ((keyTo c R i).map A.val) (0 + 1 + (i : Int).toNat * 16) ((shapeV c (idx R (i : Int))).map A.val) := by
  rw [over_map]
  congr 1
  rw [Int.toNat_natCast]
  unfold keyTo
  have e : z128.drop (16 * i) = z16 ++ z128.drop (16 * (i + 1)) := by
    match i, (show i < 8 by omega) with
    | 0, _ => rfl
    | 1, _ => rfl
    | 2, _ => rfl
    | 3, _ => rfl
    | 4, _ => rfl
    | 5, _ => rfl
    | 6, _ => rfl
    | 7, _ => rfl
  have hz : z16.length = (shapeV c (idx R (i : Int))).length := by rw [shapeV_len (hR _ (idx_mem (by omega) (by omega)))]; rfl
  have h := over_at (.int .i64 (R.length : Int) :: (R.take i).flatMap (shapeV c)) z16 (z128.drop (16 * (i + 1))) (shapeV c (idx R (i : Int))) (0 + 1 + i * 16) (by rw [List.length_cons, flatMap_lenM (n := 16) (fun r hr => shapeV_len (hR r (List.mem_of_mem_take hr))), List.length_take]; omega) hz
  rw [e]
  refine Eq.trans ?_ h.symm
  rw [take_snoc hi, List.flatMap_append]
  simp
theorem keyTo_ib {c : List Int} {R : List Row} {i : Nat} : ∀ v ∈ keyTo c R i, IB v := by
  intro v hv
  unfold keyTo at hv
  rcases List.mem_cons.1 hv with rfl | hv
  · exact IB.int
  rcases List.mem_append.1 hv with hv | hv
  · obtain ⟨r, _, h⟩ := List.mem_flatMap.1 hv; exact shapeTo_ib v h
  · have := List.mem_of_mem_drop hv
    simp only [z128, z16, List.mem_append, List.mem_cons, List.not_mem_nil, or_false] at this
    have h0 : ∀ v, ((v = Value.int .i64 0 ∨ v = Value.int .i64 0 ∨ v = Value.bool false ∨ v = Value.int .i64 0) ∨ v ∈ z12) → IB v := by
      rintro v ((h | h | h | h) | h)
      · rw [h]; exact IB.int
      · rw [h]; exact IB.int
      · rw [h]; exact IB.bool
      · rw [h]; exact IB.int
      · exact IB.z12 v h
    rcases this with ((((((h | h) | h) | h) | h) | h) | h) | h <;> exact h0 v h

open Classical in
/-- The table behind k groups: the smallest same types, and the groups' keys with their first numbers. -/
noncomputable def cst (G : Kin) : Nat → List Int × List (Value × Int)
  | 0 => ([], [])
  | k + 1 =>
    let s := cst G k
    let v := keyV s.1 (grows (kbeg G (k : Int)) (idx G (k : Int)))
    (s.1 ++ from_ ((mfind s.2 v).getD (kbeg G (k : Int))) (idx G (k : Int)).length, if (mfind s.2 v).isSome then s.2 else s.2 ++ [(v, kbeg G (k : Int))])
noncomputable def canonL (G : Kin) : List Int := (cst G G.length).1
theorem cst_len (G : Kin) : ∀ k, k ≤ G.length → ((cst G k).1.length : Int) = kbeg G (k : Int)
  | 0, _ => by rw [kbeg_zero]; rfl
  | k + 1, h => by
    rw [kbeg_step (by omega), ← cst_len G k (by omega)]
    simp [cst, from_length]
theorem mfind_mem {T : Type} {v : Value} {t : T} : ∀ {l : List (Value × T)}, mfind l v = some t → (v, t) ∈ l
  | [], h => by cases h
  | (k, u) :: l, h => by
    unfold mfind at h
    split at h
    · rename_i e; subst e; cases h; simp
    · exact List.mem_cons_of_mem _ (mfind_mem h)
/-- Keys that are groups' keys. -/
structure CIn (G : Kin) (k : Nat) : Prop where
  ent : ∀ e ∈ (cst G k).2, ∃ j, j < k ∧ e = (keyV (cst G j).1 (grows (kbeg G (j : Int)) (idx G (j : Int))), kbeg G (j : Int))
  keys : ((cst G k).2.map (·.1)).Nodup
theorem keyV_len {c c' : List Int} {R R' : List Row} (h : keyV c R = keyV c' R') : R.length = R'.length := by
  have h1 : (keyL c R).toArray = (keyL c' R').toArray := by
    have := h; unfold keyV at this; exact Value.agg.inj this
  have h2 : keyL c R = keyL c' R' := by simpa using h1
  unfold keyL keyTo at h2
  have h3 := List.cons.inj h2
  have h4 := Value.int.inj h3.1
  omega
theorem cIn (G : Kin) : ∀ k, CIn G k
  | 0 => ⟨fun e he => (by cases he), List.nodup_nil⟩
  | k + 1 => by
    have ih := cIn G k
    constructor
    · intro e he
      simp only [cst] at he
      split at he
      · obtain ⟨j, hj, q⟩ := ih.ent e he; exact ⟨j, by omega, q⟩
      · rcases List.mem_append.1 he with he | he
        · obtain ⟨j, hj, q⟩ := ih.ent e he; exact ⟨j, by omega, q⟩
        · simp at he; exact ⟨k, by omega, he⟩
    · simp only [cst]
      split
      · exact ih.keys
      · rename_i hn
        rw [List.map_append, List.nodup_append]
        refine ⟨ih.keys, by simp, fun a ha b hb e => hn ?_⟩
        obtain ⟨x, hx, rfl⟩ := List.mem_map.1 ha
        simp at hb
        rw [mfind_some ih.keys (k := x.1) (t := x.2) hx (e.trans hb)]; rfl
/-- What is found is an earlier group's first number. -/
theorem cst_found {G : Kin} {k : Nat} {a : Int} (h : mfind (cst G k).2 (keyV (cst G k).1 (grows (kbeg G (k : Int)) (idx G (k : Int)))) = some a) :
    ∃ j, j < k ∧ a = kbeg G (j : Int) ∧ keyV (cst G k).1 (grows (kbeg G (k : Int)) (idx G (k : Int))) = keyV (cst G j).1 (grows (kbeg G (j : Int)) (idx G (j : Int))) ∧ (idx G (k : Int)).length = (idx G (j : Int)).length := by
  obtain ⟨j, hj, e⟩ := (cIn G k).ent _ (mfind_mem h)
  injection e with e1 e2
  refine ⟨j, hj, e2, e1, ?_⟩
  have := keyV_len e1
  simpa [grows_len] using this
theorem cst_canOk {G : Kin} (h8 : kcnt G ≤ 8) : ∀ k, k ≤ G.length → CanOk (cst G k).1
  | 0, _ => fun x hx => (by cases hx)
  | k + 1, h => by
    have ih := cst_canOk h8 k (by omega)
    intro x hx
    simp only [cst] at hx
    rcases List.mem_append.1 hx with hx | hx
    · exact ih x hx
    · unfold from_ at hx
      obtain ⟨i, hi, rfl⟩ := List.mem_map.1 hx
      have hi := List.mem_range.1 hi
      cases hm : mfind (cst G k).2 (keyV (cst G k).1 (grows (kbeg G (k : Int)) (idx G (k : Int)))) with
      | none =>
        have h1 := grp_end G k (by omega)
        have h2 := kbeg_nonneg G (k : Int)
        simp only [Option.getD_none]; omega
      | some a =>
        obtain ⟨j, hj, rfl, _, hl⟩ := cst_found hm
        have h1 := grp_end G j (by omega)
        have h2 := kbeg_nonneg G (j : Int)
        simp only [Option.getD_some]; omega

/-- The leaves of a key. -/
def fL : List TypeDesc := [.int .i64, .int .i64, .bool]
def sL : List TypeDesc := [.int .i64, .int .i64, .bool, .int .i64] ++ (List.replicate 4 fL).flatten
def kL : List TypeDesc := .int .i64 :: (List.replicate 8 sL).flatten
theorem FitV.int {n : Int} (h : -9223372036854775808 ≤ n ∧ n ≤ 9223372036854775807) : FitV (.int .i64) (.int .i64 n) := by
  refine ⟨rfl, ?_⟩
  simp only [Lit.wf, Bool.and_eq_true, decide_eq_true_eq]
  exact ⟨h.1, h.2⟩
theorem Fits.flat {S : Type} {d : List TypeDesc} {f : S → List Value} {z : List Value} (hz : Fits d z) : ∀ {n : Nat} {L : List S}, (∀ x ∈ L, Fits d (f x)) → L.length ≤ n → Fits (List.replicate n d).flatten (L.flatMap f ++ (List.replicate (n - L.length) z).flatten)
  | 0, [], _, _ => trivial
  | 0, _ :: _, _, h => by simp at h
  | n + 1, [], h, k => by
    have := Fits.flat hz (n := n) (L := ([] : List S)) (f := f) (by simp) (by simp)
    simp only [List.flatMap_nil, List.nil_append, List.length_nil, Nat.sub_zero, List.replicate_succ, List.flatten_cons] at *
    exact hz.append this
  | n + 1, x :: L, h, k => by
    have := Fits.flat hz (n := n) (L := L) (f := f) (fun y hy => h y (by simp [hy])) (by simpa using k)
    rw [List.flatMap_cons, List.append_assoc, List.replicate_succ, List.flatten_cons, List.length_cons, Nat.add_sub_add_right]
    exact (h x (by simp)).append this
theorem z12_drop {k : Nat} (h : k ≤ 4) : z12.drop (3 * k) = (List.replicate (4 - k) z3).flatten := by
  match k, h with
  | 0, _ => rfl
  | 1, _ => rfl
  | 2, _ => rfl
  | 3, _ => rfl
  | 4, _ => rfl
theorem z128_drop {k : Nat} (h : k ≤ 8) : z128.drop (16 * k) = (List.replicate (8 - k) z16).flatten := by
  match k, h with
  | 0, _ => rfl
  | 1, _ => rfl
  | 2, _ => rfl
  | 3, _ => rfl
  | 4, _ => rfl
  | 5, _ => rfl
  | 6, _ => rfl
  | 7, _ => rfl
  | 8, _ => rfl
theorem codeF_rng {c : List Int} {b n lim : Int} (hc : CanOk c) (hl : (c.length : Int) = b) (hlim : lim ≤ 8) (h2 : -2 ≤ n) (hn : n < lim) (hb : 0 ≤ b) : -2 ≤ codeF c b n ∧ codeF c b n ≤ 16 := by
  unfold codeF
  split
  · omega
  · split
    · omega
    · have := hc _ (idx_mem (L := c) (n := n) (by omega) (by omega))
      omega
theorem Fits.fld {f : Fld} (h1 : -9223372036854775808 ≤ f.kind ∧ f.kind ≤ 9223372036854775807) (h2 : -9223372036854775808 ≤ f.of ∧ f.of ≤ 9223372036854775807) : Fits fL (fldV f) :=
  ⟨FitV.int h1, FitV.int h2, trivial, trivial⟩
theorem Fits.z3 : Fits fL z3 := ⟨FitV.int (by omega), FitV.int (by omega), trivial, trivial⟩
theorem Fits.shape {c : List Int} {r : Row} (hc : CanOk c) (hl : (c.length : Int) = r.fst) (h0 : 0 ≤ r.fst) (hlim : r.lim ≤ 8) {n : Int} (hn : n ≤ r.lim) (hr : rowOk r n = true) : Fits sL (shapeV c r) := by
  unfold rowOk at hr
  simp only [Bool.and_eq_true, Bool.or_eq_true, decide_eq_true_eq, Bool.not_eq_true', List.any_eq_false, Bool.not_eq_true, Bool.not_eq_false'] at hr
  obtain ⟨⟨⟨⟨⟨r1, r2⟩, r3⟩, r4⟩, r5⟩, r6⟩ := hr
  unfold shapeV shapeTo sL shapeH
  refine Fits.append ⟨FitV.int (by omega), FitV.int ?_, trivial, FitV.int (by omega), trivial⟩ ?_
  · have := codeF_rng hc hl hlim (n := r.t.up) (by omega) (by omega) h0
    omega
  · rw [List.take_length, z12_drop r2]
    refine Fits.flat Fits.z3 (fun f hf => ?_) r2
    have hfo := r4 f hf
    have hfo : fieldOk f r.lim = true := by simpa using hfo
    unfold fieldOk at hfo
    unfold codeFld
    split
    · rename_i h1
      rw [if_pos h1] at hfo
      have : f.of = 0 := by simpa using hfo
      exact Fits.fld (by omega) (by omega)
    · rename_i h1
      rw [if_neg h1] at hfo
      split at hfo
      · rename_i h2
        simp at hfo
        have := codeF_rng hc hl hlim (n := f.of) (by omega) (by omega) h0
        exact Fits.fld (by simp only; omega) (by simp only; omega)
      · cases hfo
theorem Fits.z16 : Fits sL z16 := by
  unfold sL L.z16
  exact Fits.append ⟨FitV.int (by omega), FitV.int (by omega), trivial, FitV.int (by omega), trivial⟩ (Fits.z3.append (Fits.z3.append (Fits.z3.append (Fits.z3.append (es := []) (us := []) trivial))))
theorem Fits.key {c : List Int} {R : List Row} (h8 : R.length ≤ 8) (h : ∀ r ∈ R, Fits sL (shapeV c r)) : Fits kL (keyL c R) := by
  unfold keyL keyTo kL
  refine ⟨FitV.int (by omega), ?_⟩
  rw [List.take_length, z128_drop h8]
  exact Fits.flat Fits.z16 h h8
/-- All rows are right. -/
def RowsOk (G : Kin) : Prop := ∀ i : Nat, i < (krows G).length → rowOk (idx (krows G) (i : Int)) (i : Int) = true
theorem RowsOk.grp {G : Kin} (h : RowsOk G) {k : Nat} (hk : k < G.length) : ∀ r ∈ grows (kbeg G (k : Int)) (idx G (k : Int)), ∃ n : Int, n ≤ r.lim ∧ rowOk r n = true := by
  intro r hr
  obtain ⟨j, hj0, rfl⟩ := List.getElem_of_mem hr
  have hj : j < (idx G (k : Int)).length := by rwa [grows_len] at hj0
  have hb := kbeg_nonneg G (k : Int)
  have hge := grp_end G k hk
  have hc := krows_cnt G
  have h1 := h ((kbeg G (k : Int)).toNat + j) (by omega)
  rw [show (((kbeg G (k : Int)).toNat + j : Nat) : Int) = kbeg G (k : Int) + (j : Int) from by omega, krows_idx hk hj] at h1
  have e := (idx_nat hj0).symm.trans (idx_grows (b := kbeg G (k : Int)) hj)
  rw [e]
  exact ⟨_, by simp only; omega, h1⟩
theorem mem_grows {b : Int} {g : List Ty} {r : Row} (h : r ∈ grows b g) : r.fst = b ∧ r.lim = b + g.length := by
  obtain ⟨t, _, rfl⟩ := List.mem_map.1 h
  exact ⟨rfl, rfl⟩
theorem rowOk_len {r : Row} {n : Int} (hr : rowOk r n = true) : r.t.fields.length ≤ 4 := by
  unfold rowOk at hr
  simp only [Bool.and_eq_true, decide_eq_true_eq] at hr
  exact hr.1.1.1.1.2
theorem key_fits {G : Kin} (h8 : kcnt G ≤ 8) (hR : RowsOk G) {k : Nat} (hk : k < G.length) : Fits kL (keyL (cst G k).1 (grows (kbeg G (k : Int)) (idx G (k : Int)))) := by
  have hge := grp_end G k hk
  have hb := kbeg_nonneg G (k : Int)
  refine Fits.key (by rw [grows_len]; omega) fun r hr => ?_
  obtain ⟨n, h1, h2⟩ := hR.grp hk r hr
  obtain ⟨e1, e2⟩ := mem_grows hr
  exact Fits.shape (cst_canOk h8 k (by omega)) (by rw [cst_len G k (by omega), e1]) (by omega) (by omega) h1 h2
theorem cst_no {G : Kin} {k : Nat} (h : (mfind (cst G k).2 (keyV (cst G k).1 (grows (kbeg G (k : Int)) (idx G (k : Int))))).isSome = false) : (cst G (k + 1)).2 = (cst G k).2 ++ [(keyV (cst G k).1 (grows (kbeg G (k : Int)) (idx G (k : Int))), kbeg G (k : Int))] := by
  show (if _ then _ else _) = _
  rw [if_neg (by rw [h]; simp)]
theorem cst_yes {G : Kin} {k : Nat} (h : (mfind (cst G k).2 (keyV (cst G k).1 (grows (kbeg G (k : Int)) (idx G (k : Int))))).isSome = true) : (cst G (k + 1)).2 = (cst G k).2 := by
  show (if _ then _ else _) = _
  rw [if_pos h]
theorem cst_fst {G : Kin} {k : Nat} : (cst G (k + 1)).1 = (cst G k).1 ++ from_ ((mfind (cst G k).2 (keyV (cst G k).1 (grows (kbeg G (k : Int)) (idx G (k : Int))))).getD (kbeg G (k : Int))) (idx G (k : Int)).length := rfl
theorem cst_first {G : Kin} (h8 : kcnt G ≤ 8) {k : Nat} (hk : k < G.length) : 0 ≤ (mfind (cst G k).2 (keyV (cst G k).1 (grows (kbeg G (k : Int)) (idx G (k : Int))))).getD (kbeg G (k : Int)) ∧
    (mfind (cst G k).2 (keyV (cst G k).1 (grows (kbeg G (k : Int)) (idx G (k : Int))))).getD (kbeg G (k : Int)) + ((idx G (k : Int)).length : Int) ≤ 8 := by
  have h1 := grp_end G k hk
  have h2 := kbeg_nonneg G (k : Int)
  cases hm : mfind (cst G k).2 (keyV (cst G k).1 (grows (kbeg G (k : Int)) (idx G (k : Int)))) with
  | none => simp only [Option.getD_none]; omega
  | some a =>
    obtain ⟨j, hj, rfl, _, hl⟩ := cst_found hm
    have h1 := grp_end G j (by omega)
    have h2 := kbeg_nonneg G (j : Int)
    simp only [Option.getD_some]; omega
end Go.L
