import Derived.Test.YtfjggobjijeniaaPure5
import Derived.Test.YtfjggobjijeniaaWalk2
/-! What the table says. -/
namespace Go.L
open Go
/-- Right groups in the other program's terms. -/
structure KG (G : Kin) : Prop where
  small : Small G
  parts : kparts G = true
theorem KG.ok {G : Kin} (h : KG G) : PartsOk G := kparts_ok h.parts
theorem canonL_len (G : Kin) : ((canonL G).length : Int) = kcnt G := by
  unfold canonL; rw [cst_len G _ (Nat.le_refl _), kbeg_all]
theorem KG.canOk {G : Kin} (h : KG G) : CanOk (canonL G) := cst_canOk h.ok.cnt _ (Nat.le_refl _)
theorem krows_t {G : Kin} {a : Int} (h0 : 0 ≤ a) (h : a < kcnt G) : (idx (krows G) a).t = idx G.flatten a := by
  obtain ⟨i, k, hi, hk, ea, _, et⟩ := flat_of h0 h
  rw [et, ea, krows_idx hi hk]
theorem canon_same {G : Kin} (hK : KG G) {a b : Int} (ha : 0 ≤ a) (ha2 : a < kcnt G) (hb : 0 ≤ b) (hb2 : b < kcnt G) : (idx (canonL G) a = idx (canonL G) b) ↔ ksame G a b = true := by
  have h := cp_all hK.ok G.length (Nat.le_refl _)
  have e := kbeg_all G
  exact (h.same a b ha (by omega) hb (by omega)).symm
theorem canon_eq {G : Kin} (hK : KG G) {a : Int} (ha : 0 ≤ a) (ha2 : a < kcnt G) : idx (canonL G) a = kcanon G a := by
  have h := cp_all hK.ok G.length (Nat.le_refl _)
  have e := kbeg_all G
  obtain ⟨h1, h2, h3⟩ := h.le a ha (by omega)
  have h1 : 0 ≤ idx (canonL G) a := h1
  have h2 : idx (canonL G) a ≤ a := h2
  have h3 : idx (canonL G) (idx (canonL G) a) = idx (canonL G) a := h3
  have hlow : ∀ j : Nat, (j : Int) < idx (canonL G) a → ksame G (j : Int) a = false := fun j hj => by
    cases q : ksame G (j : Int) a with
    | false => rfl
    | true =>
      have h4 := (canon_same hK (a := (j : Int)) (b := a) (by omega) (by omega) ha ha2).2 q
      have h5 := (h.le (j : Int) (by omega) (by omega)).2.1
      have h5 : idx (canonL G) (j : Int) ≤ j := h5
      omega
  by_cases q : idx (canonL G) a < a
  · rw [kcanon_some (k := (idx (canonL G) a).toNat) (by omega) ?_ (fun j hj => hlow j (by omega))]
    · omega
    · rw [show (((idx (canonL G) a).toNat : Nat) : Int) = idx (canonL G) a from by omega]
      exact (canon_same hK h1 (by omega) ha ha2).1 h3
  · rw [kcanon_none (fun j hj => hlow j (by omega))]
    omega
theorem KG.up {G : Kin} (h : KG G) {a : Int} (h0 : 0 ≤ a) (ha : a < kcnt G) : -1 ≤ (idx (krows G) a).t.up ∧ (idx (krows G) a).t.up < a := by
  rw [krows_t h0 ha]; exact h.ok.ups a h0 ha
theorem any_step {G : Kin} (h : KG G) {a : Int} (p : Int → Bool) (h0 : 0 ≤ a) (ha : a < kcnt G) : (kline G.flatten a).any p = (p a || (kline G.flatten (idx (krows G) a).t.up).any p) := by
  rw [kline_cons h.ok.ups h0 ha, krows_t h0 ha]; rfl
def kunderI (G : Kin) (a b : Int) : Bool := decide (-2 ≤ a) && decide (a < kcnt G) && (decide (-2 ≤ b) && decide (b < kcnt G)) && kunder G a b
theorem fieldOk_rng {f : Fld} {n : Int} (h : fieldOk f n = true) : (f.kind = 1 ∧ f.of = 0) ∨ (f.kind ≠ 1 ∧ -2 ≤ f.of ∧ f.of < n) := by
  unfold fieldOk at h
  split at h
  · left; simp at h; exact ⟨by assumption, h⟩
  · right
    split at h
    · simp at h; exact ⟨by assumption, h.1, h.2⟩
    · cases h
def FldsOk (G : Kin) (t : Ty) : Prop := ∀ f ∈ t.fields, fieldOk f (kcnt G) = true
theorem rowOk_kform (t : Ty) (b lim me : Int) : rowOk ⟨t, b, lim⟩ me = kform t me lim := by
  unfold rowOk kform
  have e : (!(t.fields.any fun f => !fieldOk f lim)) = allN t.fields.length fun i => fieldOk (idx t.fields (i : Int)) lim := by
    have h1 := all_idx (L := t.fields) (p := fun f => fieldOk f lim)
    rw [h1]
    simp [List.any_eq_not_all_not]
  rw [e]
  by_cases h1 : t.kind = 1 <;> by_cases h2 : t.kind = 2 <;> simp_all <;> grind
theorem rowsOk_iff {G : Kin} : RowsOk G ↔ ∀ i k : Nat, i < G.length → k < (idx G (i : Int)).length → kform (idx (idx G (i : Int)) (k : Int)) (kbeg G (i : Int) + (k : Int)) (kbeg G (i : Int) + ((idx G (i : Int)).length : Int)) = true := by
  have hc := krows_cnt G
  constructor
  · intro h i k hi hk
    have hb := kbeg_nonneg G (i : Int)
    have he := grp_end G i hi
    have h1 := h ((kbeg G (i : Int)).toNat + k) (by omega)
    rw [show (((kbeg G (i : Int)).toNat + k : Nat) : Int) = kbeg G (i : Int) + (k : Int) from by omega, krows_idx hi hk, rowOk_kform] at h1
    exact h1
  · intro h n hn
    obtain ⟨i, k, hi, hk, ea, _, et⟩ := flat_of (G := G) (a := (n : Int)) (by omega) (by omega)
    rw [ea, krows_idx hi hk, rowOk_kform]
    exact h i k hi hk
theorem kparts_iff {G : Kin} : kparts G = true ↔ G.length ≤ 4 ∧ kcnt G ≤ 8 ∧ (∀ g ∈ G, g ≠ []) ∧ RowsOk G := by
  rw [rowsOk_iff]
  unfold kparts
  simp only [Bool.and_eq_true, decide_eq_true_eq, allN_iff]
  constructor
  · rintro ⟨⟨h1, h2⟩, h3⟩
    refine ⟨h1, h2, fun g hg e => ?_, fun i k hi hk => (h3 i hi).2 k hk⟩
    obtain ⟨i, hi, rfl⟩ := List.getElem_of_mem hg
    have := (h3 i hi).1
    rw [idx_nat hi, e] at this
    exact this rfl
  · rintro ⟨h1, h2, h3, h4⟩
    refine ⟨⟨h1, h2⟩, fun i hi => ⟨fun e => ?_, fun k hk => h4 i k hi hk⟩⟩
    exact h3 _ (idx_mem (L := G) (n := (i : Int)) (by omega) (by omega)) (List.length_eq_zero_iff.1 e)
def kOpt (ok : Bool) (L : List Row) (c : List Int) : A := if ok = true then kP L c else A.val (.pointer none)
theorem kOpt_yes {G : Kin} {ok : Bool} {L : List Row} {c : List Int} (h : ok = true) : Imp (kP L c) (kOpt ok L c) := by
  unfold kOpt; rw [if_pos h]; exact Imp.refl
theorem kOpt_no {ok : Bool} {L : List Row} {c : List Int} (h : ok = false) : Imp (A.val (.pointer none)) (kOpt ok L c) := by
  unfold kOpt; rw [if_neg (by rw [h]; simp)]; exact Imp.refl
def kext (G : Kin) (i : Nat) : Bool := !decide (0 ≤ (idx G.flatten (i : Int)).up) || kbelow G (idx G.flatten (i : Int)) (idx G.flatten (idx G.flatten (i : Int)).up)
theorem kinOk_eq (G : Kin) : kinOk G = (kparts G && allN G.flatten.length (kext G)) := rfl
theorem kinOk_no {G : Kin} (h : kparts G = false) : kinOk G = false := by rw [kinOk_eq, h]; rfl
theorem kparts_no {G : Kin} (h : ¬ (G.length ≤ 4 ∧ kcnt G ≤ 8 ∧ (∀ g ∈ G, g ≠ []) ∧ RowsOk G)) : kparts G = false := by
  cases e : kparts G with
  | false => rfl
  | true => exact absurd (kparts_iff.1 e) h
theorem KG.flds {G : Kin} (h : KG G) {a : Int} (h0 : 0 ≤ a) (ha : a < kcnt G) : FldsOk G (idx (krows G) a).t := by
  obtain ⟨i, k, hi, hk, ea, _, et⟩ := flat_of h0 ha
  rw [krows_t h0 ha, et]
  have hf := h.ok.form i k hi hk
  unfold kform at hf
  simp only [Bool.and_eq_true, decide_eq_true_eq, allN_iff] at hf
  have he := grp_end G i hi
  intro f hm
  obtain ⟨j, hj, rfl⟩ := List.getElem_of_mem hm
  have := hf.2 j hj
  rw [idx_nat hj] at this
  unfold fieldOk at this ⊢
  split
  · rename_i q; rw [if_pos q] at this; exact this
  · rename_i q
    rw [if_neg q] at this
    split
    · rename_i q2
      rw [if_pos q2] at this
      simp only [Bool.and_eq_true, decide_eq_true_eq] at this ⊢
      omega
    · rename_i q2; rw [if_neg q2] at this; exact this
/-- The outer k pairs swapped. -/
def sw (L : List Int) (k : Nat) : List Int := (List.range L.length).map fun i : Nat => if i < k ∨ L.length ≤ i + k then idx L ((L.length : Int) - 1 - (i : Int)) else idx L (i : Int)
theorem sw_length (L : List Int) (k : Nat) : (sw L k).length = L.length := by simp [sw]
theorem sw_get (L : List Int) (k i : Nat) (h : i < L.length) : (sw L k)[i]? = some (if i < k ∨ L.length ≤ i + k then idx L ((L.length : Int) - 1 - (i : Int)) else idx L (i : Int)) := by
  unfold sw; rw [List.getElem?_map, List.getElem?_range h]; rfl
theorem sw_zero (L : List Int) : sw L 0 = L := by
  refine List.ext_getElem? fun i => ?_
  rcases Nat.lt_or_ge i L.length with q | q
  · rw [sw_get L 0 i q, if_neg (by omega), idx_nat q, List.getElem?_eq_getElem q]
  · rw [List.getElem?_eq_none (by rw [sw_length]; exact q), List.getElem?_eq_none q]
theorem sw_all (L : List Int) (k : Nat) (h : (L.length : Int) - 1 - k ≤ k) : sw L k = L.reverse := by
  refine List.ext_getElem? fun i => ?_
  rcases Nat.lt_or_ge i L.length with q | q
  · rw [sw_get L k i q, List.getElem?_reverse q]
    have e : ∀ j : Nat, j < L.length → idx L (j : Int) = L[j]?.getD default := fun j hj => by rw [idx_nat hj, List.getElem?_eq_getElem hj]; rfl
    split
    · rw [show (L.length : Int) - 1 - (i : Int) = ((L.length - 1 - i : Nat) : Int) from by omega, idx_nat (by omega), List.getElem?_eq_getElem (by omega)]
    · have : i = L.length - 1 - i := by omega
      rw [idx_nat q, ← this, List.getElem?_eq_getElem q]
  · rw [List.getElem?_eq_none (by rw [sw_length]; exact q), List.getElem?_eq_none (by simpa using q)]
theorem over_get {S : Type} {X : List S} {o : Nat} {v : S} (h : o < X.length) (i : Nat) : (over X o [v])[i]? = if i = o then some v else X[i]? := by
  unfold over
  rw [List.append_assoc, List.getElem?_append]
  by_cases q : i < o
  · rw [if_pos (by simp; omega), if_neg (by omega), List.getElem?_take, if_pos q]
  · rw [if_neg (by simp; omega)]
    by_cases q2 : i = o
    · subst q2
      rw [if_pos rfl, List.getElem?_append_left (by simp; omega)]
      simp [Nat.min_eq_left (Nat.le_of_lt h)]
    · rw [if_neg q2, List.getElem?_append_right (by simp; omega)]
      simp only [List.length_take, List.length_cons, List.length_nil, List.getElem?_drop]
      congr 1; omega
theorem sw_step (L : List Int) (k : Nat) (h : (k : Int) < (L.length : Int) - 1 - k) (sp : List A) : (sw L (k + 1)).map A.int ++ sp =
    over (over ((sw L k).map A.int ++ sp) k [A.int (idx L ((L.length : Int) - 1 - (k : Int)))]) (L.length - 1 - k) [A.int (idx L (k : Int))] := by
  refine List.ext_getElem? fun i => ?_
  have l1 : ((sw L k).map A.int ++ sp).length = L.length + sp.length := by simp [sw_length]
  rw [over_get (by rw [over_length (by simp [sw_length]; omega), l1]; omega), over_get (by rw [l1]; omega)]
  rcases Nat.lt_or_ge i L.length with q | q
  · rw [List.getElem?_append_left (by simp [sw_length]; exact q), List.getElem?_map, sw_get L (k + 1) i q, List.getElem?_append_left (by simp [sw_length]; exact q), List.getElem?_map, sw_get L k i q]
    by_cases q1 : i = L.length - 1 - k
    · rw [if_pos q1, if_pos (by omega), show (L.length : Int) - 1 - (i : Int) = (k : Int) from by omega]; rfl
    · rw [if_neg q1]
      by_cases q2 : i = k
      · subst q2; rw [if_pos rfl, if_pos (by omega)]; rfl
      · rw [if_neg q2]
        by_cases q3 : i < k ∨ L.length ≤ i + k
        · rw [if_pos (by omega), if_pos q3]
        · rw [if_neg (by omega), if_neg q3]
  · rw [if_neg (by omega), if_neg (by omega), List.getElem?_append_right (by simp [sw_length]; exact q), List.getElem?_append_right (by simp [sw_length]; exact q)]
    simp [sw_length]
theorem sw_at (L : List Int) (k i : Nat) (sp : List A) (n : Int) (h : i < L.length) (h1 : k ≤ i) (h2 : i + k < L.length) (e : n = idx L (i : Int)) : ((sw L k).map A.int ++ sp)[i]? = some (A.int n) := by
  rw [List.getElem?_append_left (by simp [sw_length]; exact h), List.getElem?_map, sw_get L k i h, if_neg (by omega), e]; rfl
theorem sw_step' (L : List Int) (k : Nat) (h : (k : Int) < (L.length : Int) - 1 - k) (sp : List A) : (sw L (k + 1)).map A.int ++ sp =
    over (over ((sw L k).map A.int ++ sp) ((k : Int).toNat * 1) [A.int (idx L ((L.length : Int) - 1 - (k : Int)))]) (((L.length : Int) - 1 - (k : Int)).toNat * 1) [A.int (idx L (k : Int))] := by
  rw [Nat.mul_one, Nat.mul_one, Int.toNat_natCast, show ((L.length : Int) - 1 - (k : Int)).toNat = L.length - 1 - k from by omega, sw_step L k h sp]
theorem sw_len (L : List Int) (k o : Nat) (v : A) (sp : List A) (h : o < L.length) : (over ((sw L k).map A.int ++ sp) o [v]).length = L.length + sp.length := by
  rw [over_length (by simp [sw_length]; omega)]; simp [sw_length]
/-- The line's smallest same types. -/
noncomputable def cline (G : Kin) (a : Int) : List Int := (kline G.flatten a).map (idx (canonL G))
theorem cline_step {G : Kin} (h : KG G) {a : Int} (h0 : 0 ≤ a) (ha : a < kcnt G) : cline G a = idx (canonL G) a :: cline G (idx (krows G) a).t.up := by
  unfold cline
  rw [kline_cons h.ok.ups h0 ha, krows_t h0 ha]; rfl
theorem cline_neg {G : Kin} {a : Int} (h : a < 0) : cline G a = [] := by unfold cline; rw [kline_neg h]; rfl
theorem cline_len (G : Kin) (a : Int) : (cline G a).length ≤ a.toNat + 1 := by unfold cline; rw [List.length_map]; exact kline_len _ _
theorem kline_mem {G : Kin} (h : KG G) : ∀ (n : Nat) (a : Int), a < kcnt G → a < n → ∀ c ∈ kline G.flatten a, 0 ≤ c ∧ c < kcnt G
  | n, a, h1, h2, c, hc => by
    by_cases q : a < 0
    · rw [kline_neg q] at hc; cases hc
    · rw [kline_cons h.ok.ups (by omega) h1] at hc
      have hu := h.ok.ups a (by omega) h1
      rcases List.mem_cons.1 hc with rfl | hc
      · omega
      · match n, h2 with
        | n + 1, h2 => exact kline_mem h n _ (by omega) (by omega) c hc
        | 0, h2 => omega
theorem cline_eq {G : Kin} (h : KG G) {a : Int} (ha2 : a < kcnt G) : (cline G a).reverse = kinLine G a := by
  unfold cline kinLine
  congr 1
  refine List.map_congr_left fun c hc => ?_
  obtain ⟨h1, h2⟩ := kline_mem h (a.toNat + 1) a ha2 (by omega) c hc
  exact canon_eq h h1 h2
theorem KG.of {G : Kin} (hG : Small G) (h : kinOk G = true) : KG G := ⟨hG, kinOk_parts h⟩
theorem cline_length (G : Kin) (a : Int) : (cline G a).length = (kinLine G a).length := by simp [cline, kinLine]
theorem small_of {G : Kin} (hb : bKin G ≤ 1048576) (hr : ∀ g ∈ G, ∀ t ∈ g, TyOk t) : Small G :=
  ⟨by have : G.length ≤ bKin G := bulk_len; omega, fun g hg => by
    have h1 : bTys g ≤ bKin G := bulk_mem hg
    have h2 : g.length ≤ bTys g := bulk_len
    omega, hr⟩
theorem sum_map_le {T : Type} {f g : T → Nat} : ∀ {L : List T}, (∀ x ∈ L, f x ≤ g x) → (L.map f).sum ≤ (L.map g).sum
  | [], _ => by simp
  | x :: L, h => by
    have := h x (by simp)
    have := sum_map_le (L := L) fun y hy => h y (by simp [hy])
    simp only [List.map_cons, List.sum_cons]; omega
theorem sum_map_mul {T : Type} {f : T → Nat} (n : Nat) : ∀ {L : List T}, (L.map fun x => n * f x).sum = n * (L.map f).sum
  | [] => by simp
  | x :: L => by simp only [List.map_cons, List.sum_cons, sum_map_mul n (L := L), Nat.mul_add]
theorem sum_map_add {T : Type} {f : T → Nat} (n : Nat) : ∀ {L : List T}, (L.map fun x => n + f x).sum = n * L.length + (L.map f).sum
  | [] => by simp
  | x :: L => by simp only [List.map_cons, List.sum_cons, sum_map_add n (L := L), List.length_cons, Nat.mul_add]; omega
theorem mTys_le (L : List Ty) : mTys L ≤ 3 * bTys L := by
  unfold mTys bTys bulkL
  have : (L.map mTy).sum = (L.map fun t => 3 + 3 * t.fields.length).sum := rfl
  rw [this, sum_map_add 3, sum_map_mul 3 (f := fun t : Ty => t.fields.length)]
  have : (L.map bTy).sum = (L.map fun t => t.fields.length).sum := rfl
  omega
theorem mKin_le (G : Kin) : mKin G ≤ 3 * bKin G := by
  unfold mKin bKin bulkL
  have h1 := sum_map_le (L := G) (f := mTys) (g := fun g => 3 * bTys g) (fun g _ => mTys_le g)
  rw [sum_map_mul 3 (f := bTys)] at h1
  omega
theorem sGrp_imp (g : List Ty) : AllImp (sGrp g) (cGrp g) := ⟨Imp.sli fun t => ⟨fun _ _ k => ⟨_, k⟩, fun _ _ k => ⟨_, k⟩, fun _ _ k => ⟨_, k⟩, Imp.sli fun f => ⟨fun _ _ k => ⟨_, k⟩, fun _ _ k => ⟨_, k⟩, fun _ _ k => ⟨_, k⟩, trivial⟩, trivial⟩, trivial⟩
end Go.L
