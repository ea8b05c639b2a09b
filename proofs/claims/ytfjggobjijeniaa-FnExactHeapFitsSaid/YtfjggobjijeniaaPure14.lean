import Derived.Test.YtfjggobjijeniaaPure13
/-! What the program asks of a heap is what the reference asks. -/
namespace Go.L
open Go
theorem fits_heap {G : Kin} {h : Hp} {S : List Int} (hS : ∀ s ∈ S, AtOk G.flatten h.words s) (hl : h.words.length ≤ 160) (v : Vl) (f : Fld) :
    fitsF G (hfd G.flatten h.words S) v f = (fieldOk f (kcnt G) && hfits G h S v f) := by
  unfold fitsF
  cases hf : fieldOk f (kcnt G) with
  | false => simp
  | true =>
    have hr := fieldOk_rng hf
    have hc := kcnt_nonneg G
    have hfk : f.kind = 1 ∨ f.kind = 2 ∨ f.kind = 3 := by unfold fieldOk at hf; grind
    simp only [Bool.true_and, Bool.true_eq_false, if_false]
    unfold hfits
    by_cases k1 : f.kind = 1
    · rw [if_pos k1]
      by_cases v1 : v.kind = 1
      · unfold vform; simp [k1, v1]
      · simp [v1, k1]
    · rw [if_neg k1]
      by_cases v2 : v.kind = 2
      · have hv : vform v 160 = decide (v.n = 0) := by unfold vform; rw [if_neg (by omega), if_pos v2]
        rw [if_pos v2, hv, if_neg (by omega : ¬ (f.kind = 1 ∨ v.kind = 1)), if_pos v2]
        by_cases n0 : v.n = 0 <;> simp [n0]
      · rw [if_neg v2]
        unfold refOf
        by_cases v3 : v.kind = 3
        · have hv : vform v 160 = vnum v.n := by unfold vform; rw [if_pos (.inr v3)]
          rw [if_pos v3, hv, if_neg (by omega : ¬ (f.kind = 1 ∨ v.kind = 1)), if_neg v2, if_pos v3]
          unfold kunderI
          cases vnum v.n
          · simp
          · simp; omega
        · rw [if_neg v3]
          by_cases v4 : v.kind = 4
          · rw [if_pos v4]
            have hv : vform v 160 = (decide (0 ≤ v.n) && decide (v.n < 160)) := by unfold vform; rw [if_neg (by omega), if_neg v2, if_pos v4]
            unfold hfd
            by_cases hn : v.n ∈ S
            · have u := (hS _ hn).use
              have hfm := find_mem.2 hn
              have hkc : (kcnt G : Int) = G.flatten.length := rfl
              rw [if_pos hn, hv, if_neg (by simp; omega), if_neg (by omega : ¬ (f.kind = 1 ∨ v.kind = 1)), if_neg v2, if_neg v3]
              have e : (thingAt G.flatten h.words v.n).ty = idx h.words v.n / 16 := rfl
              unfold kunderI
              rw [e]
              have hr2 : -2 ≤ f.of ∧ f.of < kcnt G := by omega
              simp [hfm, show 0 ≤ idx h.words v.n / 16 from by omega, show idx h.words v.n / 16 < kcnt G from by omega, show -2 ≤ idx h.words v.n / 16 from by omega, hr2.1, hr2.2]
            · have hfm : ¬ 0 ≤ find S v.n := fun q => hn (find_mem.1 q)
              rw [if_neg hn]; simp [hfm, v4, k1]
          · rw [if_neg v4]
            have hv : vform v 160 = vnum v.n ∨ vform v 160 = false := by unfold vform; split <;> simp_all
            by_cases v1 : v.kind = 1
            · simp [v1, k1]
            · have hv : vform v 160 = false := by unfold vform; rw [if_neg (by omega), if_neg v2, if_neg v4]
              rw [hv]; simp
theorem hpart_gap {T : List Ty} {W : List Int} {b : Int} : ∀ (n : Nat) (a : Int), (b - a).toNat ≤ n → (hpart T W a b).1.Pairwise (fun x y => x + 1 + hlen T (idx W x) ≤ y)
  | 0, a, h => by rw [hpart_end (by omega)]; exact List.Pairwise.nil
  | n + 1, a, h => by
    by_cases h1 : a < b
    · by_cases h2 : hlen T (idx W a) < 0 ∨ b < a + 1 + hlen T (idx W a)
      · rw [hpart_bad h1 h2]; exact List.Pairwise.nil
      · rw [hpart_step h1 h2]
        refine List.pairwise_cons.2 ⟨fun x hx => ?_, hpart_gap (b := b) n (a + 1 + hlen T (idx W a)) (by omega)⟩
        have := hpart_mem (b := b) n (a + 1 + hlen T (idx W a)) (by omega) x hx
        omega
    · rw [hpart_end h1]; exact List.Pairwise.nil
theorem AtOk.cnt {T : List Ty} {h : Hp} {a : Int} (k : AtOk T h.words a) : (cntW h a : Int) = hlen T (idx h.words a) := by
  obtain ⟨h1, h2, h3⟩ := k
  have := hlen_spec h3
  unfold cntW; omega
theorem LH.of {T : List Ty} {h : Hp} (hs : hsize h = true) : LH h (hthings T h).1 := by
  have hu := hsize_use hs
  have hat := hthings_at (T := T) hs
  refine ⟨?_, fun a ha => (hat a ha).1, fun a ha q => ?_⟩
  · have hg : (hthings T h).1.Pairwise (fun x y => x + 1 + hlen T (idx h.words x) ≤ y) := by
      unfold hthings
      refine List.pairwise_append.2 ⟨hpart_gap _ _ (Nat.le_refl _), hpart_gap _ _ (Nat.le_refl _), fun x hx y hy => ?_⟩
      have h1 := hpart_mem (T := T) (W := h.words) _ 0 (Nat.le_refl _) x hx
      have h2 := hpart_mem (T := T) (W := h.words) _ h.old (Nat.le_refl _) y hy
      omega
    refine hg.imp_of_mem fun {a b} ha hb k => ?_
    rw [(hat a ha).cnt]; exact k
  · rw [(hat a ha).cnt]
    unfold hthings at ha
    rcases List.mem_append.1 ha with z | z
    · have h1 := hpart_mem (T := T) (W := h.words) _ 0 (Nat.le_refl _) a z; omega
    · have h1 := hpart_mem (T := T) (W := h.words) _ h.old (Nat.le_refl _) a z; omega
theorem things_nodup {T : List Ty} {h : Hp} (hs : hsize h = true) : (hthings T h).1.Nodup := by
  have H := LH.of (T := T) hs
  refine H.gap.imp_of_mem fun {a b} ha hb k e => ?_
  omega
theorem things_inI {T : List Ty} {h : Hp} (hs : hsize h = true) : ∀ s ∈ (hthings T h).1, inI s := fun s q => by
  have := (hthings_at (T := T) hs s q).use
  have := hsize_use hs
  unfold inI; omega
/-- An object, as the program asks of it. -/
noncomputable def fitAt (G : Kin) (h : Hp) (S : List Int) (a : Int) : Bool :=
  decide ((thingAt G.flatten h.words a).vals.length = (hfields G (thingAt G.flatten h.words a).ty (thingAt G.flatten h.words a).vals.length).1.length) &&
    allN (thingAt G.flatten h.words a).vals.length fun i => fitsF G (hfd G.flatten h.words S) (idx (thingAt G.flatten h.words a).vals (i : Int)) (idx (hfields G (thingAt G.flatten h.words a).ty (thingAt G.flatten h.words a).vals.length).1 (i : Int))
theorem allN_at {n : Nat} {p : Nat → Bool} (h : allN n p = true) {i : Nat} (hi : i < n) : p i = true := allN_iff.1 h i hi
theorem allN_and {n : Nat} {p q : Nat → Bool} : (allN n p && allN n q) = allN n (fun i => p i && q i) := by
  cases h : allN n (fun i => p i && q i) with
  | true =>
    have := fun i hi => allN_at h (i := i) hi
    rw [allN_true (fun i hi => by have := this i hi; simp at this; exact this.1), allN_true (fun i hi => by have := this i hi; simp at this; exact this.2)]; rfl
  | false =>
    cases hp : allN n p <;> cases hq : allN n q <;> try rfl
    rw [allN_true (fun i hi => by simp [allN_at hp hi, allN_at hq hi])] at h; cases h
theorem fitAt_eq {G : Kin} (hK : KG G) {h : Hp} {S : List Int} (hS : ∀ s ∈ S, AtOk G.flatten h.words s) (hl : h.words.length ≤ 160) {a : Int} (ha : AtOk G.flatten h.words a) :
    fitAt G h S a = allN (cntW h a) fun i => hfits G h S (valAt G.flatten h a i) (fldAt (idx G.flatten (idx h.words a / 16)) i) := by
  obtain ⟨e1, e2⟩ := thing_fields hK ha
  have e3 := thing_len (T := G.flatten) (W := h.words) (a := a)
  have e4 : cntW h a = (idx h.words a % 16).toNat := rfl
  obtain ⟨u1, u2, u3, u4, u5, u6, u7, u8⟩ := ha.use
  unfold fitAt
  rw [decide_eq_true (by omega), Bool.true_and, show (thingAt G.flatten h.words a).vals.length = cntW h a from by omega]
  refine allN_congr fun i hi => ?_
  rw [thing_val hi]
  have e5 := e2 i hi
  rw [show (thingAt G.flatten h.words a).vals.length = cntW h a from by omega] at e5
  rw [e5, fits_heap hS hl]
  have hf : fieldOk (fldAt (idx G.flatten (idx h.words a / 16)) (i : Int)) (kcnt G) = true := fld_okAt hK (by omega) (by omega) (by omega) (fun k1 => by have := u8 k1; omega)
  rw [hf, Bool.true_and]
def logA (T : List Ty) (h : Hp) (a : Int) : Bool := !(decide (a < h.old)) || allN (cntW h a) fun i => !(selY T h a i) || decide (a + 1 + (i : Int) ∈ h.log)
theorem words_eq {G : Kin} {h : Hp} {S : List Int} {a : Int} :
    hwords G G.flatten h S a = (decOk G.flatten h.words a && (allN (cntW h a) (fun i => hfits G h S (valAt G.flatten h a i) (fldAt (idx G.flatten (idx h.words a / 16)) i)) && logA G.flatten h a)) := by
  have e : logA G.flatten h a = allN (cntW h a) fun i => !(decide (a < h.old)) || (!(selY G.flatten h a i) || decide (a + 1 + (i : Int) ∈ h.log)) := by
    unfold logA
    cases decide (a < h.old)
    · show true = _; exact (allN_true fun _ _ => rfl).symm
    · simp
  rw [e, allN_and]
  unfold hwords decOk
  show _ = (allN (cntW h a) _ && _)
  rw [allN_and]
  refine allN_congr fun i hi => ?_
  unfold hwordAt
  cases hw : (wordVal (fldAt (idx G.flatten (idx h.words a / 16)) i) (idx h.words (a + 1 + i))).2 with
  | false => simp [hw]
  | true =>
    have hv : (wordVal (fldAt (idx G.flatten (idx h.words a / 16)) i) (idx h.words (a + 1 + i))).1 = valAt G.flatten h a i := by rw [wordVal_fst hw]; rfl
    rw [hv]
    simp only [Bool.true_and]
    congr 1
    unfold selY
    by_cases hf : 0 ≤ find h.log (a + 1 + (i : Int))
    · have hm := find_mem.1 hf
      simp [hm, hf]
    · have hm : a + 1 + (i : Int) ∉ h.log := fun q => hf (find_mem.2 q)
      simp [hm]
      cases decide (a < h.old) <;> cases decide ((valAt G.flatten h a i).kind = 4) <;> simp <;> omega
theorem all_and {T : Type} {p q : T → Bool} {L : List T} : (L.all p && L.all q) = L.all (fun x => p x && q x) := by
  induction L with
  | nil => rfl
  | cons x L ih => simp only [List.all_cons, ← ih]; cases p x <;> cases q x <;> simp
theorem all_congr' {T : Type} {p q : T → Bool} {L : List T} (h : ∀ x ∈ L, p x = q x) : L.all p = L.all q := by
  induction L with
  | nil => rfl
  | cons x L ih => simp only [List.all_cons]; rw [h x (by simp), ih fun y hy => h y (by simp [hy])]
def parB (T : List Ty) (W : List Int) (a e : Int) : Bool := (hpart T W a e).2 && (hpart T W a e).1.all (decOk T W)
theorem heap_eq {G : Kin} (hk : kinOk G = true) (hK : KG G) {h : Hp} (hs : hsize h = true) :
    heapOk G h = (parB G.flatten h.words 0 h.oldAt && parB G.flatten h.words h.old (h.old + h.youngAt) && hzero h && (hthings G.flatten h).1.all (fitAt G h (hthings G.flatten h).1) && logOkI G.flatten h (hthings G.flatten h).1) := by
  have hat := hthings_at (T := G.flatten) hs
  have hu := hsize_use hs
  have e1 : (hthings G.flatten h).1.all (hwords G G.flatten h (hthings G.flatten h).1) = ((hthings G.flatten h).1.all (decOk G.flatten h.words) && ((hthings G.flatten h).1.all (fitAt G h (hthings G.flatten h).1) && (hthings G.flatten h).1.all (logA G.flatten h))) := by
    rw [all_and, all_and]
    refine all_congr' fun a ha => ?_
    rw [words_eq, fitAt_eq hK hat (by omega) (hat a ha)]
  have e2 : logOkI G.flatten h (hthings G.flatten h).1 = (hlog G.flatten h (hthings G.flatten h).1 && (hthings G.flatten h).1.all (logA G.flatten h)) := rfl
  have e3 : (hthings G.flatten h).1.all (decOk G.flatten h.words) = ((hpart G.flatten h.words 0 h.oldAt).1.all (decOk G.flatten h.words) && (hpart G.flatten h.words h.old (h.old + h.youngAt)).1.all (decOk G.flatten h.words)) := by
    show ((hpart G.flatten h.words 0 h.oldAt).1 ++ (hpart G.flatten h.words h.old (h.old + h.youngAt)).1).all _ = _
    rw [List.all_append]
  have e4 : (hthings G.flatten h).2 = ((hpart G.flatten h.words 0 h.oldAt).2 && (hpart G.flatten h.words h.old (h.old + h.youngAt)).2) := rfl
  unfold heapOk parB
  rw [hk, hs, e1, e2, e3, e4]
  ac_rfl
def zeroL (h : Hp) : List Int := [(h.words.take h.old.toNat).drop h.oldAt.toNat, (h.words.drop h.old.toNat).drop h.youngAt.toNat].flatten
theorem zero_iff {h : Hp} (hs : hsize h = true) : hzero h = true ↔ ∀ w ∈ zeroL h, w = 0 := by
  have hu := hsize_use hs
  have key : ∀ i : Nat, i < h.words.length → ((h.oldAt ≤ i ∧ (i : Int) < h.old) ∨ h.old + h.youngAt ≤ i ↔ ((h.oldAt.toNat ≤ i ∧ i < h.old.toNat) ∨ h.old.toNat + h.youngAt.toNat ≤ i)) := fun i _ => by omega
  constructor
  · intro hz w hw
    have hat : ∀ i : Nat, i < h.words.length → ((h.oldAt ≤ i ∧ (i : Int) < h.old) ∨ h.old + h.youngAt ≤ i) → idx h.words (i : Int) = 0 := fun i hi q => by
      have := allN_at hz hi
      simp at this
      rcases this with z | z
      · exact z
      · omega
    unfold zeroL at hw
    rw [List.mem_flatten] at hw
    obtain ⟨l, hl, hw⟩ := hw
    obtain ⟨j, hj⟩ := List.getElem?_of_mem hw
    rcases List.mem_cons.1 hl with e | hl
    · subst e
      rw [List.getElem?_drop, List.getElem?_take] at hj
      split at hj
      · have hlt := (List.getElem?_eq_some_iff.1 hj).1
        have := hat (h.oldAt.toNat + j) hlt (by omega)
        rw [idx_nat hlt] at this
        rw [List.getElem?_eq_getElem hlt] at hj; cases hj; exact this
      · cases hj
    · rcases List.mem_cons.1 hl with e | hl
      · subst e
        rw [List.getElem?_drop, List.getElem?_drop] at hj
        have hlt := (List.getElem?_eq_some_iff.1 hj).1
        have := hat (h.old.toNat + (h.youngAt.toNat + j)) hlt (by omega)
        rw [idx_nat hlt] at this
        rw [List.getElem?_eq_getElem hlt] at hj; cases hj; exact this
      · cases hl
  · intro hz
    refine allN_true fun i hi => ?_
    by_cases q : (h.oldAt ≤ i ∧ (i : Int) < h.old) ∨ h.old + h.youngAt ≤ i
    · have hm : h.words[i] ∈ zeroL h := by
        unfold zeroL
        rw [List.mem_flatten]
        rcases q with q | q
        · refine ⟨_, List.mem_cons_self .., ?_⟩
          refine List.mem_of_getElem? (i := i - h.oldAt.toNat) ?_
          rw [List.getElem?_drop, List.getElem?_take, if_pos (by omega), show h.oldAt.toNat + (i - h.oldAt.toNat) = i from by omega, List.getElem?_eq_getElem hi]
        · refine ⟨_, List.mem_cons_of_mem _ (List.mem_cons_self ..), ?_⟩
          refine List.mem_of_getElem? (i := i - (h.old.toNat + h.youngAt.toNat)) ?_
          rw [List.getElem?_drop, List.getElem?_drop, show h.old.toNat + (h.youngAt.toNat + (i - (h.old.toNat + h.youngAt.toNat))) = i from by omega, List.getElem?_eq_getElem hi]
      have := hz _ hm
      rw [idx_nat hi, this]; simp
    · simp; right; omega
noncomputable def hOpt (A0 : A) (ok : Bool) : A := if ok = true then A0 else A.any
theorem hOpt_eq {A0 : A} {ok : Bool} (h : ok = true) : hOpt A0 ok = A0 := if_pos h
theorem hOpt_any {A0 u : A} {ok : Bool} (h : ok = false) : Imp u (hOpt A0 ok) := by unfold hOpt; rw [if_neg (by rw [h]; simp)]; exact fun _ _ _ => trivial
theorem hOpt_of {A0 : A} {ok : Bool} : Imp A0 (hOpt A0 ok) := by unfold hOpt; split; exact Imp.refl; exact fun _ _ _ => trivial
theorem hOpt_imp {A0 : A} {ok : Bool} (h : ok = true) : Imp (hOpt A0 ok) A0 := by unfold hOpt; rw [if_pos h]; exact Imp.refl
end Go.L
namespace Go.L
theorem wval_inI {f : Fld} {w : Int} (h : inI w) : inI (wval f w).n := by
  unfold inI at *
  unfold wval
  split
  · exact h
  · split
    · simp
    · have h2 := Int.natAbs_tdiv w 2
      have h3 : (w.tdiv 2).natAbs = w.natAbs / 2 := h2
      split <;> simp only <;> omega
theorem vals_inI {T : List Ty} {W : List Int} (hW : WOk W) {a : Int} : ∀ v ∈ (thingAt T W a).vals, inI v.n := fun v hv => by
  obtain ⟨i, _, rfl⟩ := List.mem_map.1 hv
  exact wval_inI (hW.at _)
end Go.L
