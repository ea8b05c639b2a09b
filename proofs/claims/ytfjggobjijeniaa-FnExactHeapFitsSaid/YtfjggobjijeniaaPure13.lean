import Derived.Test.YtfjggobjijeniaaPure12
/-! The heap's log: the program's tables and what they say. -/
namespace Go.L
open Go
theorem over_set {S : Type} {X : List S} {o : Nat} {v : S} (h : o < X.length) : over X o [v] = X.set o v := by
  rw [List.set_eq_take_append_cons_drop, if_pos h]; unfold over; simp
theorem over_bool {X : List Bool} {o : Nat} {b : Bool} (h : o < X.length) : over (X.map A.bool) o [A.bool b] = (X.set o b).map A.bool := by
  rw [over_set (by rw [List.length_map]; exact h), List.map_set]
theorem bl_at {bs : List Bool} {p off : Nat} (hp : p < bs.length) (e : off = p) : (bs.map A.bool)[off]? = some (A.bool ((bs[p]?).getD false)) := by
  subst e; rw [List.getElem?_map, List.getElem?_eq_getElem hp]; rfl
theorem seen_len {L : List Int} : (seenL L).length = 120 := by unfold seenL; simp
structure LH (h : Hp) (S : List Int) : Prop where
  gap : S.Pairwise (fun a b => a + 1 + (cntW h a : Int) ≤ b)
  pos : ∀ a ∈ S, 0 ≤ a
  top : ∀ a ∈ S, a < h.old → a + 1 + (cntW h a : Int) ≤ 120
def tabI (sel : Int → Nat → Bool) (h : Hp) (S : List Int) : List Bool := updS sel h.old (cntW h) (List.replicate 120 false) S
theorem tabI_len {sel : Int → Nat → Bool} {h : Hp} {S : List Int} : (tabI sel h S).length = 120 := by unfold tabI; rw [updS_len]; simp
theorem tabI_get {sel : Int → Nat → Bool} {h : Hp} {S : List Int} (H : LH h S) {p : Nat} : ((tabI sel h S)[p]?).getD false = true ↔ ∃ a ∈ S, a < h.old ∧ ∃ i : Nat, i < cntW h a ∧ sel a i = true ∧ (p : Int) = a + 1 + i := by
  obtain ⟨k1, k2⟩ := updS_spec sel h.old (cntW h) S (List.replicate 120 false) H.gap H.pos (fun a ha q => by have := H.top a ha q; simpa using this)
  constructor
  · intro hp
    refine Classical.byContradiction fun hn => ?_
    by_cases hx : ∃ a ∈ S, a < h.old ∧ ∃ i : Nat, i < cntW h a ∧ (p : Int) = a + 1 + i
    · obtain ⟨a, ha, q, i, hi, e⟩ := hx
      have e2 := k1 a ha q i hi
      rw [show (a + 1 + (i : Int)).toNat = p from by omega] at e2
      unfold tabI at hp; rw [e2] at hp
      exact hn ⟨a, ha, q, i, hi, hp, e⟩
    · have e2 := k2 p (fun a ha q i hi e => hx ⟨a, ha, q, i, hi, e⟩)
      unfold tabI at hp; rw [e2, List.getElem?_replicate] at hp
      split at hp <;> cases hp
  · rintro ⟨a, ha, q, i, hi, hs, e⟩
    have e2 := k1 a ha q i hi
    rw [show (a + 1 + (i : Int)).toNat = p from by omega] at e2
    unfold tabI; rw [e2]; exact hs
theorem may_get {T : List Ty} {h : Hp} {S : List Int} (H : LH h S) {n : Int} (h0 : 0 ≤ n) : ((tabI (selR T h) h S)[n.toNat]?).getD false = true ↔ n ∈ hrefs T h S := by
  rw [tabI_get H, hrefs_mem, show ((n.toNat : Nat) : Int) = n from by omega]
theorem hrefs_rng {T : List Ty} {h : Hp} {S : List Int} (H : LH h S) {n : Int} (hn : n ∈ hrefs T h S) : 0 ≤ n ∧ n < 120 := by
  obtain ⟨a, ha, q, i, hi, _, e⟩ := hrefs_mem.1 hn
  have := H.pos a ha; have := H.top a ha q; omega
def logAt (T : List Ty) (h : Hp) (S : List Int) (i : Nat) : Bool := decide (0 ≤ find (hrefs T h S) (idx h.log (i : Int))) && decide (find (h.log.take i) (idx h.log (i : Int)) < 0)
theorem hlog_eq {T : List Ty} {h : Hp} {S : List Int} : hlog T h S = allN h.log.length (logAt T h S) := rfl
theorem seen_get {L : List Int} {n : Int} (h0 : 0 ≤ n) (h : n < 120) : ((seenL L)[n.toNat]?).getD false = true ↔ n ∈ L := by
  rw [seen_at h0 h]; simp
theorem log_bad {T : List Ty} {h : Hp} {S : List Int} (H : LH h S) {i : Nat} {n : Int} (e : n = idx h.log (i : Int))
    (q : ((n < 0 ∨ 120 ≤ n) ∨ ((tabI (selR T h) h S)[n.toNat]?).getD false = false) ∨ ((seenL (h.log.take i))[n.toNat]?).getD false = true) : logAt T h S i = false := by
  subst e
  unfold logAt
  by_cases hm : idx h.log (i : Int) ∈ hrefs T h S
  · have hr := hrefs_rng H hm
    rcases q with (q | q) | q
    · omega
    · have := (may_get H hr.1).2 hm; rw [q] at this; cases this
    · have := find_mem.2 ((seen_get hr.1 hr.2).1 q)
      simp; intro _; exact this
  · have : ¬ 0 ≤ find (hrefs T h S) (idx h.log (i : Int)) := fun z => hm (find_mem.1 z)
    simp [this]
theorem log_good {T : List Ty} {h : Hp} {S : List Int} (H : LH h S) {i : Nat} {n : Int} (e : n = idx h.log (i : Int))
    (q : ¬ (((n < 0 ∨ 120 ≤ n) ∨ ((tabI (selR T h) h S)[n.toNat]?).getD false = false) ∨ ((seenL (h.log.take i))[n.toNat]?).getD false = true)) : logAt T h S i = true := by
  subst e
  unfold logAt
  have h0 : 0 ≤ idx h.log (i : Int) := by omega
  have h1 : idx h.log (i : Int) < 120 := by omega
  have hm := (may_get (T := T) H h0).1 (by cases z : ((tabI (selR T h) h S)[(idx h.log (i : Int)).toNat]?).getD false with
    | true => rfl
    | false => exact absurd (.inl (.inr z)) q)
  have hn : idx h.log (i : Int) ∉ h.log.take i := fun z => q (.inr ((seen_get h0 h1).2 z))
  have := find_mem.2 hm
  have h2 : ¬ 0 ≤ find (h.log.take i) (idx h.log (i : Int)) := fun z => hn (find_mem.1 z)
  simp [this]; omega
theorem logI_false {T : List Ty} {h : Hp} {S : List Int} {i : Nat} (hi : i < h.log.length) (q : logAt T h S i = false) : logOkI T h S = false := by
  unfold logOkI; rw [hlog_eq, allN_false i hi q]; rfl
theorem must_bad {T : List Ty} {h : Hp} {S : List Int} (H : LH h S) {p : Nat} (hp : p < 120) (q1 : ((tabI (selY T h) h S)[p]?).getD false = true) (q2 : ((seenL h.log)[p]?).getD false = false) : logOkI T h S = false := by
  obtain ⟨a, ha, q, i, hi, hs, e⟩ := (tabI_get H).1 q1
  have hn : a + 1 + (i : Int) ∉ h.log := fun z => by
    have := (seen_get (L := h.log) (n := (p : Int)) (by omega) (by omega)).2 (e ▸ z)
    rw [Int.toNat_natCast, q2] at this; cases this
  unfold logOkI
  have : (S.all fun a => !(decide (a < h.old)) || allN (cntW h a) fun i => !(selY T h a i) || decide (a + 1 + (i : Int) ∈ h.log)) = false := by
    rw [List.all_eq_false]
    refine ⟨a, ha, ?_⟩
    rw [allN_false i hi (by rw [hs]; simp [hn])]
    simp [q]
  rw [this, Bool.and_false]
theorem must_good {T : List Ty} {h : Hp} {S : List Int} (H : LH h S) (hl : hlog T h S = true) (q : ∀ p : Nat, p < 120 → ¬ (((tabI (selY T h) h S)[p]?).getD false = true ∧ ((seenL h.log)[p]?).getD false = false)) : logOkI T h S = true := by
  unfold logOkI
  rw [hl, Bool.true_and, List.all_eq_true]
  intro a ha
  by_cases ho : a < h.old
  · have h0 := H.pos a ha; have h1 := H.top a ha ho
    rw [allN_true (fun i hi => ?_)]; simp
    cases hs : selY T h a i with
    | false => rfl
    | true =>
      have h2 := q (a + 1 + (i : Int)).toNat (by omega)
      have h3 := (tabI_get (sel := selY T h) H (p := (a + 1 + (i : Int)).toNat)).2 ⟨a, ha, ho, i, hi, hs, by omega⟩
      have h4 : ((seenL h.log)[(a + 1 + (i : Int)).toNat]?).getD false = true := by
        cases z : ((seenL h.log)[(a + 1 + (i : Int)).toNat]?).getD false with
        | true => rfl
        | false => exact absurd ⟨h3, z⟩ h2
      have h5 := (seen_get (by omega) (by omega)).1 h4
      simp [h5]
  · simp [ho]
theorem tab_step {sel : Int → Nat → Bool} {h : Hp} {S : List Int} {k : Nat} (hk : k < S.length) :
    tabI sel h (S.take (k + 1)) = if idx S (k : Int) < h.old then updAt sel (tabI sel h (S.take k)) (idx S (k : Int)) (cntW h (idx S (k : Int))) else tabI sel h (S.take k) := updS_snoc _ _ _ _ _ _ hk
theorem tab_nil {sel : Int → Nat → Bool} {h : Hp} {S : List Int} : tabI sel h (S.take 0) = List.replicate 120 false := rfl
theorem thing_val {T : List Ty} {h : Hp} {a : Int} {i : Nat} (hi : i < cntW h a) : idx (thingAt T h.words a).vals (i : Int) = valAt T h a i := by
  unfold thingAt valAt
  have hi : i < (idx h.words a % 16).toNat := hi
  rw [idx_nat (by simpa using hi)]; simp
theorem thing_len {T : List Ty} {W : List Int} {a : Int} : (thingAt T W a).vals.length = (idx W a % 16).toNat := by unfold thingAt; simp
end Go.L
namespace Go.L
theorem thing_fields {G : Kin} (hK : KG G) {h : Hp} {a : Int} (ha : AtOk G.flatten h.words a) :
    ((hfields G (thingAt G.flatten h.words a).ty (thingAt G.flatten h.words a).vals.length).1.length : Int) = cntW h a ∧
    ∀ i : Nat, i < cntW h a → idx (hfields G (thingAt G.flatten h.words a).ty (thingAt G.flatten h.words a).vals.length).1 (i : Int) = fldAt (idx G.flatten (idx h.words a / 16)) i := by
  obtain ⟨u1, u2, u3, u4, u5, u6, u7, u8⟩ := ha.use
  have hh := hfields_hlen hK (w := idx h.words a) u3
  have ht : (hfields G (idx h.words a / 16) (idx h.words a % 16)).2 = true := by rw [hh.1]; exact decide_eq_true ha.2.2
  have e : ((thingAt G.flatten h.words a).vals.length : Int) = idx h.words a % 16 := by rw [thing_len]; omega
  have et : (thingAt G.flatten h.words a).ty = idx h.words a / 16 := rfl
  rw [e, et]
  refine ⟨by rw [hfields_len ht u5]; unfold cntW; omega, fun i hi => hfields_at ht (by unfold cntW at hi; omega)⟩
end Go.L
namespace Go.L
theorem upd_over {sel : Int → Nat → Bool} {bs : List Bool} {a : Int} {y o : Nat} {b : Bool} (ho : o = (a + 1 + (y : Int)).toNat) (hl : o < bs.length) (hb : b = sel a y) : over ((updAt sel bs a y).map A.bool) o [A.bool b] = (updAt sel bs a (y + 1)).map A.bool := by
  subst hb; subst ho; rw [over_bool (by rw [updAt_len]; exact hl)]; rfl
end Go.L
