import Derived.Test.YtfjggobjijeniaaPure11
/-! The heap's log, as the program checks it. -/
namespace Go.L
open Go
def updAt (sel : Int → Nat → Bool) (bs : List Bool) (a : Int) : Nat → List Bool
  | 0 => bs
  | n + 1 => (updAt sel bs a n).set (a + 1 + (n : Int)).toNat (sel a n)
def updS (sel : Int → Nat → Bool) (old : Int) (cnt : Int → Nat) (bs : List Bool) (S : List Int) : List Bool := S.foldl (fun bs a => if a < old then updAt sel bs a (cnt a) else bs) bs
theorem updAt_len (sel : Int → Nat → Bool) (bs : List Bool) (a : Int) : ∀ n, (updAt sel bs a n).length = bs.length
  | 0 => rfl
  | n + 1 => by unfold updAt; rw [List.length_set, updAt_len sel bs a n]
theorem updS_len (sel : Int → Nat → Bool) (old : Int) (cnt : Int → Nat) : ∀ (S : List Int) (bs : List Bool), (updS sel old cnt bs S).length = bs.length
  | [], _ => rfl
  | a :: S, bs => by
    show (updS sel old cnt (if a < old then updAt sel bs a (cnt a) else bs) S).length = _
    rw [updS_len sel old cnt S]; split
    · exact updAt_len _ _ _ _
    · rfl
theorem updS_snoc (sel : Int → Nat → Bool) (old : Int) (cnt : Int → Nat) (bs : List Bool) (S : List Int) (k : Nat) (hk : k < S.length) :
    updS sel old cnt bs (S.take (k + 1)) = if idx S (k : Int) < old then updAt sel (updS sel old cnt bs (S.take k)) (idx S (k : Int)) (cnt (idx S (k : Int))) else updS sel old cnt bs (S.take k) := by
  unfold updS; rw [take_snoc hk, List.foldl_append]; rfl
theorem updAt_other (sel : Int → Nat → Bool) (bs : List Bool) (a : Int) (p : Nat) : ∀ n, (∀ i : Nat, i < n → (p : Int) ≠ a + 1 + i) → 0 ≤ a → (updAt sel bs a n)[p]? = bs[p]?
  | 0, _, _ => rfl
  | n + 1, h, h0 => by
    unfold updAt
    rw [List.getElem?_set_ne (by have := h n (by omega); omega), updAt_other sel bs a p n (fun i hi => h i (by omega)) h0]
theorem updAt_at (sel : Int → Nat → Bool) (bs : List Bool) (a : Int) (i : Nat) (h0 : 0 ≤ a) (hb : (a + 1 + (i : Int)).toNat < bs.length) : ∀ n, i < n → (updAt sel bs a n)[(a + 1 + (i : Int)).toNat]? = some (sel a i)
  | 0, h => by omega
  | n + 1, h => by
    unfold updAt
    by_cases q : i = n
    · subst q; rw [List.getElem?_set_self (by rw [updAt_len]; exact hb)]
    · rw [List.getElem?_set_ne (by omega), updAt_at sel bs a i h0 hb n (by omega)]
theorem updS_spec (sel : Int → Nat → Bool) (old : Int) (cnt : Int → Nat) : ∀ (S : List Int) (bs : List Bool), S.Pairwise (fun a b => a + 1 + (cnt a : Int) ≤ b) → (∀ a ∈ S, 0 ≤ a) → (∀ a ∈ S, a < old → a + 1 + (cnt a : Int) ≤ bs.length) →
    (∀ a ∈ S, a < old → ∀ i : Nat, i < cnt a → (updS sel old cnt bs S)[(a + 1 + (i : Int)).toNat]? = some (sel a i)) ∧
    (∀ p : Nat, (∀ a ∈ S, a < old → ∀ i : Nat, i < cnt a → (p : Int) ≠ a + 1 + i) → (updS sel old cnt bs S)[p]? = bs[p]?)
  | [], _, _, _, _ => ⟨fun _ h => (nomatch h), fun _ _ => rfl⟩
  | a :: S, bs, hp, h0, hb => by
    rw [List.pairwise_cons] at hp
    have e : updS sel old cnt bs (a :: S) = updS sel old cnt (if a < old then updAt sel bs a (cnt a) else bs) S := rfl
    have hl : (if a < old then updAt sel bs a (cnt a) else bs).length = bs.length := by
      split
      · exact updAt_len _ _ _ _
      · rfl
    obtain ⟨k1, k2⟩ := updS_spec sel old cnt S (if a < old then updAt sel bs a (cnt a) else bs) hp.2 (fun x hx => h0 x (by simp [hx])) (fun x hx q => by rw [hl]; exact hb x (by simp [hx]) q)
    rw [e]
    have ha0 := h0 a (by simp)
    refine ⟨fun x hx q i hi => ?_, fun p hp' => ?_⟩
    · rcases List.mem_cons.1 hx with rfl | hx
      · have hbx := hb x (by simp) q
        rw [k2 _ (fun y hy qy j hj => by have := hp.1 y hy; omega), if_pos q]
        exact updAt_at sel bs x i ha0 (by omega) _ hi
      · exact k1 x hx q i hi
    · rw [k2 p (fun y hy qy j hj => hp' y (by simp [hy]) qy j hj)]
      split
      · rename_i q
        exact updAt_other sel bs a p _ (fun i hi => hp' a (by simp) q i hi) ha0
      · rfl
def selR (T : List Ty) (h : Hp) (a : Int) (i : Nat) : Bool := decide ((fldAt (idx T (idx h.words a / 16)) i).kind ≠ 1)
def valAt (T : List Ty) (h : Hp) (a : Int) (i : Nat) : Vl := wval (fldAt (idx T (idx h.words a / 16)) i) (idx h.words (a + 1 + i))
def selY (T : List Ty) (h : Hp) (a : Int) (i : Nat) : Bool := decide ((valAt T h a i).kind = 4) && decide (h.old ≤ (valAt T h a i).n)
def cntW (h : Hp) (a : Int) : Nat := (idx h.words a % 16).toNat
theorem hrefs_mem {T : List Ty} {h : Hp} {S : List Int} {p : Int} : p ∈ hrefs T h S ↔ ∃ a ∈ S, a < h.old ∧ ∃ i : Nat, i < cntW h a ∧ selR T h a i = true ∧ p = a + 1 + i := by
  unfold hrefs hrefsAt selR cntW
  rw [List.mem_flatMap]
  constructor
  · rintro ⟨a, ha, hp⟩
    split at hp
    · rename_i q
      obtain ⟨i, hi, e⟩ := List.mem_map.1 hp
      obtain ⟨h1, h2⟩ := List.mem_filter.1 hi
      exact ⟨a, ha, q, i, List.mem_range.1 h1, h2, e.symm⟩
    · cases hp
  · rintro ⟨a, ha, q, i, hi, hs, e⟩
    refine ⟨a, ha, ?_⟩
    rw [if_pos q]
    exact List.mem_map.2 ⟨i, List.mem_filter.2 ⟨List.mem_range.2 hi, hs⟩, e.symm⟩
/-- The positions that have been seen. -/
def seenL (L : List Int) : List Bool := (List.range 120).map fun p : Nat => decide ((p : Int) ∈ L)
theorem seen_at {L : List Int} {n : Int} (h0 : 0 ≤ n) (h : n < 120) : (seenL L)[n.toNat]? = some (decide (n ∈ L)) := by
  unfold seenL
  rw [List.getElem?_map, List.getElem?_range (by omega)]
  simp [show ((n.toNat : Nat) : Int) = n from by omega, h0]
theorem seen_snoc {L : List Int} {n : Int} (h0 : 0 ≤ n) (h : n < 120) : (seenL L).set n.toNat true = seenL (L ++ [n]) := by
  apply List.ext_getElem?
  intro p
  rw [List.getElem?_set]
  split
  · rename_i e; subst e
    have hl : n.toNat < (seenL L).length := by unfold seenL; simp; omega
    rw [if_pos hl, seen_at h0 h]; simp
  · rename_i hne
    unfold seenL
    rw [List.getElem?_map, List.getElem?_map]
    by_cases hp : p < 120
    · rw [List.getElem?_range hp]; simp; omega
    · rw [List.getElem?_eq_none (show (List.range 120).length ≤ p by simp; omega)]; rfl
theorem seen_nil : seenL [] = List.replicate 120 false := by decide
def logOkI (T : List Ty) (h : Hp) (S : List Int) : Bool := hlog T h S && S.all fun a => !(decide (a < h.old)) || allN (cntW h a) fun i => !(selY T h a i) || decide (a + 1 + (i : Int) ∈ h.log)
end Go.L
