import Derived.Test.YtfjggobjijeniaaPure8
/-! The heap, in plain terms. -/
namespace Go.L
open Go
structure Hp where
  words : List Int
  old : Int
  oldAt : Int
  youngAt : Int
  log : List Int
deriving Inhabited, DecidableEq
theorem Hp.eqs {f g : Hp} : f = g ↔ f.words = g.words ∧ f.old = g.old ∧ f.oldAt = g.oldAt ∧ f.youngAt = g.youngAt ∧ f.log = g.log := by cases f; cases g; simp
def cHeap (h : Hp) : List A := [A.sl 1 cInt h.words, A.int h.old, A.int h.oldAt, A.int h.youngAt, A.sl 1 cInt h.log]
def bHeap (h : Hp) : Nat := h.words.length + h.log.length
/-- How many values the object has whose head it is, or -1. -/
def hlen (T : List Ty) (head : Int) : Int :=
  if head < 0 ∨ T.length ≤ head / 16 then -1
  else if ((idx T (head / 16)).kind = 1 ∧ head % 16 ≠ (idx T (head / 16)).fields.length) ∨ 6 < head % 16 then -1 else head % 16
def hpartF (T : List Ty) (W : List Int) : Nat → Int → Int → List Int × Bool
  | 0, _, _ => ([], true)
  | n + 1, a, b => if a < b then (if hlen T (idx W a) < 0 ∨ b < a + 1 + hlen T (idx W a) then ([], false) else (a :: (hpartF T W n (a + 1 + hlen T (idx W a)) b).1, (hpartF T W n (a + 1 + hlen T (idx W a)) b).2)) else ([], true)
def hpart (T : List Ty) (W : List Int) (a b : Int) : List Int × Bool := hpartF T W (b - a).toNat a b
theorem hpartF_fuel (T : List Ty) (W : List Int) : ∀ (n m : Nat) (a b : Int), b - a ≤ n → b - a ≤ m → hpartF T W n a b = hpartF T W m a b
  | 0, 0, _, _, _, _ => rfl
  | 0, m + 1, a, b, h, _ => by unfold hpartF; rw [if_neg (by omega)]
  | n + 1, 0, a, b, _, h => by unfold hpartF; rw [if_neg (by omega)]
  | n + 1, m + 1, a, b, hn, hm => by
    unfold hpartF
    split
    · split
      · rfl
      · rw [hpartF_fuel T W n m _ b (by omega) (by omega)]
    · rfl
theorem hpart_end {T : List Ty} {W : List Int} {a b : Int} (h : ¬ a < b) : hpart T W a b = ([], true) := by
  unfold hpart
  rw [show (b - a).toNat = 0 from by omega]; rfl
theorem hpart_bad {T : List Ty} {W : List Int} {a b : Int} (h : a < b) (h2 : hlen T (idx W a) < 0 ∨ b < a + 1 + hlen T (idx W a)) : hpart T W a b = ([], false) := by
  unfold hpart
  obtain ⟨n, hn⟩ : ∃ n, (b - a).toNat = n + 1 := ⟨(b - a).toNat - 1, by omega⟩
  rw [hn]; unfold hpartF; rw [if_pos h, if_pos h2]
theorem hpart_step {T : List Ty} {W : List Int} {a b : Int} (h : a < b) (h2 : ¬ (hlen T (idx W a) < 0 ∨ b < a + 1 + hlen T (idx W a))) :
    hpart T W a b = (a :: (hpart T W (a + 1 + hlen T (idx W a)) b).1, (hpart T W (a + 1 + hlen T (idx W a)) b).2) := by
  unfold hpart
  obtain ⟨n, hn⟩ : ∃ n, (b - a).toNat = n + 1 := ⟨(b - a).toNat - 1, by omega⟩
  rw [hn]; conv => lhs; unfold hpartF
  rw [if_pos h, if_neg h2, hpartF_fuel T W n _ _ b (by omega) (Int.self_le_toNat _)]
/-- Where objects begin. -/
theorem hpart_mem {T : List Ty} {W : List Int} {b : Int} : ∀ (n : Nat) (a : Int), (b - a).toNat ≤ n → ∀ x ∈ (hpart T W a b).1, a ≤ x ∧ x + 1 + hlen T (idx W x) ≤ b ∧ 0 ≤ hlen T (idx W x)
  | 0, a, h, x, hx => by rw [hpart_end (by omega)] at hx; cases hx
  | n + 1, a, h, x, hx => by
    by_cases h1 : a < b
    · by_cases h2 : hlen T (idx W a) < 0 ∨ b < a + 1 + hlen T (idx W a)
      · rw [hpart_bad h1 h2] at hx; cases hx
      · rw [hpart_step h1 h2] at hx
        rcases List.mem_cons.1 hx with rfl | hx
        · omega
        · have := hpart_mem n (a + 1 + hlen T (idx W a)) (by omega) x hx
          omega
    · rw [hpart_end h1] at hx; cases hx
theorem hpart_len {T : List Ty} {W : List Int} {b : Int} : ∀ (n : Nat) (a : Int), (b - a).toNat ≤ n → (hpart T W a b).1.length ≤ (b - a).toNat
  | 0, a, h => by rw [hpart_end (by omega)]; simp
  | n + 1, a, h => by
    by_cases h1 : a < b
    · by_cases h2 : hlen T (idx W a) < 0 ∨ b < a + 1 + hlen T (idx W a)
      · rw [hpart_bad h1 h2]; simp
      · rw [hpart_step h1 h2]
        have := hpart_len (T := T) (W := W) (b := b) n (a + 1 + hlen T (idx W a)) (by omega)
        simp only [List.length_cons]; omega
    · rw [hpart_end h1]; simp
theorem hpart_sorted {T : List Ty} {W : List Int} {b : Int} : ∀ (n : Nat) (a : Int), (b - a).toNat ≤ n → (hpart T W a b).1.Pairwise (· < ·)
  | 0, a, h => by rw [hpart_end (by omega)]; exact List.Pairwise.nil
  | n + 1, a, h => by
    by_cases h1 : a < b
    · by_cases h2 : hlen T (idx W a) < 0 ∨ b < a + 1 + hlen T (idx W a)
      · rw [hpart_bad h1 h2]; exact List.Pairwise.nil
      · rw [hpart_step h1 h2]
        refine List.pairwise_cons.2 ⟨fun x hx => ?_, hpart_sorted (b := b) n (a + 1 + hlen T (idx W a)) (by omega)⟩
        have := hpart_mem (b := b) n (a + 1 + hlen T (idx W a)) (by omega) x hx
        omega
    · rw [hpart_end h1]; exact List.Pairwise.nil
def hsize (h : Hp) : Bool :=
  decide (1 ≤ h.old) && decide (h.old ≤ 120) && decide (0 ≤ (h.words.length : Int) - h.old) && decide ((h.words.length : Int) - h.old ≤ 40) && decide (0 ≤ h.oldAt) && decide (h.oldAt ≤ h.old) && decide (0 ≤ h.youngAt) && decide (h.youngAt ≤ (h.words.length : Int) - h.old)
def hthings (T : List Ty) (h : Hp) : List Int × Bool := ((hpart T h.words 0 h.oldAt).1 ++ (hpart T h.words h.old (h.old + h.youngAt)).1, (hpart T h.words 0 h.oldAt).2 && (hpart T h.words h.old (h.old + h.youngAt)).2)
def hzero (h : Hp) : Bool := allN h.words.length fun i => decide (idx h.words (i : Int) = 0) || !((decide (h.oldAt ≤ i) && decide ((i : Int) < h.old)) || decide (h.old + h.youngAt ≤ i))
def fldAt (t : Ty) (i : Int) : Fld := if t.kind = 2 then idx t.fields 0 else idx t.fields i
def wval (f : Fld) (w : Int) : Vl := if f.kind = 1 then ⟨1, w⟩ else if w = 0 then ⟨2, 0⟩ else if w.tmod 2 = 1 then ⟨3, w.tdiv 2⟩ else ⟨4, w.tdiv 2 - 1⟩
def wordVal (f : Fld) (w : Int) : Vl × Bool :=
  if f.kind < 1 ∨ 3 < f.kind ∨ w < 0 ∨ vform (wval f w) 160 = false ∨ (f.kind = 3 ∧ (wval f w).kind = 2) then (⟨0, 0⟩, false) else (wval f w, true)
def find (L : List Int) (n : Int) : Int := findI (fun x => decide (x = n)) L
def hfits (G : Kin) (h : Hp) (S : List Int) (v : Vl) (f : Fld) : Bool :=
  if vform v 160 = false then false
  else if f.kind = 1 ∨ v.kind = 1 then decide (f.kind = 1) && decide (v.kind = 1)
  else if v.kind = 2 then decide (f.kind = 2)
  else if v.kind = 3 then kunder G (-2) f.of
  else decide (0 ≤ find S v.n) && kunder G (idx h.words v.n / 16) f.of
def hwordAt (G : Kin) (T : List Ty) (h : Hp) (S : List Int) (a : Int) (i : Nat) : Bool :=
  (wordVal (fldAt (idx T (idx h.words a / 16)) i) (idx h.words (a + 1 + i))).2 &&
    (hfits G h S (wordVal (fldAt (idx T (idx h.words a / 16)) i) (idx h.words (a + 1 + i))).1 (fldAt (idx T (idx h.words a / 16)) i) &&
      !(decide (a < h.old) && decide ((wordVal (fldAt (idx T (idx h.words a / 16)) i) (idx h.words (a + 1 + i))).1.kind = 4) && decide (h.old ≤ (wordVal (fldAt (idx T (idx h.words a / 16)) i) (idx h.words (a + 1 + i))).1.n) && decide (find h.log (a + 1 + i) < 0)))
def hwords (G : Kin) (T : List Ty) (h : Hp) (S : List Int) (a : Int) : Bool := allN (idx h.words a % 16).toNat (hwordAt G T h S a)
def hrefsAt (T : List Ty) (h : Hp) (a : Int) (n : Nat) : List Int := if a < h.old then ((List.range n).filter fun i : Nat => decide ((fldAt (idx T (idx h.words a / 16)) i).kind ≠ 1)).map fun i : Nat => a + 1 + (i : Int) else []
def hrefs (T : List Ty) (h : Hp) (S : List Int) : List Int := S.flatMap fun a => hrefsAt T h a (idx h.words a % 16).toNat
def hlog (T : List Ty) (h : Hp) (S : List Int) : Bool := allN h.log.length fun i => decide (0 ≤ find (hrefs T h S) (idx h.log (i : Int))) && decide (find (h.log.take i) (idx h.log (i : Int)) < 0)
def heapOk (G : Kin) (h : Hp) : Bool :=
  kinOk G && hsize h && hzero h && (hthings G.flatten h).2 && hlog G.flatten h (hthings G.flatten h).1 && (hthings G.flatten h).1.all (hwords G G.flatten h (hthings G.flatten h).1)
theorem find_mem {L : List Int} {n : Int} : 0 ≤ find L n ↔ n ∈ L := by
  have := findI_any (p := fun x => decide (x = n)) (L := L)
  unfold find
  constructor
  · intro h
    have h2 : L.any (fun x => decide (x = n)) = true := by rw [← this]; simpa using h
    obtain ⟨x, hx, e⟩ := List.any_eq_true.1 h2
    have : x = n := by simpa using e
    rw [← this]; exact hx
  · intro h
    have h2 : L.any (fun x => decide (x = n)) = true := List.any_eq_true.2 ⟨n, h, by simp⟩
    rw [← this] at h2; simpa using h2
end Go.L
namespace Go.L
open Go
theorem tde {w : Int} (h : 0 ≤ w) : w.tdiv 16 = w / 16 ∧ w.tmod 16 = w % 16 ∧ w.tdiv 2 = w / 2 ∧ w.tmod 2 = w % 2 := ⟨Int.tdiv_eq_ediv_of_nonneg h, Int.tmod_eq_emod_of_nonneg h, Int.tdiv_eq_ediv_of_nonneg h, Int.tmod_eq_emod_of_nonneg h⟩
theorem hlen_rng (T : List Ty) (w : Int) : -1 ≤ hlen T w ∧ hlen T w ≤ 6 := by
  unfold hlen
  split
  · omega
  · split
    · omega
    · rename_i h1 h2; simp only [not_or, not_and] at h1 h2; omega
theorem hlen_spec {T : List Ty} {w : Int} (h : 0 ≤ hlen T w) : 0 ≤ w ∧ w / 16 < T.length ∧ hlen T w = w % 16 ∧ ((idx T (w / 16)).kind = 1 → w % 16 = (idx T (w / 16)).fields.length) ∧ w % 16 ≤ 6 := by
  unfold hlen at *
  split at h
  · omega
  · rename_i h1
    split at h
    · omega
    · rename_i h2
      rw [if_neg h1, if_neg h2]
      simp only [not_or, not_and] at h1 h2
      refine ⟨by omega, by omega, rfl, fun k => ?_, by omega⟩
      have := h2.1 k; omega
/-- Words that are numbers of Go. -/
def WOk (W : List Int) : Prop := ∀ w ∈ W, -9223372036854775808 ≤ w ∧ w ≤ 9223372036854775807
theorem WOk.at {W : List Int} (h : WOk W) (i : Int) : -9223372036854775808 ≤ idx W i ∧ idx W i ≤ 9223372036854775807 := idx_all h (by decide) i
/-- An object begins there. -/
def AtOk (T : List Ty) (W : List Int) (a : Int) : Prop := 0 ≤ a ∧ a + 1 + hlen T (idx W a) ≤ W.length ∧ 0 ≤ hlen T (idx W a)
theorem AtOk.use {T : List Ty} {W : List Int} {a : Int} (h : AtOk T W a) : 0 ≤ a ∧ a < W.length ∧ 0 ≤ idx W a ∧ idx W a / 16 < T.length ∧ 0 ≤ idx W a % 16 ∧ idx W a % 16 ≤ 6 ∧ a + 1 + idx W a % 16 ≤ W.length ∧ ((idx T (idx W a / 16)).kind = 1 → idx W a % 16 = (idx T (idx W a / 16)).fields.length) := by
  obtain ⟨h1, h2, h3⟩ := h
  have := hlen_spec h3
  omega
theorem hpart_at {T : List Ty} {W : List Int} {a b : Int} (h0 : 0 ≤ a) (hb : b ≤ W.length) : ∀ x ∈ (hpart T W a b).1, AtOk T W x := fun x hx => by
  have := hpart_mem (T := T) (W := W) (b := b) _ a (Nat.le_refl _) x hx
  exact ⟨by omega, by omega, by omega⟩
theorem hsize_use {h : Hp} (hs : hsize h = true) : 1 ≤ h.old ∧ h.old ≤ 120 ∧ h.old ≤ h.words.length ∧ (h.words.length : Int) - h.old ≤ 40 ∧ 0 ≤ h.oldAt ∧ h.oldAt ≤ h.old ∧ 0 ≤ h.youngAt ∧ h.youngAt ≤ (h.words.length : Int) - h.old := by
  unfold hsize at hs; simp only [Bool.and_eq_true, decide_eq_true_eq] at hs; omega
theorem hthings_at {T : List Ty} {h : Hp} (hs : hsize h = true) : ∀ x ∈ (hthings T h).1, AtOk T h.words x := fun x hx => by
  have := hsize_use hs
  unfold hthings at hx
  rcases List.mem_append.1 hx with q | q
  · exact hpart_at (by omega) (by omega) x q
  · exact hpart_at (by omega) (by omega) x q
theorem hthings_len {T : List Ty} {h : Hp} (hs : hsize h = true) : (hthings T h).1.length ≤ 160 := by
  have := hsize_use hs
  have h1 := hpart_len (T := T) (W := h.words) (b := h.oldAt) _ 0 (Nat.le_refl _)
  have h2 := hpart_len (T := T) (W := h.words) (b := h.old + h.youngAt) _ h.old (Nat.le_refl _)
  unfold hthings; simp only [List.length_append]; omega
/-- What is known of the types of right groups. -/
theorem KG.tyAt {G : Kin} (h : KG G) {t : Int} (h0 : 0 ≤ t) (ht : t < G.flatten.length) : ((idx G.flatten t).kind = 1 ∨ (idx G.flatten t).kind = 2) ∧ ((idx G.flatten t).kind = 2 → (idx G.flatten t).fields.length = 1) ∧ (idx G.flatten t).fields.length ≤ 4 ∧ ∀ f ∈ (idx G.flatten t).fields, fieldOk f (kcnt G) = true := by
  have htk : t < kcnt G := ht
  have hf := h.flds h0 htk
  rw [krows_t h0 htk] at hf
  obtain ⟨i, k, hi, hk, ea, _, et⟩ := flat_of h0 htk
  have := h.ok.form i k hi hk
  rw [← et] at this
  unfold kform at this
  simp only [Bool.and_eq_true, Bool.or_eq_true, decide_eq_true_eq] at this
  refine ⟨?_, ?_, by omega, hf⟩
  · omega
  · intro k2; omega
theorem fld_okAt {G : Kin} (h : KG G) {t i : Int} (h0 : 0 ≤ t) (ht : t < G.flatten.length) (hi : 0 ≤ i) (hk : (idx G.flatten t).kind = 1 → i < (idx G.flatten t).fields.length) : fieldOk (fldAt (idx G.flatten t) i) (kcnt G) = true := by
  obtain ⟨h1, h2, _, h3⟩ := h.tyAt h0 ht
  unfold fldAt
  split
  · rename_i k2; exact h3 _ (idx_mem (by omega) (by have := h2 k2; omega))
  · exact h3 _ (idx_mem hi (hk (by omega)))
end Go.L
namespace Go.L
open Go
def HpOk (h : Hp) : Prop := (-9223372036854775808 ≤ h.old ∧ h.old ≤ 9223372036854775807) ∧ WOk h.words
theorem hrefsAt_step (T : List Ty) (h : Hp) (a : Int) (k : Nat) (ha : a < h.old) : hrefsAt T h a (k + 1) = hrefsAt T h a k ++ (if (fldAt (idx T (idx h.words a / 16)) k).kind ≠ 1 then [a + 1 + (k : Int)] else []) := by
  unfold hrefsAt
  rw [if_pos ha, if_pos ha, List.range_succ, List.filter_append, List.map_append]
  congr 1
  by_cases q : (fldAt (idx T (idx h.words a / 16)) k).kind = 1 <;> simp [q]
theorem hrefsAt_zero (T : List Ty) (h : Hp) (a : Int) : hrefsAt T h a 0 = [] := by unfold hrefsAt; split <;> rfl
theorem hrefsAt_young (T : List Ty) (h : Hp) (a : Int) (k : Nat) (ha : ¬ a < h.old) : hrefsAt T h a k = [] := by unfold hrefsAt; rw [if_neg ha]
theorem hrefsAt_len (T : List Ty) (h : Hp) (a : Int) (k : Nat) : (hrefsAt T h a k).length ≤ k := by
  unfold hrefsAt; split
  · rw [List.length_map]; exact Nat.le_trans (List.length_filter_le _ _) (by simp)
  · simp
theorem hrefs_snoc (T : List Ty) (h : Hp) (S : List Int) (k : Nat) (hk : k < S.length) : hrefs T h (S.take (k + 1)) = hrefs T h (S.take k) ++ hrefsAt T h (idx S (k : Int)) (idx h.words (idx S (k : Int)) % 16).toNat := by
  unfold hrefs; rw [take_snoc hk, List.flatMap_append]; simp
theorem hrefs_len {T : List Ty} {h : Hp} : ∀ {S : List Int}, (∀ s ∈ S, AtOk T h.words s) → (hrefs T h S).length ≤ 6 * S.length
  | [], _ => by simp [hrefs]
  | s :: S, hS => by
    have h1 := hrefs_len (T := T) (h := h) (S := S) (fun x hx => hS x (by simp [hx]))
    have h2 := hrefsAt_len T h s (idx h.words s % 16).toNat
    have h3 := (hS s (by simp)).use
    have e : hrefs T h (s :: S) = hrefsAt T h s (idx h.words s % 16).toNat ++ hrefs T h S := by simp [hrefs]
    rw [e, List.length_append, List.length_cons]; omega
theorem at_take {T : List Ty} {W : List Int} {S : List Int} (hS : ∀ s ∈ S, AtOk T W s) (k : Nat) : ∀ s ∈ S.take k, AtOk T W s := fun s hs => hS s (List.mem_of_mem_take hs)
end Go.L
namespace Go.L
open Go
theorem fld_in {G : Kin} (hK : KG G) {W : List Int} {a : Int} (ha : AtOk G.flatten W a) (i : Nat) (hi : (i : Int) < idx W a % 16) : (if (idx G.flatten (idx W a / 16)).kind = 2 then (0 : Int) else (i : Int)) < (idx G.flatten (idx W a / 16)).fields.length := by
  obtain ⟨u1, u2, u3, u4, u5, u6, u7, u8⟩ := ha.use
  obtain ⟨ty1, ty2, ty3, ty4⟩ := hK.tyAt (t := idx W a / 16) (by omega) (by omega)
  rcases ty1 with q | q
  · have := u8 q; rw [if_neg (by omega)]; omega
  · have := ty2 q; rw [if_pos q]; omega
end Go.L
