import Derived.Test.YtfjggobjijeniaaPure4
import Derived.Test.YtfjggobjijeniaaPure5
/-! Values and objects, in plain terms. -/
namespace Go.L
open Go
structure Vl where
  kind : Int
  n : Int
deriving Inhabited, DecidableEq
structure Thg where
  ty : Int
  vals : List Vl
deriving Inhabited, DecidableEq
theorem Vl.eqs {f g : Vl} : f = g ↔ f.kind = g.kind ∧ f.n = g.n := by cases f; cases g; simp
theorem Thg.eqs {f g : Thg} : f = g ↔ f.ty = g.ty ∧ f.vals = g.vals := by cases f; cases g; simp
def cVal (v : Vl) : List A := [A.int v.kind, A.int v.n]
def cThing (t : Thg) : List A := [A.int t.ty, A.sl 2 cVal t.vals]
def bThing (t : Thg) : Nat := t.vals.length
def bThings (L : List Thg) : Nat := bulkL bThing L
def vnum (n : Int) : Bool := decide (0 ≤ n) && decide (n < 9973)
/-- A value is written right. -/
def vform (v : Vl) (m : Int) : Bool :=
  if v.kind = 1 ∨ v.kind = 3 then vnum v.n else if v.kind = 2 then decide (v.n = 0) else if v.kind = 4 then decide (0 ≤ v.n) && decide (v.n < m) else false
def vof (T : List Thg) (v : Vl) : Int := if v.kind = 3 then -2 else (idx T v.n).ty
def vfits (G : Kin) (T : List Thg) (v : Vl) (f : Fld) : Bool :=
  if vform v T.length = false then false
  else if f.kind = 1 ∨ v.kind = 1 then decide (f.kind = 1) && decide (v.kind = 1)
  else if v.kind = 2 then decide (f.kind = 2)
  else (decide (-2 ≤ vof T v) && decide (vof T v < kcnt G)) && (decide (v.kind = 3) || decide (0 ≤ vof T v)) && kunder G (vof T v) f.of
def valFits (G : Kin) (T : List Thg) (v : Vl) (f : Fld) : Bool := kinOk G && fieldOk f (kcnt G) && vfits G T v f
def vtell (G : Kin) (T : List Thg) (v : Vl) : Int := if v.kind = 1 then v.n else if v.kind = 2 then -1 else if v.kind = 3 then -2 - v.n else 9973 + kcanon G (idx T v.n).ty
def valTell (G : Kin) (T : List Thg) (v : Vl) : Int :=
  if kinOk G = false ∨ vform v T.length = false then 0
  else if v.kind = 4 ∧ ((idx T v.n).ty < 0 ∨ kcnt G ≤ (idx T v.n).ty) then 0 else vtell G T v
/-- What the program's looks come to, over any way to find an object. -/
def tfind (T : List Thg) (n : Int) : Thg × Bool := if 0 ≤ n ∧ n < T.length then (idx T n, true) else (default, false)
def refOf (m : Int) (fd : Int → Thg × Bool) (v : Vl) : Int × Bool :=
  if v.kind = 3 then (-2, vnum v.n) else if v.kind = 4 then ((fd v.n).1.ty, (fd v.n).2 && (decide (0 ≤ (fd v.n).1.ty) && decide ((fd v.n).1.ty < m))) else (0, false)
def fitsF (G : Kin) (fd : Int → Thg × Bool) (v : Vl) (f : Fld) : Bool :=
  if fieldOk f (kcnt G) = false then false
  else if f.kind = 1 then decide (v.kind = 1) && vnum v.n
  else if v.kind = 2 then decide (v.n = 0) && decide (f.kind = 2)
  else (refOf (kcnt G) fd v).2 && kunderI G (refOf (kcnt G) fd v).1 f.of
noncomputable def tellF (G : Kin) (fd : Int → Thg × Bool) (v : Vl) : Int :=
  if v.kind = 1 ∧ vnum v.n = true then v.n else if v.kind = 2 ∧ v.n = 0 then -1
  else if (refOf (kcnt G) fd v).2 = true then (if (refOf (kcnt G) fd v).1 = -2 then -2 - v.n else 9973 + idx (canonL G) (refOf (kcnt G) fd v).1) else 0
theorem tfind_yes {T : List Thg} {n : Int} (h : 0 ≤ n ∧ n < T.length) : tfind T n = (idx T n, true) := if_pos h
theorem tfind_no {T : List Thg} {n : Int} (h : ¬ (0 ≤ n ∧ n < T.length)) : tfind T n = (default, false) := if_neg h
theorem fits_eq (G : Kin) (T : List Thg) (v : Vl) (f : Fld) : (kinOk G && fitsF G (tfind T) v f) = valFits G T v f := by
  unfold valFits
  cases hk : kinOk G with
  | false => simp
  | true =>
    simp only [Bool.true_and]
    unfold fitsF
    cases hf : fieldOk f (kcnt G) with
    | false => simp
    | true =>
      have hr := fieldOk_rng hf
      have hc := kcnt_nonneg G
      have hfk : f.kind = 1 ∨ f.kind = 2 ∨ f.kind = 3 := by unfold fieldOk at hf; grind
      simp only [Bool.true_and, Bool.true_eq_false, if_false]
      unfold vfits vform refOf vof kunderI
      by_cases h4 : v.kind = 4
      · by_cases hb : 0 ≤ v.n ∧ v.n < T.length
        · rw [tfind_yes hb]; simp only [h4]; grind
        · rw [tfind_no hb]; simp only [h4]; grind
      · by_cases h3 : v.kind = 3 <;> by_cases h2 : v.kind = 2 <;> by_cases h1 : v.kind = 1 <;> simp only [h1, h2, h3] <;> grind
theorem tell_eq {G : Kin} (hG : Small G) (T : List Thg) (v : Vl) : (if kinOk G = true then tellF G (tfind T) v else 0) = valTell G T v := by
  unfold valTell
  cases hk : kinOk G with
  | false => simp
  | true =>
    have hK := KG.of hG hk
    simp only [if_true, Bool.true_eq_false, false_or]
    unfold tellF refOf vform vtell
    by_cases h4 : v.kind = 4
    · by_cases hb : 0 ≤ v.n ∧ v.n < T.length
      · rw [tfind_yes hb]; simp only [h4]
        by_cases ht : 0 ≤ (idx T v.n).ty ∧ (idx T v.n).ty < kcnt G
        · have hce := canon_eq hK ht.1 ht.2; simp only [show ¬ ((4 : Int) = 1) from by decide, show ¬ ((4 : Int) = 2) from by decide, show ¬ ((4 : Int) = 3) from by decide]; grind
        · grind
      · rw [tfind_no hb]; simp only [h4]; grind
    · by_cases h3 : v.kind = 3 <;> by_cases h2 : v.kind = 2 <;> by_cases h1 : v.kind = 1 <;> simp only [h1, h2, h3] <;> grind
end Go.L
namespace Go.L
open Go
theorem refOf_rng {m : Int} {fd : Int → Thg × Bool} {v : Vl} (h : (refOf m fd v).2 = true) : ((refOf m fd v).1 = -2 ∧ 0 ≤ v.n ∧ v.n < 9973) ∨ (0 ≤ (refOf m fd v).1 ∧ (refOf m fd v).1 < m) := by
  unfold refOf at *
  unfold vnum at *
  split at h
  · left; rename_i q; simp [q] at *; exact h
  · split at h
    · right; rename_i q; simp [q] at *; exact h.2
    · simp at h
theorem KG.canon_rng {G : Kin} (h : KG G) {a : Int} (h0 : 0 ≤ a) (ha : a < kcnt G) : 0 ≤ idx (canonL G) a ∧ idx (canonL G) a ≤ 8 := h.canOk _ (idx_mem h0 (by have := canonL_len G; omega))
theorem ksmall_canon {G : Kin} (h : KG G) {a : Int} (h0 : 0 ≤ a) (ha : a < kcnt G) : 0 ≤ kcanon G a ∧ kcanon G a ≤ 8 := by
  rw [← canon_eq h h0 ha]; exact h.canon_rng h0 ha
end Go.L
