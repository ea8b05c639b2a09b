import Derived.Test.YtfjggobjijeniaaPure9
import Derived.Test.YtfjggobjijeniaaWalk3
/-! The program's heap, in plain terms: words, fields, repeated elements. -/
namespace Go.L
open Go
def wordOf (v : Vl) : Int := if v.kind = 1 ∧ vnum v.n = true then v.n else if v.kind = 3 ∧ vnum v.n = true then 2 * v.n + 1 else if v.kind = 4 ∧ 0 ≤ v.n ∧ v.n < 160 then 2 * v.n + 2 else 0
theorem wv_bad {f : Fld} {w : Int} (h : (w < 0 ∨ f.kind < 1) ∨ 3 < f.kind) : wordVal f w = (⟨0, 0⟩, false) := by
  unfold wordVal; rw [if_pos (by omega)]
theorem wv_num {f : Fld} {w : Int} (h : ¬ ((w < 0 ∨ f.kind < 1) ∨ 3 < f.kind)) (hk : f.kind = 1) : (wordOf ⟨1, w⟩ ≠ w → wordVal f w = (⟨0, 0⟩, false)) ∧ (wordOf ⟨1, w⟩ = w → wordVal f w = (⟨1, w⟩, true)) := by
  have e : wval f w = ⟨1, w⟩ := by unfold wval; rw [if_pos hk]
  unfold wordVal; rw [e]
  constructor
  · intro q
    have hv : vform ⟨1, w⟩ 160 = false := by unfold wordOf vnum at q; unfold vform vnum; simp at q ⊢; omega
    rw [if_pos (by simp [hv])]
  · intro q
    have hv : vform ⟨1, w⟩ 160 = true := by unfold wordOf vnum at q; unfold vform vnum; simp at q ⊢; omega
    rw [if_neg (by simp [hv]; omega)]
theorem wv_none {f : Fld} {w : Int} (h : ¬ ((w < 0 ∨ f.kind < 1) ∨ 3 < f.kind)) (hk : ¬ f.kind = 1) (h0 : w = 0) : (f.kind = 3 → wordVal f w = (⟨0, 0⟩, false)) ∧ (¬ f.kind = 3 → wordVal f w = (⟨2, 0⟩, true)) := by
  have e : wval f w = ⟨2, 0⟩ := by unfold wval; rw [if_neg hk, if_pos h0]
  unfold wordVal; rw [e]
  exact ⟨fun q => by rw [if_pos (by simp [q])], fun q => by rw [if_neg (by simp [vform, q]; omega)]⟩
theorem wv_chip {f : Fld} {w : Int} (h : ¬ ((w < 0 ∨ f.kind < 1) ∨ 3 < f.kind)) (hk : ¬ f.kind = 1) (h1 : w % 2 = 1) : (wordOf ⟨3, w / 2⟩ ≠ w → wordVal f w = (⟨0, 0⟩, false)) ∧ (wordOf ⟨3, w / 2⟩ = w → wordVal f w = (⟨3, w / 2⟩, true)) := by
  obtain ⟨_, _, d1, d2⟩ := tde (w := w) (by omega)
  have e : wval f w = ⟨3, w / 2⟩ := by unfold wval; rw [if_neg hk, if_neg (by omega), if_pos (by omega), d1]
  unfold wordVal; rw [e]
  constructor
  · intro q
    have hv : vform ⟨3, w / 2⟩ 160 = false := by unfold wordOf vnum at q; unfold vform vnum; simp at q ⊢; omega
    rw [if_pos (by simp [hv])]
  · intro q
    have hv : vform ⟨3, w / 2⟩ 160 = true := by unfold wordOf vnum at q; unfold vform vnum; simp at q ⊢; omega
    rw [if_neg (by simp [hv]; omega)]
theorem wv_thing {f : Fld} {w : Int} (h : ¬ ((w < 0 ∨ f.kind < 1) ∨ 3 < f.kind)) (hk : ¬ f.kind = 1) (h0 : ¬ w = 0) (h1 : ¬ w % 2 = 1) : (wordOf ⟨4, w / 2 - 1⟩ ≠ w → wordVal f w = (⟨0, 0⟩, false)) ∧ (wordOf ⟨4, w / 2 - 1⟩ = w → wordVal f w = (⟨4, w / 2 - 1⟩, true)) := by
  obtain ⟨_, _, d1, d2⟩ := tde (w := w) (by omega)
  have e : wval f w = ⟨4, w / 2 - 1⟩ := by unfold wval; rw [if_neg hk, if_neg h0, if_neg (by omega), d1]
  unfold wordVal; rw [e]
  constructor
  · intro q
    have hv : vform ⟨4, w / 2 - 1⟩ 160 = false := by unfold wordOf vnum at q; unfold vform; simp at q ⊢; omega
    rw [if_pos (by simp [hv])]
  · intro q
    have hv : vform ⟨4, w / 2 - 1⟩ 160 = true := by unfold wordOf vnum at q; unfold vform; simp at q ⊢; omega
    rw [if_neg (by simp [hv]; omega)]
theorem over_filled {T : Type} {f : T → List A} {z : List A} {k : Nat} {L M : List T} {j q : Nat} (hk : ∀ y, (f y).length = k) (hz : z.length = k) (hM : M = (L.drop j).take q) (hq : j + q ≤ L.length) :
    over (filled f z L j) (j * k) (M.flatMap f) = filled f z L (j + q) := by
  have hMl : M.length = q := by rw [hM, List.length_take, List.length_drop]; omega
  have hl1 : ((L.take j).flatMap f).length = j * k := by rw [flatMap_len hk, List.length_take, Nat.min_eq_left (by omega)]
  have hl2 : (M.flatMap f).length = q * k := by rw [flatMap_len hk, hMl]
  unfold over filled
  rw [List.take_append_of_le_length (by omega), List.take_of_length_le (by omega)]
  have e1 : L.take (j + q) = L.take j ++ M := by rw [hM, List.take_add]
  rw [e1, List.flatMap_append, List.append_assoc, List.append_assoc]
  congr 1
  congr 1
  rw [hl2, List.drop_append, hl1]
  rw [List.drop_of_length_le (by omega), List.nil_append, show j * k + q * k - j * k = q * k from by omega]
  have e2 : List.replicate (L.length - j) z = List.replicate q z ++ List.replicate (L.length - (j + q)) z := by
    rw [List.replicate_append_replicate]; congr 1; omega
  rw [e2, List.flatten_append, List.drop_append]
  have hl3 : (List.replicate q z).flatten.length = q * k := by simp [hz]
  rw [List.drop_of_length_le (by omega), hl3, Nat.sub_self, List.drop_zero, List.nil_append]
theorem take_filled {T : Type} {f : T → List A} {z : List A} {k : Nat} {L : List T} {j q : Nat} (hk : ∀ y, (f y).length = k) (hq : q ≤ j) (hj : j ≤ L.length) : (filled f z L j).take (q * k) = (L.take q).flatMap f := by
  have hl1 : ((L.take j).flatMap f).length = j * k := by rw [flatMap_len hk, List.length_take, Nat.min_eq_left hj]
  unfold filled
  rw [List.take_append_of_le_length (by rw [hl1]; exact Nat.mul_le_mul_right _ hq)]
  have e1 : L.take j = L.take q ++ (L.drop q).take (j - q) := by
    conv => lhs; rw [show j = q + (j - q) from by omega, List.take_add]
  have hl2 : ((L.take q).flatMap f).length = q * k := by rw [flatMap_len hk, List.length_take, Nat.min_eq_left (by omega)]
  rw [e1, List.flatMap_append, List.take_append_of_le_length (by omega), List.take_of_length_le (by omega)]
theorem repl_take {T : Type} {y : T} {n j q : Nat} (h : j + q ≤ n) : (List.replicate n y).take q = ((List.replicate n y).drop j).take q := by
  rw [List.drop_replicate, List.take_replicate, List.take_replicate]; congr 1; omega
theorem AllOne.flatMap {T : Type} {f : T → List A} (h : ∀ y, AllOne (f y)) : ∀ L : List T, AllOne (L.flatMap f)
  | [] => trivial
  | y :: L => by
    rw [List.flatMap_cons]
    have key : ∀ (l m : List A), AllOne l → AllOne m → AllOne (l ++ m) := by
      intro l
      induction l with
      | nil => intro m _ h; exact h
      | cons a l ih => intro m h1 h2; exact ⟨h1.1, ih m h1.2 h2⟩
    exact key _ _ (h y) (AllOne.flatMap h L)
/-- The fields of an object of a type with so many values. -/
def hfields (G : Kin) (t many : Int) : List Fld × Bool :=
  if t < 0 ∨ kcnt G ≤ t then ([], false)
  else if (idx G.flatten t).kind = 2 then (List.replicate (if 7 < many then 7 else many).toNat (idx (idx G.flatten t).fields 0), decide (many ≤ 6)) else ((idx G.flatten t).fields, decide (many = (idx G.flatten t).fields.length))
end Go.L
namespace Go.L
open Go
theorem filled_one {f : Fld} {n : Nat} {L : List Fld} (hL : L = List.replicate n f) (hn : n ≤ 7) : filled cFld [A.val (.int .i64 0), A.val (.int .i64 0), A.val (.bool false)] L (min 1 n) = over (List.replicate n ([.int .i64 0, .int .i64 0, .bool false].map A.val)).flatten 0 (([f].take (min 1 n)).flatMap cFld) := by
  have h0 : (List.replicate n ([.int .i64 0, .int .i64 0, .bool false].map A.val)).flatten = filled cFld [A.val (.int .i64 0), A.val (.int .i64 0), A.val (.bool false)] L 0 := by
    rw [← filled_zero, hL, List.length_replicate]; rfl
  have h1 := over_filled (f := cFld) (z := [A.val (.int .i64 0), A.val (.int .i64 0), A.val (.bool false)]) (k := 3) (L := L) (M := [f].take (min 1 n)) (j := 0) (q := min 1 n) (fun _ => rfl) rfl
    (by rw [hL]; cases n with
      | zero => rfl
      | succ n => rw [show min 1 (n + 1) = 1 from by omega]; rfl) (by rw [hL, List.length_replicate]; omega)
  rw [h0]; rw [Nat.zero_add, Nat.zero_mul] at h1; exact h1.symm
end Go.L
namespace Go.L
theorem repl_takeL {T : Type} {y : T} {n j q : Nat} {L : List T} (hL : L = List.replicate n y) (h : j + q ≤ n) : L.take q = (L.drop j).take q := by subst hL; exact repl_take h
end Go.L
