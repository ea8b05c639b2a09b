import Derived.Test.YtfjggobjijeniaaCal10
/-! New memory weakened. -/
namespace Go.L
open Go Go.RowKit
theorem Imp.sli {S : Type} {k : Nat} {f f' : S → List A} {L : List S} (h : ∀ y, AllImp (f' y) (f y)) : Imp (A.sl k f L) (A.sl k f' L) := fun r v ⟨a, len, cap, e, h1, h2, h3, q⟩ =>
  ⟨a, len, cap, e, h1, h2, h3, fun hn => by
    obtain ⟨b, o, ea, hc⟩ := q hn
    refine ⟨b, o, ea, fun i y hy j c hj => ?_⟩
    have h0 := hc i y hy
    have hh := h y
    have : ∀ (l m : List A) (o : Nat), AllImp l m → A.CellsAt r b o m → ∀ (j : Nat) c, l[j]? = some c → ∃ x, r ⟨b, o + j, none⟩ = some x ∧ c.p r x := by
      intro l
      induction l with
      | nil => intro m o _ _ j c hj; simp at hj
      | cons t l ih =>
        intro m o hlm hat j c hj
        cases m with
        | nil => exact hlm.elim
        | cons u m =>
          cases j with
          | zero =>
            simp at hj; subst hj
            obtain ⟨x, hx, hp⟩ := hat 0 u (by simp)
            exact ⟨x, hx, hlm.1 r x hp⟩
          | succ j =>
            have := ih m (o + 1) hlm.2 (fun i c' hi => by
              obtain ⟨x, hx, hp⟩ := hat (i + 1) c' (by simpa using hi)
              exact ⟨x, by rw [← hx]; congr 2; omega, hp⟩) j c (by simpa using hj)
            obtain ⟨x, hx, hp⟩ := this
            exact ⟨x, by rw [← hx]; congr 2; omega, hp⟩
    exact this _ _ _ hh h0 j c hj⟩
theorem AllPure.ints : ∀ (L : List Int), AllPure (L.map A.int)
  | [] => trivial
  | _ :: L => ⟨Pure.val, AllPure.ints L⟩
theorem AllPure.intsp (L : List Int) (n : Nat) : AllPure (L.map A.int ++ List.replicate n A.any) := (AllPure.ints L).append (AllPure.anys n)
theorem flat_ints' (L : List Int) : L.flatMap (fun n => [A.int n]) = L.map A.int := flat_ints L
theorem Lend.osI {O : Own} (j : Nat) {b ty n cap : Nat} {L : List Int} {sp : List A} (hi : nth O j = some (b, ty, L.map A.int ++ sp)) (hn : n = L.length) (h1 : n ≤ cap) (h2 : cap ≤ maxLen) : Lend O (A.os b n cap) (A.sl 1 (fun n => [A.int n]) L) :=
  Lend.os j hi hn h1 h2 (fun _ => rfl) (AllImp.eq (by rw [flat_ints, List.length_map, List.take_left' (by simp)]))
theorem AllKI.pure {c : Rho} : ∀ {l : List A}, AllPure l → AllKI c l l
  | [], _ => trivial
  | _ :: _, h => ⟨KI.pure h.1, AllKI.pure h.2⟩
end Go.L
