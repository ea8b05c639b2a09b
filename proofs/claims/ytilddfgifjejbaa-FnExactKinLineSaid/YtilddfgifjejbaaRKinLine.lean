/- The law FnExactKinLine returns true and leaves its arguments as they were, for all arguments; no further condition. -/
import Derived.Test.YtilddfgifjejbaaRow
import Derived.Test.YtilddfgifjejbaaA12
/-! The row of FnExactKinLine. -/
namespace Go.Proofs.Ytilddfgifjejbaa
open Go Go.RowKit Go.L Go.ChangeShapes Go.WideShapes Go.ChangeAt
section
variable {H : Type} {enc : TypeId × Value → H} {w : World} {base : Nat} {spare : Nat → Bool} {held : Bool}
theorem opens_Field : Opens enc Try.prog w base spare held 120 cFld (fun f => isI f.kind ∧ isI f.of) :=
  opens_struct' (L := [(3, 0, 1), (3, 1, 1), (4, 2, 1)]) (N := 3) (by kernel_rfl) (by kernel_rfl) (by kernel_rfl) fun n cs hl h => by
    match cs, hl with
    | [a0, a1, a2], _ =>
      obtain ⟨x0, h0⟩ := h 0 _ rfl
      obtain ⟨x1, h1⟩ := h 1 _ rfl
      obtain ⟨x2, h2⟩ := h 2 _ rfl
      obtain ⟨y0, p0, g0⟩ := opens_int (t := 3) (by kernel_rfl) n [a0] x0 h0
      obtain ⟨y1, p1, g1⟩ := opens_int (t := 3) (by kernel_rfl) n [a1] x1 h1
      obtain ⟨y2, p2, g2⟩ := opens_bool (t := 4) (by kernel_rfl) n [a2] x2 h2
      exact ⟨⟨y0, y1, y2⟩, ⟨p0.1, p1.1, p2.1, trivial⟩, g0, g1⟩
theorem opens_FieldS : Opens enc Try.prog w base spare held 90 (fun L : List Fld => [A.sl 3 cFld L]) (fun L => ∀ f ∈ L, isI f.kind ∧ isI f.of) :=
  opens_sl (e := 120) (by kernel_rfl) (by kernel_rfl) (by decide) opens_Field
theorem opens_Type : Opens enc Try.prog w base spare held 92 cTy (fun t => isI t.kind ∧ isI t.up ∧ ∀ f ∈ t.fields, isI f.kind ∧ isI f.of) :=
  opens_struct' (L := [(3, 0, 1), (3, 1, 1), (4, 2, 1), (90, 3, 1)]) (N := 4) (by kernel_rfl) (by kernel_rfl) (by kernel_rfl) fun n cs hl h => by
    match cs, hl with
    | [a0, a1, a2, a3], _ =>
      obtain ⟨x0, h0⟩ := h 0 _ rfl
      obtain ⟨x1, h1⟩ := h 1 _ rfl
      obtain ⟨x2, h2⟩ := h 2 _ rfl
      obtain ⟨x3, h3⟩ := h 3 _ rfl
      obtain ⟨y0, p0, g0⟩ := opens_int (t := 3) (by kernel_rfl) n [a0] x0 h0
      obtain ⟨y1, p1, g1⟩ := opens_int (t := 3) (by kernel_rfl) n [a1] x1 h1
      obtain ⟨y2, p2, g2⟩ := opens_bool (t := 4) (by kernel_rfl) n [a2] x2 h2
      obtain ⟨y3, p3, g3⟩ := opens_FieldS n [a3] x3 h3
      exact ⟨⟨y0, y1, y2, y3⟩, ⟨p0.1, p1.1, p2.1, p3.1, trivial⟩, g0, g1, g3⟩
theorem opens_TypeS : Opens enc Try.prog w base spare held 76 cGrp (fun L => ∀ t ∈ L, isI t.kind ∧ isI t.up ∧ ∀ f ∈ t.fields, isI f.kind ∧ isI f.of) :=
  opens_sl (e := 92) (by kernel_rfl) (by kernel_rfl) (by decide) opens_Type
theorem opens_TypeSS : Opens enc Try.prog w base spare held 45 (fun L : Kin => [A.sl 1 cGrp L]) (fun G => ∀ g ∈ G, ∀ t ∈ g, isI t.kind ∧ isI t.up ∧ ∀ f ∈ t.fields, isI f.kind ∧ isI f.of) :=
  opens_sl (e := 76) (by kernel_rfl) (by kernel_rfl) (by decide) opens_TypeS
end
theorem Try.own : ownKnob Try.prog.godebug = none := by kernel_rfl
theorem Try.laidOut : laidOutB Try.prog = true := by kernel_rfl
theorem law_all (G : Kin) (hr : ∀ g ∈ G, ∀ t ∈ g, TyOk t) (a : Int) : FnC Try.prog 6 [A.sl 1 cGrp G, A.int a] (A.bool true) := by
  by_cases hv : kinOk G = true ∧ 0 ≤ a ∧ a < kcnt G
  · exact law_valid G hr a hv
  · exact law_invalid G hr a hv
set_option maxRecDepth 100000 in
theorem f6_lifted (os : Os) (started : os.Started) (H : Type) (enc : TypeId × Value → H) :
    ReturnsInHanded {} Try.checked os 6 .any (Rows.fnExactKinLineSpec.pre6 enc Try.prog Try.f6 Rows.fnExactKinLineRow.domain false) (Rows.fnExactKinLineSpec.post enc Try.prog Try.f6 false true false false) := by
  refine returnsInHanded_of_change (C := Try.checked) Try.own started (by kernel_rfl) Try.func6
    (ChangeSpec.witness6 (enc := enc) (C := Try.checked) false ⟨#[], #[.slice none 0 0, .int .i64 0], []⟩ 8 (by kernel_rfl) (by kernel_rfl) (by kernel_rfl) (by kernel_rfl)) ?_
  intro W base args ds gs before hval0 hW hcnd _
  have hval : ∀ (j : Nat) t v, Try.f6.params.toList[j]? = some t → args[j]? = some v → Value.okWide Try.prog W .any base t v := fun j t v h => hval0 j t v (by simpa using h)
  have hW' := hW
  obtain ⟨p, q, hA0, hV, rfl, hfz, hnd⟩ := hW
  have hA : DataW.TrodAll enc Try.prog W 0 (fun _ => true) true Try.f6.params.toList args.toList ds p := hA0
  have hps : Try.f6.params.toList = [45, 3] := by kernel_rfl
  rw [hps] at hA hval
  obtain ⟨v0, v1, d0, d1, p0, p1, rfl, rfl, rfl, h0, h1⟩ := trodAll_two hA
  obtain ⟨rfl, rfl⟩ := trodVars_none hV
  obtain ⟨G, k0, g0⟩ := opens_one opens_TypeSS (okWide_slice (P := Try.prog) (t := 45) (e := 76) (by kernel_rfl) (hval 0 45 v0 rfl rfl)) h0
  obtain ⟨a, k1, _⟩ := opens_one (opens_int (t := 3) (by kernel_rfl)) (okWide_int (P := Try.prog) (t := 3) (k := .i64) (by kernel_rfl) (hval 1 3 v1 rfl rfl)) h1
  refine (law_all G (fun g hg t ht => ⟨(g0 g hg t ht).2.1.2, fun f hf => ((g0 g hg t ht).2.2 f hf).2.2⟩) a (Rho.all W) W [v0, v1] (Rho.all_ok W) ⟨k0, k1, trivial⟩).mono fun e W' he => ?_
  obtain ⟨v, s, rfl, hg, hv⟩ := he
  have hv : v = .bool true := hv
  subst hv
  exact ⟨_, rfl, post_law (tb := 4) Try.laidOut (by kernel_rfl) rfl rfl (by kernel_rfl) (by kernel_rfl) hW' hg.below⟩
theorem f6_holds : Rows.FnExactKinLineSaid :=
  OpenClaim.holds_of_wide 6 Try.f6 rfl rfl rfl rfl rfl rfl rfl ⟨rfl, rfl, rfl, rfl, rfl⟩ rfl rfl rfl rfl rfl (by kernel_rfl) Try.func6 (by kernel_rfl)
    (of_decide_eq_true (by kernel_rfl)) (by unfold Func.isWrapper; rw [if_neg (by decide +kernel)]; exact ⟨rfl, rfl⟩)
    (fun os started H enc _ => f6_lifted os started H enc)
end Go.Proofs.Ytilddfgifjejbaa
