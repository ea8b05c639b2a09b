/- The law FnExactValTell returns true and leaves its arguments as they were, for all arguments; no further condition. -/
import Derived.Test.YtfjggobjijeniaaRow2
import Derived.Test.YtfjggobjijeniaaA15
/-! The row of FnExactValTell. -/
namespace Go.Proofs.Ytfjggobjijeniaa.RValTell
open Go Go.RowKit Go.L Go.ChangeShapes Go.WideShapes Go.ChangeAt
section
variable {H : Type} {enc : TypeId × Value → H} {w : World} {base : Nat} {spare : Nat → Bool} {held : Bool}
theorem opens_Field : Opens enc Try.prog w base spare held 27 cFld (fun t => (isI t.kind ∧ isI t.of ∧ True)) :=
  opens_struct' (L := [(3, 0, 1), (3, 1, 1), (4, 2, 1)]) (N := 3) (by kernel_rfl) (by kernel_rfl) (by kernel_rfl) fun n cs hl h => by
    match cs, hl with
    | [a0, a1, a2], _ =>
      obtain ⟨x0, h0⟩ := h 0 _ rfl
      obtain ⟨x1, h1⟩ := h 1 _ rfl
      obtain ⟨x2, h2⟩ := h 2 _ rfl
      obtain ⟨y0, p0, g0⟩ := (opens_int (t := 3) (by kernel_rfl)) n [a0] x0 h0
      obtain ⟨y1, p1, g1⟩ := (opens_int (t := 3) (by kernel_rfl)) n [a1] x1 h1
      obtain ⟨y2, p2, g2⟩ := (opens_bool (t := 4) (by kernel_rfl)) n [a2] x2 h2
      exact ⟨⟨y0, y1, y2⟩, ⟨p0.1, p1.1, p2.1, trivial⟩, g0, g1, g2⟩
theorem opens_FieldS : Opens enc Try.prog w base spare held 44 (fun L : (List Fld) => [A.sl 3 cFld L]) (fun L => (∀ a ∈ L, (isI a.kind ∧ isI a.of ∧ True))) :=
  opens_sl (e := 27) (by kernel_rfl) (by kernel_rfl) (by decide) opens_Field
theorem opens_Type : Opens enc Try.prog w base spare held 142 cTy (fun t => (isI t.kind ∧ isI t.up ∧ True ∧ (∀ a ∈ t.fields, (isI a.kind ∧ isI a.of ∧ True)))) :=
  opens_struct' (L := [(3, 0, 1), (3, 1, 1), (4, 2, 1), (44, 3, 1)]) (N := 4) (by kernel_rfl) (by kernel_rfl) (by kernel_rfl) fun n cs hl h => by
    match cs, hl with
    | [a0, a1, a2, a3], _ =>
      obtain ⟨x0, h0⟩ := h 0 _ rfl
      obtain ⟨x1, h1⟩ := h 1 _ rfl
      obtain ⟨x2, h2⟩ := h 2 _ rfl
      obtain ⟨x3, h3⟩ := h 3 _ rfl
      obtain ⟨y0, p0, g0⟩ := (opens_int (t := 3) (by kernel_rfl)) n [a0] x0 h0
      obtain ⟨y1, p1, g1⟩ := (opens_int (t := 3) (by kernel_rfl)) n [a1] x1 h1
      obtain ⟨y2, p2, g2⟩ := (opens_bool (t := 4) (by kernel_rfl)) n [a2] x2 h2
      obtain ⟨y3, p3, g3⟩ := opens_FieldS n [a3] x3 h3
      exact ⟨⟨y0, y1, y2, y3⟩, ⟨p0.1, p1.1, p2.1, p3.1, trivial⟩, g0, g1, g2, g3⟩
theorem opens_TypeS : Opens enc Try.prog w base spare held 74 (fun L : (List Ty) => [A.sl 4 cTy L]) (fun L => (∀ a ∈ L, (isI a.kind ∧ isI a.up ∧ True ∧ (∀ b ∈ a.fields, (isI b.kind ∧ isI b.of ∧ True))))) :=
  opens_sl (e := 142) (by kernel_rfl) (by kernel_rfl) (by decide) opens_Type
theorem opens_TypeSS : Opens enc Try.prog w base spare held 22 (fun L : (List (List Ty)) => [A.sl 1 cGrp L]) (fun L => (∀ a ∈ L, (∀ b ∈ a, (isI b.kind ∧ isI b.up ∧ True ∧ (∀ c ∈ b.fields, (isI c.kind ∧ isI c.of ∧ True)))))) :=
  opens_sl (e := 74) (by kernel_rfl) (by kernel_rfl) (by decide) opens_TypeS
theorem opens_Val : Opens enc Try.prog w base spare held 25 cVal (fun t => (isI t.kind ∧ isI t.n)) :=
  opens_struct' (L := [(3, 0, 1), (3, 1, 1)]) (N := 2) (by kernel_rfl) (by kernel_rfl) (by kernel_rfl) fun n cs hl h => by
    match cs, hl with
    | [a0, a1], _ =>
      obtain ⟨x0, h0⟩ := h 0 _ rfl
      obtain ⟨x1, h1⟩ := h 1 _ rfl
      obtain ⟨y0, p0, g0⟩ := (opens_int (t := 3) (by kernel_rfl)) n [a0] x0 h0
      obtain ⟨y1, p1, g1⟩ := (opens_int (t := 3) (by kernel_rfl)) n [a1] x1 h1
      exact ⟨⟨y0, y1⟩, ⟨p0.1, p1.1, trivial⟩, g0, g1⟩
theorem opens_ValS : Opens enc Try.prog w base spare held 76 (fun L : (List Vl) => [A.sl 2 cVal L]) (fun L => (∀ a ∈ L, (isI a.kind ∧ isI a.n))) :=
  opens_sl (e := 25) (by kernel_rfl) (by kernel_rfl) (by decide) opens_Val
theorem opens_Thing : Opens enc Try.prog w base spare held 78 cThing (fun t => (isI t.ty ∧ (∀ a ∈ t.vals, (isI a.kind ∧ isI a.n)))) :=
  opens_struct' (L := [(3, 0, 1), (76, 1, 1)]) (N := 2) (by kernel_rfl) (by kernel_rfl) (by kernel_rfl) fun n cs hl h => by
    match cs, hl with
    | [a0, a1], _ =>
      obtain ⟨x0, h0⟩ := h 0 _ rfl
      obtain ⟨x1, h1⟩ := h 1 _ rfl
      obtain ⟨y0, p0, g0⟩ := (opens_int (t := 3) (by kernel_rfl)) n [a0] x0 h0
      obtain ⟨y1, p1, g1⟩ := opens_ValS n [a1] x1 h1
      exact ⟨⟨y0, y1⟩, ⟨p0.1, p1.1, trivial⟩, g0, g1⟩
theorem opens_ThingS : Opens enc Try.prog w base spare held 23 (fun L : (List Thg) => [A.sl 2 cThing L]) (fun L => (∀ a ∈ L, (isI a.ty ∧ (∀ b ∈ a.vals, (isI b.kind ∧ isI b.n))))) :=
  opens_sl (e := 78) (by kernel_rfl) (by kernel_rfl) (by decide) opens_Thing
end
theorem own : ownKnob Try.prog.godebug = none := by kernel_rfl
theorem laidOut : laidOutB Try.prog = true := by kernel_rfl
end Go.Proofs.Ytfjggobjijeniaa.RValTell
namespace Go.Proofs.Ytfjggobjijeniaa
open Go Go.RowKit Go.L Go.ChangeShapes Go.WideShapes Go.ChangeAt RValTell
set_option maxRecDepth 100000 in
theorem f4_lifted (os : Os) (started : os.Started) (H : Type) (enc : TypeId × Value → H) :
    ReturnsInHanded {} Try.checked os 4 .any (Rows.fnExactValTellSpec.pre6 enc Try.prog Try.f4 Rows.fnExactValTellRow.domain false) (Rows.fnExactValTellSpec.post enc Try.prog Try.f4 false true false false) := by
  refine returnsInHanded_of_change (C := Try.checked) RValTell.own started (by kernel_rfl) Try.func4
    (ChangeSpec.witness6 (enc := enc) (C := Try.checked) false ⟨#[], #[.slice none 0 0, .slice none 0 0, .agg #[.int .i64 0, .int .i64 0]], []⟩ 8 (by kernel_rfl) (by kernel_rfl) (by kernel_rfl) (by kernel_rfl)) ?_
  intro W base args ds gs before hval0 hW hcnd _
  have hval : ∀ (j : Nat) t v, Try.f4.params.toList[j]? = some t → args[j]? = some v → Value.okWide Try.prog W .any base t v := fun j t v h => hval0 j t v (by simpa using h)
  have hW' := hW
  obtain ⟨p, q, hA0, hV, rfl, hfz, hnd⟩ := hW
  have hA : DataW.TrodAll enc Try.prog W 0 (fun _ => true) true Try.f4.params.toList args.toList ds p := hA0
  have hps : Try.f4.params.toList = [22, 23, 25] := by kernel_rfl
  rw [hps] at hA hval
  obtain ⟨v0, v1, v2, d0, d1, d2, p0, p1, p2, rfl, rfl, rfl, h0, h1, h2⟩ := trodAll_three hA
  obtain ⟨rfl, rfl⟩ := trodVars_none hV
  obtain ⟨G, k0, g0⟩ := opens_one opens_TypeSS (okWide_slice (P := Try.prog) (t := 22) (e := 74) (by kernel_rfl) (hval 0 22 v0 rfl rfl)) h0
  obtain ⟨T, k1, g1⟩ := opens_one opens_ThingS (okWide_slice (P := Try.prog) (t := 23) (e := 78) (by kernel_rfl) (hval 1 23 v1 rfl rfl)) h1
  obtain ⟨v, k2, g2⟩ := opens_agg opens_Val (okWide_agg (P := Try.prog) (t := 25) (by kernel_rfl) (hval 2 25 v2 rfl rfl)) h2
  refine (law_ValTell G (fun g hg t ht => ⟨(g0 g hg t ht).2.1.2, fun f hf => ((g0 g hg t ht).2.2.2 f hf).2.1.2⟩) T v (Rho.all W) W [v0, v1, v2] (Rho.all_ok W) ⟨k0, k1, k2, trivial⟩).mono fun e W' he => ?_
  obtain ⟨v, s, rfl, hg, hv⟩ := he
  have hv : v = .bool true := hv
  subst hv
  exact ⟨_, rfl, post_law (tb := 4) RValTell.laidOut (by kernel_rfl) rfl rfl (by kernel_rfl) (by kernel_rfl) hW' hg.below⟩
theorem f4_holds : Rows.FnExactValTellSaid :=
  OpenClaim.holds_of_wide 4 Try.f4 rfl rfl rfl rfl rfl rfl rfl ⟨rfl, rfl, rfl, rfl, rfl⟩ rfl rfl rfl rfl rfl (by kernel_rfl) Try.func4 (by kernel_rfl)
    (of_decide_eq_true (by kernel_rfl)) (by unfold Func.isWrapper; rw [if_neg (by decide +kernel)]; exact ⟨rfl, rfl⟩)
    (fun os started H enc _ => f4_lifted os started H enc)
end Go.Proofs.Ytfjggobjijeniaa
