/- The law FnExactHeapFits returns true and leaves its arguments as they were, for all arguments; no further condition. -/
import Derived.Test.YtfjggobjijeniaaRow2
import Derived.Test.YtfjggobjijeniaaA26
/-! The row of FnExactHeapFits. -/
namespace Go.Proofs.Ytfjggobjijeniaa.RHeapFits
open Go Go.RowKit Go.L Go.ChangeShapes Go.WideShapes Go.ChangeAt
section
variable {H : Type} {enc : TypeId × Value → H} {w : World} {base : Nat} {spare : Nat → Bool} {held : Bool}
theorem opens_Field : Opens enc Try.prog w base spare held 27 cFld (fun t => (isI t.kind ∧ isI t.of ∧ True)) :=
  opens_struct' (L := [(3, 0, 1), (3, 1, 1), (4, 2, 1)]) (N := 3) (by kernel_rfl) (by kernel_rfl) (by kernel_rfl) fun n cs hl h => by
    match cs, hl with
    | [a0, a1, a2], _ =>
      obtain ⟨x0, h0⟩ := h 0 _ rfl
      obtain ⟨x1, h1⟩ := h 1 _ rfl
      obtain ⟨x2, h2⟩ := h 2 _ rfl
      obtain ⟨y0, p0, g0⟩ := (opens_int (t := 3) (by kernel_rfl)) n [a0] x0 h0
      obtain ⟨y1, p1, g1⟩ := (opens_int (t := 3) (by kernel_rfl)) n [a1] x1 h1
      obtain ⟨y2, p2, g2⟩ := (opens_bool (t := 4) (by kernel_rfl)) n [a2] x2 h2
      exact ⟨⟨y0, y1, y2⟩, ⟨p0.1, p1.1, p2.1, trivial⟩, g0, g1, g2⟩
theorem opens_FieldS : Opens enc Try.prog w base spare held 44 (fun L : (List Fld) => [A.sl 3 cFld L]) (fun L => (∀ a ∈ L, (isI a.kind ∧ isI a.of ∧ True))) :=
  opens_sl (e := 27) (by kernel_rfl) (by kernel_rfl) (by decide) opens_Field
theorem opens_Type : Opens enc Try.prog w base spare held 142 cTy (fun t => (isI t.kind ∧ isI t.up ∧ True ∧ (∀ a ∈ t.fields, (isI a.kind ∧ isI a.of ∧ True)))) :=
  opens_struct' (L := [(3, 0, 1), (3, 1, 1), (4, 2, 1), (44, 3, 1)]) (N := 4) (by kernel_rfl) (by kernel_rfl) (by kernel_rfl) fun n cs hl h => by
    match cs, hl with
    | [a0, a1, a2, a3], _ =>
      obtain ⟨x0, h0⟩ := h 0 _ rfl
      obtain ⟨x1, h1⟩ := h 1 _ rfl
      obtain ⟨x2, h2⟩ := h 2 _ rfl
      obtain ⟨x3, h3⟩ := h 3 _ rfl
      obtain ⟨y0, p0, g0⟩ := (opens_int (t := 3) (by kernel_rfl)) n [a0] x0 h0
      obtain ⟨y1, p1, g1⟩ := (opens_int (t := 3) (by kernel_rfl)) n [a1] x1 h1
      obtain ⟨y2, p2, g2⟩ := (opens_bool (t := 4) (by kernel_rfl)) n [a2] x2 h2
      obtain ⟨y3, p3, g3⟩ := opens_FieldS n [a3] x3 h3
      exact ⟨⟨y0, y1, y2, y3⟩, ⟨p0.1, p1.1, p2.1, p3.1, trivial⟩, g0, g1, g2, g3⟩
theorem opens_TypeS : Opens enc Try.prog w base spare held 74 (fun L : (List Ty) => [A.sl 4 cTy L]) (fun L => (∀ a ∈ L, (isI a.kind ∧ isI a.up ∧ True ∧ (∀ b ∈ a.fields, (isI b.kind ∧ isI b.of ∧ True))))) :=
  opens_sl (e := 142) (by kernel_rfl) (by kernel_rfl) (by decide) opens_Type
theorem opens_TypeSS : Opens enc Try.prog w base spare held 22 (fun L : (List (List Ty)) => [A.sl 1 cGrp L]) (fun L => (∀ a ∈ L, (∀ b ∈ a, (isI b.kind ∧ isI b.up ∧ True ∧ (∀ c ∈ b.fields, (isI c.kind ∧ isI c.of ∧ True)))))) :=
  opens_sl (e := 74) (by kernel_rfl) (by kernel_rfl) (by decide) opens_TypeS
theorem opens_IntS : Opens enc Try.prog w base spare held 62 (fun L : List Int => [A.sl 1 cInt L]) (fun L => (∀ a ∈ L, isI a)) :=
  opens_sl (f := cInt) (e := 3) (by kernel_rfl) (by kernel_rfl) (by decide) (opens_int (t := 3) (by kernel_rfl))
theorem opens_Heap : Opens enc Try.prog w base spare held 64 cHeap (fun t => ((∀ a ∈ t.words, isI a) ∧ isI t.old ∧ isI t.oldAt ∧ isI t.youngAt ∧ (∀ a ∈ t.log, isI a))) :=
  opens_struct' (L := [(62, 0, 1), (3, 1, 1), (3, 2, 1), (3, 3, 1), (62, 4, 1)]) (N := 5) (by kernel_rfl) (by kernel_rfl) (by kernel_rfl) fun n cs hl h => by
    match cs, hl with
    | [a0, a1, a2, a3, a4], _ =>
      obtain ⟨x0, h0⟩ := h 0 _ rfl
      obtain ⟨x1, h1⟩ := h 1 _ rfl
      obtain ⟨x2, h2⟩ := h 2 _ rfl
      obtain ⟨x3, h3⟩ := h 3 _ rfl
      obtain ⟨x4, h4⟩ := h 4 _ rfl
      obtain ⟨y0, p0, g0⟩ := opens_IntS n [a0] x0 h0
      obtain ⟨y1, p1, g1⟩ := (opens_int (t := 3) (by kernel_rfl)) n [a1] x1 h1
      obtain ⟨y2, p2, g2⟩ := (opens_int (t := 3) (by kernel_rfl)) n [a2] x2 h2
      obtain ⟨y3, p3, g3⟩ := (opens_int (t := 3) (by kernel_rfl)) n [a3] x3 h3
      obtain ⟨y4, p4, g4⟩ := opens_IntS n [a4] x4 h4
      exact ⟨⟨y0, y1, y2, y3, y4⟩, ⟨p0.1, p1.1, p2.1, p3.1, p4.1, trivial⟩, g0, g1, g2, g3, g4⟩
theorem opens_Val : Opens enc Try.prog w base spare held 25 cVal (fun t => (isI t.kind ∧ isI t.n)) :=
  opens_struct' (L := [(3, 0, 1), (3, 1, 1)]) (N := 2) (by kernel_rfl) (by kernel_rfl) (by kernel_rfl) fun n cs hl h => by
    match cs, hl with
    | [a0, a1], _ =>
      obtain ⟨x0, h0⟩ := h 0 _ rfl
      obtain ⟨x1, h1⟩ := h 1 _ rfl
      obtain ⟨y0, p0, g0⟩ := (opens_int (t := 3) (by kernel_rfl)) n [a0] x0 h0
      obtain ⟨y1, p1, g1⟩ := (opens_int (t := 3) (by kernel_rfl)) n [a1] x1 h1
      exact ⟨⟨y0, y1⟩, ⟨p0.1, p1.1, trivial⟩, g0, g1⟩
end
theorem own : ownKnob Try.prog.godebug = none := by kernel_rfl
theorem laidOut : laidOutB Try.prog = true := by kernel_rfl
end Go.Proofs.Ytfjggobjijeniaa.RHeapFits
namespace Go.Proofs.Ytfjggobjijeniaa
open Go Go.RowKit Go.L Go.ChangeShapes Go.WideShapes Go.ChangeAt RHeapFits
set_option maxRecDepth 100000 in
theorem f8_lifted (os : Os) (started : os.Started) (H : Type) (enc : TypeId × Value → H) :
    ReturnsInHanded {} Try.checked os 8 .any (Rows.fnExactHeapFitsSpec.pre6 enc Try.prog Try.f8 Rows.fnExactHeapFitsRow.domain false) (Rows.fnExactHeapFitsSpec.post enc Try.prog Try.f8 false true false false) := by
  refine returnsInHanded_of_change (C := Try.checked) RHeapFits.own started (by kernel_rfl) Try.func8
    (ChangeSpec.witness6 (enc := enc) (C := Try.checked) false ⟨#[], #[.slice none 0 0, .agg #[.slice none 0 0, .int .i64 0, .int .i64 0, .int .i64 0, .slice none 0 0], .agg #[.int .i64 0, .int .i64 0], .agg #[.int .i64 0, .int .i64 0, .bool false]], []⟩ 8 (by kernel_rfl) (by kernel_rfl) (by kernel_rfl) (by kernel_rfl)) ?_
  intro W base args ds gs before hval0 hW hcnd _
  have hval : ∀ (j : Nat) t v, Try.f8.params.toList[j]? = some t → args[j]? = some v → Value.okWide Try.prog W .any base t v := fun j t v h => hval0 j t v (by simpa using h)
  have hW' := hW
  obtain ⟨p, q, hA0, hV, rfl, hfz, hnd⟩ := hW
  have hA : DataW.TrodAll enc Try.prog W 0 (fun _ => true) true Try.f8.params.toList args.toList ds p := hA0
  have hps : Try.f8.params.toList = [22, 64, 25, 27] := by kernel_rfl
  rw [hps] at hA hval
  obtain ⟨v0, v1, v2, v3, d0, d1, d2, d3, p0, p1, p2, p3, rfl, rfl, rfl, h0, h1, h2, h3⟩ := trodAll4 hA
  obtain ⟨rfl, rfl⟩ := trodVars_none hV
  obtain ⟨G, k0, g0⟩ := opens_one opens_TypeSS (okWide_slice (P := Try.prog) (t := 22) (e := 74) (by kernel_rfl) (hval 0 22 v0 rfl rfl)) h0
  obtain ⟨h, k1, g1⟩ := opens_agg opens_Heap (okWide_agg (P := Try.prog) (t := 64) (by kernel_rfl) (hval 1 64 v1 rfl rfl)) h1
  obtain ⟨v, k2, g2⟩ := opens_agg opens_Val (okWide_agg (P := Try.prog) (t := 25) (by kernel_rfl) (hval 2 25 v2 rfl rfl)) h2
  obtain ⟨f, k3, g3⟩ := opens_agg opens_Field (okWide_agg (P := Try.prog) (t := 27) (by kernel_rfl) (hval 3 27 v3 rfl rfl)) h3
  refine (law_HeapFits G (fun g hg t ht => ⟨(g0 g hg t ht).2.1.2, fun f hf => ((g0 g hg t ht).2.2.2 f hf).2.1.2⟩) h ⟨g1.2.1, g1.1⟩ v g2.2 f (Rho.all W) W [v0, v1, v2, v3] (Rho.all_ok W) ⟨k0, k1, k2, k3, trivial⟩).mono fun e W' he => ?_
  obtain ⟨v, s, rfl, hg, hv⟩ := he
  have hv : v = .bool true := hv
  subst hv
  exact ⟨_, rfl, post_law (tb := 4) RHeapFits.laidOut (by kernel_rfl) rfl rfl (by kernel_rfl) (by kernel_rfl) hW' hg.below⟩
theorem f8_holds : Rows.FnExactHeapFitsSaid :=
  OpenClaim.holds_of_wide 8 Try.f8 rfl rfl rfl rfl rfl rfl rfl ⟨rfl, rfl, rfl, rfl, rfl⟩ rfl rfl rfl rfl rfl (by kernel_rfl) Try.func8 (by kernel_rfl)
    (of_decide_eq_true (by kernel_rfl)) (by unfold Func.isWrapper; rw [if_neg (by decide +kernel)]; exact ⟨rfl, rfl⟩)
    (fun os started H enc _ => f8_lifted os started H enc)
end Go.Proofs.Ytfjggobjijeniaa
