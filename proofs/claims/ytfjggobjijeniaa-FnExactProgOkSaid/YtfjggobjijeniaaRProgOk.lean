/- The law FnExactProgOk returns true and leaves its arguments as they were, for all arguments; no further condition. -/
import Derived.Test.YtfjggobjijeniaaRow2
import Derived.Test.YtfjggobjijeniaaA17
/-! The row of FnExactProgOk. -/
namespace Go.Proofs.Ytfjggobjijeniaa.RProgOk
open Go Go.RowKit Go.L Go.ChangeShapes Go.WideShapes Go.ChangeAt
section
variable {H : Type} {enc : TypeId × Value → H} {w : World} {base : Nat} {spare : Nat → Bool} {held : Bool}
theorem opens_Field : Opens enc Try.prog w base spare held 27 cFld (fun t => (isI t.kind ∧ isI t.of ∧ True)) :=
  opens_struct' (L := [(3, 0, 1), (3, 1, 1), (4, 2, 1)]) (N := 3) (by kernel_rfl) (by kernel_rfl) (by kernel_rfl) fun n cs hl h => by
    match cs, hl with
    | [a0, a1, a2], _ =>
      obtain ⟨x0, h0⟩ := h 0 _ rfl
      obtain ⟨x1, h1⟩ := h 1 _ rfl
      obtain ⟨x2, h2⟩ := h 2 _ rfl
      obtain ⟨y0, p0, g0⟩ := (opens_int (t := 3) (by kernel_rfl)) n [a0] x0 h0
      obtain ⟨y1, p1, g1⟩ := (opens_int (t := 3) (by kernel_rfl)) n [a1] x1 h1
      obtain ⟨y2, p2, g2⟩ := (opens_bool (t := 4) (by kernel_rfl)) n [a2] x2 h2
      exact ⟨⟨y0, y1, y2⟩, ⟨p0.1, p1.1, p2.1, trivial⟩, g0, g1, g2⟩
theorem opens_FieldS : Opens enc Try.prog w base spare held 44 (fun L : (List Fld) => [A.sl 3 cFld L]) (fun L => (∀ a ∈ L, (isI a.kind ∧ isI a.of ∧ True))) :=
  opens_sl (e := 27) (by kernel_rfl) (by kernel_rfl) (by decide) opens_Field
theorem opens_Type : Opens enc Try.prog w base spare held 142 cTy (fun t => (isI t.kind ∧ isI t.up ∧ True ∧ (∀ a ∈ t.fields, (isI a.kind ∧ isI a.of ∧ True)))) :=
  opens_struct' (L := [(3, 0, 1), (3, 1, 1), (4, 2, 1), (44, 3, 1)]) (N := 4) (by kernel_rfl) (by kernel_rfl) (by kernel_rfl) fun n cs hl h => by
    match cs, hl with
    | [a0, a1, a2, a3], _ =>
      obtain ⟨x0, h0⟩ := h 0 _ rfl
      obtain ⟨x1, h1⟩ := h 1 _ rfl
      obtain ⟨x2, h2⟩ := h 2 _ rfl
      obtain ⟨x3, h3⟩ := h 3 _ rfl
      obtain ⟨y0, p0, g0⟩ := (opens_int (t := 3) (by kernel_rfl)) n [a0] x0 h0
      obtain ⟨y1, p1, g1⟩ := (opens_int (t := 3) (by kernel_rfl)) n [a1] x1 h1
      obtain ⟨y2, p2, g2⟩ := (opens_bool (t := 4) (by kernel_rfl)) n [a2] x2 h2
      obtain ⟨y3, p3, g3⟩ := opens_FieldS n [a3] x3 h3
      exact ⟨⟨y0, y1, y2, y3⟩, ⟨p0.1, p1.1, p2.1, p3.1, trivial⟩, g0, g1, g2, g3⟩
theorem opens_TypeS : Opens enc Try.prog w base spare held 74 (fun L : (List Ty) => [A.sl 4 cTy L]) (fun L => (∀ a ∈ L, (isI a.kind ∧ isI a.up ∧ True ∧ (∀ b ∈ a.fields, (isI b.kind ∧ isI b.of ∧ True))))) :=
  opens_sl (e := 142) (by kernel_rfl) (by kernel_rfl) (by decide) opens_Type
theorem opens_TypeSS : Opens enc Try.prog w base spare held 22 (fun L : (List (List Ty)) => [A.sl 1 cGrp L]) (fun L => (∀ a ∈ L, (∀ b ∈ a, (isI b.kind ∧ isI b.up ∧ True ∧ (∀ c ∈ b.fields, (isI c.kind ∧ isI c.of ∧ True)))))) :=
  opens_sl (e := 74) (by kernel_rfl) (by kernel_rfl) (by decide) opens_TypeS
theorem opens_Ins : Opens enc Try.prog w base spare held 238 cIns (fun t => (isI t.op ∧ isI t.a ∧ isI t.b)) :=
  opens_struct' (L := [(3, 0, 1), (3, 1, 1), (3, 2, 1)]) (N := 3) (by kernel_rfl) (by kernel_rfl) (by kernel_rfl) fun n cs hl h => by
    match cs, hl with
    | [a0, a1, a2], _ =>
      obtain ⟨x0, h0⟩ := h 0 _ rfl
      obtain ⟨x1, h1⟩ := h 1 _ rfl
      obtain ⟨x2, h2⟩ := h 2 _ rfl
      obtain ⟨y0, p0, g0⟩ := (opens_int (t := 3) (by kernel_rfl)) n [a0] x0 h0
      obtain ⟨y1, p1, g1⟩ := (opens_int (t := 3) (by kernel_rfl)) n [a1] x1 h1
      obtain ⟨y2, p2, g2⟩ := (opens_int (t := 3) (by kernel_rfl)) n [a2] x2 h2
      exact ⟨⟨y0, y1, y2⟩, ⟨p0.1, p1.1, p2.1, trivial⟩, g0, g1, g2⟩
theorem opens_InsS : Opens enc Try.prog w base spare held 166 (fun L : (List Isn) => [A.sl 3 cIns L]) (fun L => (∀ a ∈ L, (isI a.op ∧ isI a.a ∧ isI a.b))) :=
  opens_sl (e := 238) (by kernel_rfl) (by kernel_rfl) (by decide) opens_Ins
theorem opens_Fun : Opens enc Try.prog w base spare held 168 cFun (fun t => ((∀ a ∈ t.takes, (isI a.kind ∧ isI a.of ∧ True)) ∧ (isI t.gives.kind ∧ isI t.gives.of ∧ True) ∧ (∀ a ∈ t.own, (isI a.kind ∧ isI a.of ∧ True)) ∧ (∀ a ∈ t.body, (isI a.op ∧ isI a.a ∧ isI a.b)))) :=
  opens_struct' (L := [(44, 0, 1), (27, 1, 3), (44, 4, 1), (166, 5, 1)]) (N := 6) (by kernel_rfl) (by kernel_rfl) (by kernel_rfl) fun n cs hl h => by
    match cs, hl with
    | [a0, a1, a2, a3, a4, a5], _ =>
      obtain ⟨x0, h0⟩ := h 0 _ rfl
      obtain ⟨x1, h1⟩ := h 1 _ rfl
      obtain ⟨x2, h2⟩ := h 2 _ rfl
      obtain ⟨x3, h3⟩ := h 3 _ rfl
      obtain ⟨y0, p0, g0⟩ := opens_FieldS n [a0] x0 h0
      obtain ⟨y1, p1, g1⟩ := opens_Field n [a1, a2, a3] x1 h1
      obtain ⟨y2, p2, g2⟩ := opens_FieldS n [a4] x2 h2
      obtain ⟨y3, p3, g3⟩ := opens_InsS n [a5] x3 h3
      exact ⟨⟨y0, y1, y2, y3⟩, ⟨p0.1, p1.1, p1.2.1, p1.2.2.1, p2.1, p3.1, trivial⟩, g0, g1, g2, g3⟩
theorem opens_FunS : Opens enc Try.prog w base spare held 45 (fun L : (List Fnc) => [A.sl 6 cFun L]) (fun L => (∀ a ∈ L, ((∀ b ∈ a.takes, (isI b.kind ∧ isI b.of ∧ True)) ∧ (isI a.gives.kind ∧ isI a.gives.of ∧ True) ∧ (∀ b ∈ a.own, (isI b.kind ∧ isI b.of ∧ True)) ∧ (∀ b ∈ a.body, (isI b.op ∧ isI b.a ∧ isI b.b))))) :=
  opens_sl (e := 168) (by kernel_rfl) (by kernel_rfl) (by decide) opens_Fun
theorem opens_Prog : Opens enc Try.prog w base spare held 47 cProg (fun t => ((∀ a ∈ t.types, (∀ b ∈ a, (isI b.kind ∧ isI b.up ∧ True ∧ (∀ c ∈ b.fields, (isI c.kind ∧ isI c.of ∧ True))))) ∧ (∀ a ∈ t.glob, (isI a.kind ∧ isI a.of ∧ True)) ∧ (∀ a ∈ t.funs, ((∀ b ∈ a.takes, (isI b.kind ∧ isI b.of ∧ True)) ∧ (isI a.gives.kind ∧ isI a.gives.of ∧ True) ∧ (∀ b ∈ a.own, (isI b.kind ∧ isI b.of ∧ True)) ∧ (∀ b ∈ a.body, (isI b.op ∧ isI b.a ∧ isI b.b)))))) :=
  opens_struct' (L := [(22, 0, 1), (44, 1, 1), (45, 2, 1)]) (N := 3) (by kernel_rfl) (by kernel_rfl) (by kernel_rfl) fun n cs hl h => by
    match cs, hl with
    | [a0, a1, a2], _ =>
      obtain ⟨x0, h0⟩ := h 0 _ rfl
      obtain ⟨x1, h1⟩ := h 1 _ rfl
      obtain ⟨x2, h2⟩ := h 2 _ rfl
      obtain ⟨y0, p0, g0⟩ := opens_TypeSS n [a0] x0 h0
      obtain ⟨y1, p1, g1⟩ := opens_FieldS n [a1] x1 h1
      obtain ⟨y2, p2, g2⟩ := opens_FunS n [a2] x2 h2
      exact ⟨⟨y0, y1, y2⟩, ⟨p0.1, p1.1, p2.1, trivial⟩, g0, g1, g2⟩
end
theorem own : ownKnob Try.prog.godebug = none := by kernel_rfl
theorem laidOut : laidOutB Try.prog = true := by kernel_rfl
end Go.Proofs.Ytfjggobjijeniaa.RProgOk
namespace Go.Proofs.Ytfjggobjijeniaa
open Go Go.RowKit Go.L Go.ChangeShapes Go.WideShapes Go.ChangeAt RProgOk
set_option maxRecDepth 100000 in
theorem f5_lifted (os : Os) (started : os.Started) (H : Type) (enc : TypeId × Value → H) :
    ReturnsInHanded {} Try.checked os 5 .any (Rows.fnExactProgOkSpec.pre6 enc Try.prog Try.f5 Rows.fnExactProgOkRow.domain false) (Rows.fnExactProgOkSpec.post enc Try.prog Try.f5 false true false false) := by
  refine returnsInHanded_of_change (C := Try.checked) RProgOk.own started (by kernel_rfl) Try.func5
    (ChangeSpec.witness6 (enc := enc) (C := Try.checked) false ⟨#[], #[.agg #[.slice none 0 0, .slice none 0 0, .slice none 0 0]], []⟩ 8 (by kernel_rfl) (by kernel_rfl) (by kernel_rfl) (by kernel_rfl)) ?_
  intro W base args ds gs before hval0 hW hcnd _
  have hval : ∀ (j : Nat) t v, Try.f5.params.toList[j]? = some t → args[j]? = some v → Value.okWide Try.prog W .any base t v := fun j t v h => hval0 j t v (by simpa using h)
  have hW' := hW
  obtain ⟨p, q, hA0, hV, rfl, hfz, hnd⟩ := hW
  have hA : DataW.TrodAll enc Try.prog W 0 (fun _ => true) true Try.f5.params.toList args.toList ds p := hA0
  have hps : Try.f5.params.toList = [47] := by kernel_rfl
  rw [hps] at hA hval
  obtain ⟨v0, d0, rfl, rfl, h0⟩ := trodAll_one hA
  obtain ⟨rfl, rfl⟩ := trodVars_none hV
  obtain ⟨p, k0, g0⟩ := opens_agg opens_Prog (okWide_agg (P := Try.prog) (t := 47) (by kernel_rfl) (hval 0 47 v0 rfl rfl)) h0
  refine (law_ProgOk p (fun g hg t ht => ⟨((g0.1) g hg t ht).2.1.2, fun f hf => (((g0.1) g hg t ht).2.2.2 f hf).2.1.2⟩) (Rho.all W) W [v0] (Rho.all_ok W) ⟨k0, trivial⟩).mono fun e W' he => ?_
  obtain ⟨v, s, rfl, hg, hv⟩ := he
  have hv : v = .bool true := hv
  subst hv
  exact ⟨_, rfl, post_law (tb := 4) RProgOk.laidOut (by kernel_rfl) rfl rfl (by kernel_rfl) (by kernel_rfl) hW' hg.below⟩
theorem f5_holds : Rows.FnExactProgOkSaid :=
  OpenClaim.holds_of_wide 5 Try.f5 rfl rfl rfl rfl rfl rfl rfl ⟨rfl, rfl, rfl, rfl, rfl⟩ rfl rfl rfl rfl rfl (by kernel_rfl) Try.func5 (by kernel_rfl)
    (of_decide_eq_true (by kernel_rfl)) (by unfold Func.isWrapper; rw [if_neg (by decide +kernel)]; exact ⟨rfl, rfl⟩)
    (fun os started H enc _ => f5_lifted os started H enc)
end Go.Proofs.Ytfjggobjijeniaa
