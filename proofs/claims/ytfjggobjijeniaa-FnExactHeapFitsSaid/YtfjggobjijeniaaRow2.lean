import Derived.Test.YtfjggobjijeniaaRow
/-! Arguments that are structs; more arguments. -/
namespace Go.L
open Go Go.RowKit Go.L Go.ChangeShapes Go.WideShapes Go.ChangeAt
section
variable {H : Type} {enc : TypeId × Value → H} {P : Program} {w : World} {base : Nat} {spare : Nat → Bool} {held : Bool} {t : TypeId}
theorem okWide_agg {r : Reach} {b : Nat} {v : Value} (ht : (match P.underlying t with | some (.struct _) => true | _ => false) = true) (h : Value.okWide P w r b t v) : ∃ cs, v = .agg cs := by
  unfold Value.okWide at h
  split at h
  · exact ⟨_, h.choose_spec.1⟩
  · exact ⟨_, h.choose_spec.1⟩
  · rename_i hu _
    split at ht
    · rename_i hs; exact absurd hs (hu _)
    · cases ht
theorem opens_agg {S : Type} {f : S → List A} {good : S → Prop} (ho : Opens enc P w base spare held t f good) {v : Value} {d : DataW H} {p : List MemPlace} (hv : ∃ cs, v = .agg cs) (h : DataW.Trod enc P w base spare held t v d p) :
    ∃ y, (A.agg (f y)).p (Rho.all w) v ∧ good y := by
  obtain ⟨n, hn⟩ := h
  obtain ⟨cs, rfl⟩ := hv
  obtain ⟨y, h1, h2⟩ := ho n _ _ hn
  exact ⟨y, ⟨cs, rfl, h1⟩, h2⟩
theorem trodAll4 {t t' t'' t3 : TypeId} {args : Array Value} {ds : List (DataW H)} {ps : List MemPlace} (h : DataW.TrodAll enc P w base spare held [t, t', t'', t3] args.toList ds ps) :
    ∃ v v' v'' v3 d d' d'' d3 p p' p'' p3, args = #[v, v', v'', v3] ∧ ds = [d, d', d'', d3] ∧ ps = p ++ p' ++ p'' ++ p3 ∧ DataW.Trod enc P w base spare held t v d p ∧ DataW.Trod enc P w base spare held t' v' d' p' ∧ DataW.Trod enc P w base spare held t'' v'' d'' p'' ∧ DataW.Trod enc P w base spare held t3 v3 d3 p3 := by
  obtain ⟨v, vs, d, ds', p, q, hargs, rfl, rfl, hd, hrest⟩ := trodAll_cons h
  obtain ⟨v', vs', d', ds'', p', q', rfl, rfl, rfl, hd', hrest'⟩ := trodAll_cons hrest
  obtain ⟨v'', vs'', d'', ds3, p'', q'', rfl, rfl, rfl, hd'', hrest''⟩ := trodAll_cons hrest'
  obtain ⟨v3, vs3, d3, ds4, p3, q3, rfl, rfl, rfl, hd3, hrest3⟩ := trodAll_cons hrest''
  obtain ⟨rfl, rfl, rfl⟩ := trodAll_nil hrest3
  exact ⟨v, v', v'', v3, d, d', d'', d3, p, p', p'', p3, by rw [← Array.toArray_toList (xs := args), hargs], rfl, by simp, hd, hd', hd'', hd3⟩
end
end Go.L
