import Derived.Test.YtfjggobjijeniaaWalk2
import Derived.ProofKit
/-! Arguments opened as assertions over the ghost heap of all cells; a law's end. -/
namespace Go.L
open Go Go.RowKit Go.ChangeShapes Go.WideShapes Go.ChangeAt
/-- All cells. -/
def Rho.all (w : World) : Rho := fun a => if a.spot = none then gc w.heap[a.block]? a else none
theorem Rho.all_ok (w : World) : (Rho.all w).ok w := fun a v h => by
  unfold Rho.all at h
  split at h
  · exact h
  · cases h
theorem Rho.all_cell {w : World} {a : Addr} {v : Value} (h : w.cell? a = some v) : a.spot = none ∧ Rho.all w a = some v := by
  unfold World.cell? at h
  unfold Rho.all gc
  split at h
  · rename_i c ty fr hb
    split at h
    · cases h
    · rename_i hs
      have hs : a.spot = none := by simpa using hs
      exact ⟨hs, by rw [if_pos hs, hs, hb]; exact h⟩
  · cases h
theorem mapM_get {S T : Type} {f : S → Option T} : ∀ {l : List S} {ys : List T}, l.mapM f = some ys → ys.length = l.length ∧ ∀ (i : Nat) x, l[i]? = some x → f x = ys[i]?
  | [], ys, h => by
    simp at h; subst h; simp
  | x :: l, ys, h => by
    rw [List.mapM_cons] at h
    cases hx : f x with
    | none => rw [hx] at h; cases h
    | some y =>
      cases hl : l.mapM f with
      | none => rw [hx, hl] at h; cases h
      | some zs =>
        rw [hx, hl] at h
        have h : ys = y :: zs := (Option.some.inj h).symm
        subst h
        obtain ⟨h1, h2⟩ := mapM_get hl
        refine ⟨by simp [h1], fun i z hi => ?_⟩
        cases i with
        | zero => simp at hi; subst hi; simpa using hx
        | succ i => simpa using h2 i z (by simpa using hi)
theorem cells_all {w : World} {base n : Nat} {a : Addr} {cs : List Value} (h : w.cells? base a n = some cs) (hn : 0 < n) : a.spot = none ∧ cs.length = n ∧ ∀ (i : Nat) c, cs[i]? = some c → Rho.all w ⟨a.block, a.off + i, none⟩ = some c := by
  unfold World.cells? at h
  split at h
  · obtain ⟨h1, h2⟩ := mapM_get h
    have hl : cs.length = n := by simpa using h1
    have key : ∀ i c, cs[i]? = some c → w.cell? (a.add i) = some c := fun i c hi => by
      have hin : i < n := by rw [← hl]; exact (List.getElem?_eq_some_iff.1 hi).1
      rw [h2 i i (by simp [hin])]; exact hi
    have h0 : a.spot = none := by
      have : ∃ c, cs[0]? = some c := ⟨cs[0]'(by omega), List.getElem?_eq_getElem _⟩
      obtain ⟨c, hc⟩ := this
      exact (Rho.all_cell (key 0 c hc)).1
    refine ⟨h0, hl, fun i c hi => ?_⟩
    have := (Rho.all_cell (key i c hi)).2
    unfold Addr.add at this
    split at this
    · rename_i q
      subst q
      cases a
      simp at h0
      subst h0
      exact this
    · exact this
  · cases h
section
variable {H : Type} {enc : TypeId × Value → H} {P : Program} {w : World} {base : Nat} {spare : Nat → Bool} {held : Bool} {t : TypeId}
abbrev Opens (enc : TypeId × Value → H) (P : Program) (w : World) (base : Nat) (spare : Nat → Bool) (held : Bool) (t : TypeId) {S : Type} (f : S → List A) (good : S → Prop) : Prop :=
  ∀ (n : Nat) (cs : List Value) (x : DataW H × List MemPlace), DataW.trod enc P w base spare held n t cs = some x → ∃ y, All2 (Rho.all w) (f y) cs ∧ good y
def isI (n : Int) : Prop := -9223372036854775808 ≤ n ∧ n ≤ 9223372036854775807
theorem opens_int (ht : P.underlying t = some (.int .i64)) : Opens enc P w base spare held t (fun n : Int => [A.int n]) isI := fun n cs x h => by
  obtain ⟨m, rfl, _, hw⟩ := DataW.trod_int ht h
  refine ⟨m, ⟨rfl, trivial⟩, ?_⟩
  simp only [Lit.wf, Bool.and_eq_true, decide_eq_true_eq] at hw
  exact ⟨hw.1, hw.2⟩
theorem opens_bool (ht : P.underlying t = some .bool) : Opens enc P w base spare held t (fun b : Bool => [A.bool b]) (fun _ => True) := fun n cs x h => by
  cases n with
  | zero => simp [DataW.trod] at h
  | succ n =>
    unfold DataW.trod at h
    rw [ht] at h
    split at h <;> simp_all
    rename_i b
    cases b
    · exact .inl ⟨rfl, trivial⟩
    · exact .inr ⟨rfl, trivial⟩
theorem opens_sl {S : Type} {f : S → List A} {good : S → Prop} {e : TypeId} {k : Nat} (ht : P.underlying t = some (.slice e)) (hk : P.cellsOf e = k) (h0 : 0 < k) (he : Opens enc P w base spare held e f good) :
    Opens enc P w base spare held t (fun L : List S => [A.sl k f L]) (fun L => ∀ y ∈ L, good y) := fun n cs x h => by
  rcases DataW.trod_slice ht h with ⟨rfl, _⟩ | ⟨a, len, cap, elems, rest, m, _, rfl, _, _, h2, h3, h4, h5, _⟩
  · exact ⟨[], ⟨⟨none, 0, 0, rfl, rfl, Nat.le_refl _, Nat.zero_le _, fun hn => absurd rfl hn⟩, trivial⟩, by simp⟩
  · have key : ∀ i : _root_.Fin len, ∃ y, ∃ ds, w.cells? base (a.add (i.1 * k)) k = some ds ∧ All2 (Rho.all w) (f y) ds ∧ good y := fun i => by
      have := h5 i.1 i.2
      rw [hk] at this
      cases hc : w.cells? base (a.add (i.1 * k)) k with
      | none => rw [hc] at this; simp at this; have := i.2; omega
      | some ds =>
        rw [hc] at this
        have hlt : i.1 < elems.length := by rw [h4]; exact i.2
        rw [List.getElem?_eq_getElem hlt] at this
        obtain ⟨y, q1, q2⟩ := he m ds _ this
        exact ⟨y, ds, rfl, q1, q2⟩
    let L : List S := List.ofFn fun i : _root_.Fin len => Classical.choose (key i)
    have hLl : L.length = len := by simp [L]
    have hL : ∀ i y, L[i]? = some y → ∃ ds, w.cells? base (a.add (i * k)) k = some ds ∧ All2 (Rho.all w) (f y) ds ∧ good y := fun i y hi => by
      have hlt : i < len := by rw [← hLl]; exact (List.getElem?_eq_some_iff.1 hi).1
      have : y = Classical.choose (key ⟨i, hlt⟩) := by
        simp [L, hlt] at hi
        exact hi.symm
      rw [this]
      exact Classical.choose_spec (key ⟨i, hlt⟩)
    refine ⟨L, ⟨⟨some a, len, cap, rfl, hLl.symm, h2, h3, fun hn => ?_⟩, trivial⟩, fun y hy => ?_⟩
    · have hsp : a.spot = none := by
        have hpos : 0 < L.length := List.length_pos_iff.2 hn
        obtain ⟨ds, q1, _, _⟩ := hL 0 L[0] (List.getElem?_eq_getElem hpos)
        have := (cells_all q1 h0).1
        rwa [Nat.zero_mul] at this
      refine ⟨a.block, a.off, by cases a; simp at hsp; subst hsp; rfl, fun i y hy j c hj => ?_⟩
      obtain ⟨ds, q1, q2, _⟩ := hL i y hy
      obtain ⟨_, c2, c3⟩ := cells_all q1 h0
      obtain ⟨v, hv, hp⟩ := q2.get j c hj
      refine ⟨v, ?_, hp⟩
      have := c3 j v hv
      unfold Addr.add at this
      split at this
      · rename_i q; rw [q, Nat.add_zero]; exact this
      · exact this
    · obtain ⟨i, hi, rfl⟩ := List.getElem_of_mem hy
      obtain ⟨_, _, _, q⟩ := hL i _ (List.getElem?_eq_getElem hi)
      exact q
/-- A struct, field by field. -/
theorem opens_struct {fs : Array Field} {S : Type} {f : S → List A} {good : S → Prop} (ht : P.underlying t = some (.struct fs))
    (he : ∀ (n : Nat) (cs : List Value), cs.length = P.cellsOf t → (∀ (i : Nat) (g : Field), fs[i]? = some g → ∃ x, DataW.trod enc P w base spare held n g.type ((cs.drop g.offset).take (P.cellsOf g.type)) = some x) → ∃ y, All2 (Rho.all w) (f y) cs ∧ good y) :
    Opens enc P w base spare held t f good := fun n cs x h => by
  obtain ⟨xs, m, _, _, hl, hlen, hf⟩ := DataW.trod_struct ht h
  refine he m cs hl fun i g hg => ?_
  have hi : i < fs.size := (Array.getElem?_eq_some_iff.1 hg).1
  exact ⟨xs[i]'(by omega), by rw [hf i g hg, List.getElem?_eq_getElem (by omega)]⟩
def fieldsAt (P : Program) (t : TypeId) : List (TypeId × Nat × Nat) := match P.underlying t with
  | some (.struct fs) => fs.toList.map fun g => (g.type, g.offset, P.cellsOf g.type)
  | _ => []
theorem opens_struct' {S : Type} {f : S → List A} {good : S → Prop} {L : List (TypeId × Nat × Nat)} {N : Nat} (hs : (match P.underlying t with | some (.struct _) => true | _ => false) = true) (hL : fieldsAt P t = L) (hN : P.cellsOf t = N)
    (he : ∀ (n : Nat) (cs : List Value), cs.length = N → (∀ (i : Nat) (g : TypeId × Nat × Nat), L[i]? = some g → ∃ x, DataW.trod enc P w base spare held n g.1 ((cs.drop g.2.1).take g.2.2) = some x) → ∃ y, All2 (Rho.all w) (f y) cs ∧ good y) :
    Opens enc P w base spare held t f good := by
  cases hu : P.underlying t with
  | none => rw [hu] at hs; cases hs
  | some d =>
    cases d with
    | struct fs =>
      refine opens_struct hu fun n cs hl h => he n cs (hl.trans hN) fun i g hg => ?_
      unfold fieldsAt at hL
      rw [hu] at hL
      rw [← hL, List.getElem?_map] at hg
      cases hfi : fs.toList[i]? with
      | none => rw [hfi] at hg; cases hg
      | some gf =>
        rw [hfi] at hg
        have hg : (gf.type, gf.offset, P.cellsOf gf.type) = g := Option.some.inj hg
        subst hg
        exact h i gf (by simpa using hfi)
    | _ => rw [hu] at hs; cases hs
theorem opens_one {S : Type} {f : S → A} {good : S → Prop} (ho : Opens enc P w base spare held t (fun y => [f y]) good) {v : Value} {d : DataW H} {p : List MemPlace} (hv : v.cells.toList = [v]) (h : DataW.Trod enc P w base spare held t v d p) :
    ∃ y, (f y).p (Rho.all w) v ∧ good y := by
  obtain ⟨n, hn⟩ := h
  rw [hv] at hn
  obtain ⟨y, ⟨h1, _⟩, h2⟩ := ho n _ _ hn
  exact ⟨y, h1, h2⟩
end
/-- A law's end: true; the arguments read as they did. -/
theorem post_law {H : Type} {enc : TypeId × Value → H} {P : Program} {f : Func} {s : ChangeSpec} {apart fresh handsOn again : Bool} {W W' : World} {args : Array Value} {ds gs : List (DataW H)} {before : List MemPlace} {tb : TypeId}
    (hl : laidOutB P = true) (hrd : f.params.toList.all (fun t => P.readableRec t && decide (t < P.types.size)) = true) (hvars : s.vars = []) (hs : s.fn H (ds ++ gs) = { results := [.lit (.bool true)], args := ds }) (hrt : f.resultTypes = #[tb]) (htb : P.underlying tb = some .bool)
    (hW : DataW.Whole enc P f.params.toList s.vars apart W args.toList ds gs before) (hb : Below W.heap.size W W') : s.post enc P f apart fresh handsOn again W args (.bool true) W' := by
  have hWlt : ∀ p ∈ before, p.block < W.heap.size := fun p hp => hW.lt p hp
  obtain ⟨p, q, hA, hV, e, hz, hn⟩ := id hW
  have hgq : gs = [] ∧ q = [] := by rw [hvars] at hV; exact trodVars_none hV
  obtain ⟨rfl, rfl⟩ := hgq
  rw [List.append_nil] at e
  subst e
  have hargs : ∀ sp : Nat → Bool, (∀ x ∈ before, sp x.block = true) → DataW.TrodAll enc P W' 0 sp true f.params.toList args.toList ds before := by
    intro sp hsp
    have : ∀ (ts : List TypeId) (vs : List Value) (ds : List (DataW H)) (ps : List MemPlace), ts.all (fun t => P.readableRec t && decide (t < P.types.size)) = true → (∀ x ∈ ps, sp x.block = true) → (∀ x ∈ ps, x.block < W.heap.size) →
        DataW.TrodAll enc P W 0 (fun _ => true) true ts vs ds ps → DataW.TrodAll enc P W' 0 sp true ts vs ds ps := by
      intro ts
      induction ts with
      | nil => intro vs ds ps _ _ _ h; exact (by cases vs <;> cases ds <;> simp_all [DataW.TrodAll])
      | cons t ts ih =>
        intro vs ds ps hr h1 h2 h
        cases vs with
        | nil => exact h.elim
        | cons v vs =>
          cases ds with
          | nil => exact h.elim
          | cons d ds =>
            obtain ⟨a, b, k1, k2, rfl⟩ := h
            rw [List.all_cons, Bool.and_eq_true, Bool.and_eq_true, decide_eq_true_eq] at hr
            refine ⟨a, b, Go.WideElems.Trod_stays hl hr.1.1 hr.1.2 k1 (fun x hx => hb.same (h2 x (by simp [hx]))) (fun x hx => h1 x (by simp [hx])), ih vs ds b hr.2 (fun x hx => h1 x (by simp [hx])) (fun x hx => h2 x (by simp [hx])) k2, rfl⟩
    exact this _ _ _ _ hrd hsp hWlt hA
  have hres : ∀ (b : Nat) (sp : Nat → Bool) (hd : Bool), DataW.TrodAll enc P W' b sp hd f.resultTypes.toList ((Value.bool true).resultList f.resultTypes.size) [.lit (.bool true)] [] := by
    intro b sp hd
    rw [hrt]
    exact trodAll_mk1 (shut_bool htb true)
  have hold : ∀ x ∈ before, (fun b => decide (b < W.heap.size)) x.block = true := fun x hx => by simpa using hWlt x hx
  have hvs : ∀ sp : Nat → Bool, DataW.TrodVars enc P W' sp s.vars (s.fn H (ds ++ [])).vars [] := fun sp => by rw [hs, hvars]; exact (by simp [DataW.TrodVars])
  refine ⟨ds, [], before, [], before, [], hW, by rw [hs]; exact hres _ _ _, by rw [hs]; exact hargs _ hold, hvs _, World.keptBut_mono (fun x hx => ⟨hx, ?_⟩) (hb.frame (· ∈ before)), fun _ => ?_⟩
  · exact Or.inr (Or.inl hx)
  · refine ⟨ok_one hrt rfl (okWide_bool_mk htb true), _, ([] : List (DataW H)), ([] ++ before) ++ [], ⟨[] ++ before, [], trodAll_append (hargs _ (fun _ _ => rfl)) (hres _ _ _), ?_, rfl, ?_, ?_⟩, ?_⟩
    · rw [hvars]; simp [DataW.TrodVars]
    · intro b off hp
      have hp : MemPlace.cell b off ∈ before := by simpa using hp
      rw [hb.frozen (hWlt _ hp)]
      exact hz b off (by simpa using hp)
    · intro ha
      have := hn ha
      simpa using this
    · intro x hx _
      simpa using hx
theorem okWide_slice {P : Program} {w : World} {r : Reach} {base : Nat} {t e : TypeId} {v : Value} (ht : P.underlying t = some (.slice e)) (h : Value.okWide P w r base t v) : v.cells.toList = [v] := by
  unfold Value.okWide at h
  rw [ht] at h
  unfold Cell.okWide at h
  rw [ht] at h
  unfold Cell.ok at h
  rw [ht] at h
  cases v <;> first | rfl | exact h.elim
theorem okWide_int {P : Program} {w : World} {r : Reach} {base : Nat} {t : TypeId} {k : IntKind} {v : Value} (ht : P.underlying t = some (.int k)) (h : Value.okWide P w r base t v) : v.cells.toList = [v] := by
  unfold Value.okWide at h
  rw [ht] at h
  unfold Cell.okWide at h
  rw [ht] at h
  unfold Cell.ok at h
  rw [ht] at h
  cases v <;> first | rfl | exact h.elim
end Go.L
