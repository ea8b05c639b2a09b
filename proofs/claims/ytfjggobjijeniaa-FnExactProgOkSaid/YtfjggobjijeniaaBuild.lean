import Derived.Test.YtfjggobjijeniaaMore
/-! Literals: structs, arrays, slices. -/
namespace Go.L
open Go Go.RowKit

theorem zipIdx_over {S : Type} : ∀ (xs : List S) (o s : Nat) (cs : Array S), o + s + xs.length ≤ cs.size →
    ((xs.zipIdx s).foldl (fun cs (c, j) => cs.setIfInBounds (o + j) c) cs).toList = over cs.toList (o + s) xs
  | [], o, s, cs, _ => by simp [over]
  | x :: xs, o, s, cs, h => by
    simp only [List.length_cons] at h
    rw [List.zipIdx_cons, List.foldl_cons]
    simp only
    rw [zipIdx_over xs o (s + 1) _ (by simp; omega), Array.toList_setIfInBounds, ← Nat.add_assoc, over_cons _ _ _ _ (by simp; omega)]

/-- The parts laid over the cells. -/
def fillL : List A → List (Nat × List A) → List A
  | cs, [] => cs
  | cs, (o, l) :: rest => fillL (over cs o l) rest
def fitsL (n : Nat) : List (Nat × List A) → Bool
  | [] => true
  | (o, l) :: rest => Nat.ble (o + l.length) n && fitsL n rest

theorem fill_run {r : Rho} {place : Nat → Option (Nat × Nat)} : ∀ (parts : List (Nat × Value)) (ls : List (Nat × List A)) (cells : Array Value) (cs : List A), All2 r cs cells.toList → fitsL cs.length ls = true →
    parts.length = ls.length → (∀ (i : Nat) p l, parts[i]? = some p → ls[i]? = some l → place p.1 = some (l.1, l.2.length) ∧ All2 r l.2 p.2.cells.toList) →
    ∃ out, Instr.fill place cells parts = some out ∧ All2 r (fillL cs ls) out.toList
  | [], [], cells, cs, h, _, _, _ => ⟨cells, rfl, h⟩
  | (i, v) :: parts, (o, l) :: ls, cells, cs, h, hf, hl, hp => by
    simp only [fitsL, Bool.and_eq_true] at hf
    have hle := Nat.le_of_ble_eq_true hf.1
    obtain ⟨h1, h2⟩ := hp 0 (i, v) (o, l) rfl rfl
    have hlen := h2.length
    have hc := h.length
    simp only [Array.length_toList] at hlen hc
    have hnew : ((v.cells.zipIdx.foldl (fun cs (c, j) => cs.setIfInBounds (o + j) c) cells)).toList = over cells.toList o v.cells.toList := by
      have := zipIdx_over v.cells.toList o 0 cells (by simp; omega)
      rw [← Array.foldl_toList, Array.toList_zipIdx]
      simpa using this
    have hA : All2 r (over cs o l) (v.cells.zipIdx.foldl (fun cs (c, j) => cs.setIfInBounds (o + j) c) cells).toList := by
      rw [hnew]; exact h.over h2 hle
    obtain ⟨out, ho, hq⟩ := fill_run parts ls _ (over cs o l) hA (by rw [over_length hle]; exact hf.2) (by simpa using hl) (fun j p q hj hq => hp (j + 1) p q (by simpa using hj) (by simpa using hq))
    refine ⟨out, ?_, hq⟩
    have e1 : l.length = v.cells.size := hlen
    have hno : ¬ (v.cells.size ≠ l.length ∨ o + v.cells.size > cells.size) := by omega
    have h1' : place i = some (o, l.length) := h1
    unfold Instr.fill
    simp only [h1']
    rw [if_neg (by simpa using hno)]
    exact ho
  | [], _ :: _, _, _, _, _, hl, _ => by simp at hl
  | _ :: _, [], _, _, _, _, hl, _ => by simp at hl

/-- A struct type's places. -/
def placesOf (P : Program) (t : TypeId) : Option (List (Nat × Nat)) :=
  match P.underlying t with
  | some (.struct fs) => fs.toList.mapM fun f => (sizeAt P f.type).map fun s => (f.offset, s)
  | _ => none
/-- A struct type: the zero value's cells, the fields' places. -/
def TB (P : Program) (t : TypeId) (zs : List Value) (pl : List (Nat × Nat)) : Prop := zeroCellsOf P t = some zs ∧ placesOf P t = some pl

theorem run_mapM_places {P : Program} {w : World} : ∀ (fs : List Field) (pl : List (Nat × Nat)), (fs.mapM fun f => (sizeAt P f.type).map fun s => (f.offset, s)) = some pl →
    (fs.mapM fun f => (do pure (f.offset, ← sizeOf f.type) : Sem (Nat × Nat))).run P w = .ok pl w
  | [], pl, h => by simp at h; subst h; simp
  | f :: fs, pl, h => by
    rw [List.mapM_cons] at h
    simp only [Option.bind_eq_bind, Option.bind_eq_some_iff, Option.map_eq_some_iff, Option.pure_def, Option.some.injEq] at h
    obtain ⟨p, ⟨s, hs, rfl⟩, ps, hps, rfl⟩ := h
    rw [List.mapM_cons]
    simp only [Sem.run_bind, run_sizeOf hs, Result.andThen_ok, Sem.run_pure, run_mapM_places fs ps hps]

/-- What the parts are. -/
def partsOk (pl : List (Nat × Nat)) : List (Nat × Operand) → List (A × List A) → Bool
  | [], [] => true
  | (i, _) :: ps, (_, l) :: ls => (match pl[i]? with | some (_, s) => s == l.length | none => false) && partsOk pl ps ls
  | _, _ => false
def partOffs (pl : List (Nat × Nat)) : List (Nat × Operand) → List (A × List A) → List (Nat × List A)
  | (i, _) :: ps, (_, l) :: ls => ((pl[i]?).elim 0 (·.1), l) :: partOffs pl ps ls
  | _, _ => []
def AllCells : List (A × List A) → Prop
  | [] => True
  | (t, l) :: ls => CellsOf t l ∧ AllCells ls

theorem parts_spec {r : Rho} {a : Act} {pl : List (Nat × Nat)} : ∀ {ps : List (Nat × Operand)} {ls : List (A × List A)}, partsOk pl ps ls = true → AllCells ls →
    (∀ z ∈ (ps.zip ls).map (fun z => ((true, z.1.2, z.2.1) : Bool × Operand × A)), z.1 = true → z.2.2.p r (a.eval z.2.1)) →
    ps.length = (partOffs pl ps ls).length ∧ ∀ (i : Nat) p l, (ps.map fun x => (x.1, a.eval x.2))[i]? = some p → (partOffs pl ps ls)[i]? = some l → pl[p.1]? = some (l.1, l.2.length) ∧ All2 r l.2 p.2.cells.toList
  | [], [], _, _, _ => ⟨rfl, by simp⟩
  | (i, x) :: ps, (t, l) :: ls, h, hc, hn => by
    simp only [partsOk, Bool.and_eq_true] at h
    obtain ⟨h1, h2⟩ := h
    have ih := parts_spec h2 hc.2 (fun z hz => hn z (by simp only [List.zip_cons_cons, List.map_cons]; exact List.mem_cons_of_mem _ hz))
    have hx : t.p r (a.eval x) := hn (true, x, t) (by simp) rfl
    refine ⟨by simp [partOffs, ih.1], ?_⟩
    intro j p q hj hq
    cases j with
    | zero =>
      simp [partOffs] at hj hq
      subst hj; subst hq
      cases hp : pl[i]? with
      | none => simp [hp] at h1
      | some y =>
        obtain ⟨o, s⟩ := y
        simp [hp] at h1
        subst h1
        exact ⟨by simp, (hc.1 r _ hx).1⟩
    | succ j => exact ih.2 j p q (by simpa using hj) (by simpa [partOffs] using hq)
  | [], _ :: _, h, _, _ => by cases h
  | _ :: _, [], h, _, _ => by cases h

section
variable {P : Program} {own : OC} {ty T : TypeId}
theorem O_build {zs : List Value} {pl : List (Nat × Nat)} {ps : List (Nat × Operand)} (ls : List (A × List A)) (h : TB P T zs pl) (hp : partsOk pl ps ls = true) (hc : AllCells ls)
    (hf : fitsL zs.length (partOffs pl ps ls) = true) :
    OpN P own ((ps.zip ls).map fun z => (true, z.1.2, z.2.1)) (.build T ps.toArray) ty (A.agg (fillL (zs.map A.val) (partOffs pl ps ls))) := fun r w a hok _ hn => by
  obtain ⟨z, hzc, hzr⟩ := TZ.run h.1
  obtain ⟨hl, hq⟩ := parts_spec hp hc hn
  obtain ⟨fs, hu, hm⟩ : ∃ fs, P.underlying T = some (.struct fs) ∧ (fs.toList.mapM fun f => (sizeAt P f.type).map fun s => (f.offset, s)) = some pl := by
    have h2 := h.2
    unfold placesOf at h2
    split at h2
    · rename_i fs e; exact ⟨fs, e, h2⟩
    · cases h2
  obtain ⟨out, ho, hout⟩ := fill_run (r := r) (place := fun i : Nat => pl[i]?) (ps.map fun x => (x.1, a.eval x.2)) (partOffs pl ps ls) z.cells (zs.map A.val) (by rw [hzc]; exact All2.vals zs) (by simpa using hf) (by simpa using hl) hq
  have hmap : (fs.mapM fun f => (do pure (f.offset, ← sizeOf f.type) : Sem (Nat × Nat))).run P w = .ok pl.toArray w := by
    rw [Array.mapM_eq_mapM_toList, Sem.run_map]
    rw [run_mapM_places _ _ hm]
    rfl
  have ho' : Instr.fill (fun i : Nat => pl.toArray[i]?) z.cells ((ps.toArray.map fun x => (x.1, a.eval x.2)).toList) = some out := by
    have e1 : (fun i : Nat => pl.toArray[i]?) = fun i : Nat => pl[i]? := by funext i; simp
    rw [e1]; simpa using ho
  have : (exec a (.build T ps.toArray) ty).run P w = .ok (.value (.agg out)) w := by
    simp only [exec, execOp, Sem.run_bind, Instr.build, hzr, Result.andThen_ok, run_underlying hu, hmap]
    simp only [ho', Sem.run_pure, Result.andThen_ok]
  rw [this]
  exact Good.here hok ⟨out, rfl, hout⟩

theorem fill_place {place place' : Nat → Option (Nat × Nat)} {out : Array Value} : ∀ (parts : List (Nat × Value)) (cells : Array Value), (∀ p ∈ parts, place p.1 = place' p.1) → Instr.fill place cells parts = some out → Instr.fill place' cells parts = some out
  | [], _, _, h => h
  | (i, v) :: parts, cells, hp, h => by
    have e := hp (i, v) (by simp)
    simp only at e
    unfold Instr.fill at h ⊢
    rw [← e]
    cases hpl : place i with
    | none => simp [hpl] at h
    | some q =>
      simp only [hpl] at h ⊢
      split at h
      · cases h
      · rename_i hc
        rw [if_neg hc]
        exact fill_place parts _ (fun p hq => hp p (by simp [hq])) h

theorem All2.anys {r : Rho} : ∀ (vs : List Value), All2 r (List.replicate vs.length A.any) vs
  | [] => trivial
  | _ :: vs => ⟨trivial, All2.anys vs⟩

def slPlaces (n k : Nat) : List (Nat × Nat) := (List.range n).map fun i => (i * k, k)
/-- A slice literal. -/
theorem O_buildSlice {e k n bytes : Nat} {S : Type} {f : S → List A} (L : List S) {ps : List (Nat × Operand)} (ls : List (A × List A)) (h : TE P T e k bytes) (hsz : Nat.ble (n * k) 16777216 = true) (hmax : n ≤ maxLen) (hn : L.length = n) (hk : ∀ y, (f y).length = k)
    (hp : partsOk (slPlaces n k) ps ls = true) (hc : AllCells ls) (hf : fitsL (n * k) (partOffs (slPlaces n k) ps ls) = true)
    (hL : fillL (List.replicate (n * k) A.any) (partOffs (slPlaces n k) ps ls) = L.flatMap f) :
    OpN P own ((ps.zip ls).map fun z => (true, z.1.2, z.2.1)) (.buildSlice T n ps.toArray) ty (A.sl k f L) := fun r w a hok _ hneed => by
  obtain ⟨hu, i, z, hi, hz, hs, _, hzs⟩ := h
  obtain ⟨hl, hq⟩ := parts_spec hp hc hneed
  have hsz := Nat.le_of_ble_eq_true hsz
  have main : ∀ cells : Array Value, cells.size = n * k → ∃ out, Instr.fill (fun i => some (i * k, k)) cells (ps.toArray.map fun x => (x.1, a.eval x.2)).toList = some out ∧ All2 r (L.flatMap f) out.toList := by
    intro cells hcs
    obtain ⟨out, ho, hout⟩ := fill_run (r := r) (place := fun i : Nat => (slPlaces n k)[i]?) (ps.map fun x => (x.1, a.eval x.2)) (partOffs (slPlaces n k) ps ls) cells (List.replicate (n * k) A.any) (by have := All2.anys (r := r) cells.toList; rwa [Array.length_toList, hcs] at this) (by simpa using hf) (by simpa using hl) hq
    refine ⟨out, ?_, hL ▸ hout⟩
    have hsame : ∀ p ∈ ps.map fun x => (x.1, a.eval x.2), (slPlaces n k)[p.1]? = (fun i : Nat => some (i * k, k)) p.1 := by
      intro p hp'
      obtain ⟨j, hj, ej⟩ := List.getElem_of_mem hp'
      have hjl : j < (partOffs (slPlaces n k) ps ls).length := by rw [← hl]; simpa using hj
      have := (hq j p _ (by rw [List.getElem?_eq_getElem hj, ej]) (List.getElem?_eq_getElem hjl)).1
      have hlt := (List.getElem?_eq_some_iff.1 this).1
      have hlt' : p.1 < n := by simpa [slPlaces] using hlt
      simp [slPlaces, hlt']
    have := fill_place (place := fun i : Nat => (slPlaces n k)[i]?) (place' := fun i : Nat => some (i * k, k)) _ _ hsame ho
    simpa using this
  have hsize : (sizeOf e).run P w = .ok k w := run_sizeOf (by unfold sizeAt; simp [hi, hs])
  have hzr : (zeroValue e).run P w = .ok z w := by simp [zeroValue, typeInfo, hi, hz]
  have hsz' : ¬ (n * k > 2 ^ 24) := by omega
  have fin : ∀ out : Array Value, All2 r (L.flatMap f) out.toList → Good P r w (A.sl k f L) (.ok (.value (.slice (some ⟨w.heap.size, 0, none⟩) n n)) (w.alloc (.cells out e))) := by
    intro out hout
    obtain ⟨s, gr, hs⟩ := Grow.alloc hok out e
    refine ⟨s, gr, some ⟨w.heap.size, 0, none⟩, n, n, rfl, hn.symm, Nat.le_refl _, hmax, fun _ => ⟨w.heap.size, 0, rfl, ?_⟩⟩
    have hflat : A.CellsAt s w.heap.size 0 (L.flatMap f) := fun j c hj => by
      obtain ⟨u, hu', hp'⟩ := hout.get j c hj
      exact ⟨u, by rw [Nat.zero_add]; exact hs j u (by simpa using hu'), c.mono gr.le hp'⟩
    exact rows_of_flat (fun y _ => hk y) hflat
  by_cases h0 : n * k = 0
  · obtain ⟨out, ho, hout⟩ := main ((Array.range (n * k)).map (fun j => (#[] : Array Value)[j % (#[] : Array Value).size]!)) (by simp)
    have : (exec a (.buildSlice T n ps.toArray) ty).run P w = .ok (.value (.slice (some ⟨w.heap.size, 0, none⟩) n n)) (w.alloc (.cells out e)) := by
      simp only [exec, execOp, Sem.run_bind, Instr.buildSlice, run_underlying hu, Result.andThen_ok, hsize, if_neg hsz', if_pos h0, Sem.run_pure]
      simp only [ho, Sem.run_bind, newRow, newObj, Sem.run_pure, Result.andThen_ok]
      rfl
    rw [this]
    exact fin out hout
  · obtain ⟨out, ho, hout⟩ := main ((Array.range (n * k)).map (fun j => z.cells[j % z.cells.size]!)) (by simp)
    have : (exec a (.buildSlice T n ps.toArray) ty).run P w = .ok (.value (.slice (some ⟨w.heap.size, 0, none⟩) n n)) (w.alloc (.cells out e)) := by
      simp only [exec, execOp, Sem.run_bind, Instr.buildSlice, run_underlying hu, Result.andThen_ok, hsize, if_neg hsz', if_neg h0, Sem.run_pure, hzr]
      simp only [ho, Sem.run_bind, newRow, newObj, Sem.run_pure, Result.andThen_ok]
      rfl
    rw [this]
    exact fin out hout
end
end Go.L
