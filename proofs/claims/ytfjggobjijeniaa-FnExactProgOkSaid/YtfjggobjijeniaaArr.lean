import Derived.Test.YtfjggobjijeniaaBound
/-! Arrays and structs as values: literals, elements, fields. -/
namespace Go.L
open Go Go.RowKit
def TFt (P : Program) (t j off ft : Nat) : Prop := (match P.underlying t with | some (.struct fs) => (fs[j]?).map fun f => (f.offset, f.type) | _ => none) = some (off, ft)
def TBA (P : Program) (t : TypeId) (zs : List Value) (n e k : Nat) : Prop := zeroCellsOf P t = some zs ∧ TAr P t n e k
theorem run_part_atom {P : Program} {w : World} {e off : Nat} {cs : Array Value} {v : Value} (h : TA P e) (hv : cs[off]? = some v) : (part e cs off).run P w = .ok v w := by
  simp [part, h.isAgg, hv]
theorem run_part_agg {P : Program} {w : World} {e off k : Nat} {cs : Array Value} (h : TG P e k) : (part e cs off).run P w = .ok (.agg (cs.extract off (off + k))) w := by
  simp [part, h.isAgg, run_sizeOf h.2]
section
variable {P : Program} {own : OC} {ty T : TypeId} {x y : Operand}
theorem O_indexag {n e k : Nat} {l : List A} {m : Int} (h : TAr P T n e k) (he : TG P e k) (hb : 0 ≤ m ∧ m < n) :
    OpN P own [(true, x, A.agg l), (true, y, A.int m)] (.index T x y) ty (A.agg ((l.drop (m.toNat * k)).take k)) := fun r w a hok _ hn => by
  obtain ⟨vs, hx, hl⟩ := hn (true, x, A.agg l) (by simp) rfl
  have hx : a.eval x = .agg vs := hx
  have hy : a.eval y = .int .i64 m := hn (true, y, A.int m) (by simp) rfl
  have : (exec a (.index T x y) ty).run P w = .ok (.value (.agg (vs.extract (m.toNat * k) (m.toNat * k + k)))) w := by
    simp only [exec, execOp, hx, hy, Sem.run_bind, Instr.index, asIntOf, Sem.run_pure, Result.andThen_ok, run_underlying h.1, if_pos hb, run_sizeOf h.2, run_part_agg he]
  rw [this]
  refine Good.here hok ⟨_, rfl, ?_⟩
  have h1 : All2 r ((l.drop (m.toNat * k)).take k) ((vs.toList.drop (m.toNat * k)).take k) := by
    have key : ∀ (o c : Nat) (l : List A) (us : List Value), All2 r l us → All2 r ((l.drop o).take c) ((us.drop o).take c) := by
      intro o c l us hk
      refine All2.of_get (by simp [hk.length]) fun i t v ht hv => ?_
      rw [List.getElem?_take] at ht hv
      split at ht
      · rename_i hi
        rw [if_pos hi] at hv
        rw [List.getElem?_drop] at ht hv
        obtain ⟨v', e', hp⟩ := hk.get _ _ ht
        rw [hv] at e'; cases e'; exact hp
      · cases ht
    exact key _ _ _ _ hl
  have e2 : (vs.extract (m.toNat * k) (m.toNat * k + k)).toList = (vs.toList.drop (m.toNat * k)).take k := by
    rw [Array.toList_extract, List.extract_eq_take_drop]; congr 1; omega
  rw [e2]; exact h1
theorem O_fieldat {j off ft : Nat} {l : List A} {t : A} (h : TFt P T j off ft) (hf : TA P ft) (ht : l[off]? = some t) :
    OpN P own [(true, x, A.agg l)] (.field T x j) ty t := fun r w a hok _ hn => by
  obtain ⟨vs, hx, hl⟩ := hn (true, x, A.agg l) (by simp) rfl
  have hx : a.eval x = .agg vs := hx
  obtain ⟨v, hv, hp⟩ := hl.get off t ht
  unfold TFt at h
  split at h
  · rename_i fs hu
    obtain ⟨f, hf1, hf2⟩ := Option.map_eq_some_iff.1 h
    cases hf2
    have : (exec a (.field T x j) ty).run P w = .ok (.value v) w := by
      simp only [exec, execOp, hx, Sem.run_bind, Instr.field, asAgg, Sem.run_pure, Result.andThen_ok, run_underlying hu, hf1]
      rw [run_part_atom hf (by simpa using hv)]
      rfl
    rw [this]
    exact Good.here hok hp
  · cases h
theorem O_buildArr {zs : List Value} {n e k : Nat} {ps : List (Nat × Operand)} (ls : List (A × List A)) (h : TBA P T zs n e k) (hp : partsOk (slPlaces n k) ps ls = true) (hc : AllCells ls)
    (hf : fitsL zs.length (partOffs (slPlaces n k) ps ls) = true) :
    OpN P own ((ps.zip ls).map fun z => (true, z.1.2, z.2.1)) (.build T ps.toArray) ty (A.agg (fillL (zs.map A.val) (partOffs (slPlaces n k) ps ls))) := fun r w a hok _ hn => by
  obtain ⟨z, hzc, hzr⟩ := TZ.run h.1
  obtain ⟨hl, hq⟩ := parts_spec hp hc hn
  obtain ⟨out, ho, hout⟩ := fill_run (r := r) (place := fun i : Nat => (slPlaces n k)[i]?) (ps.map fun x => (x.1, a.eval x.2)) (partOffs (slPlaces n k) ps ls) z.cells (zs.map A.val) (by rw [hzc]; exact All2.vals zs) (by simpa using hf) (by simpa using hl) hq
  have hsame : ∀ p ∈ ps.map fun x => (x.1, a.eval x.2), (slPlaces n k)[p.1]? = (fun i : Nat => some (i * k, k)) p.1 := by
    intro p hp'
    obtain ⟨j, hj, ej⟩ := List.getElem_of_mem hp'
    have hjl : j < (partOffs (slPlaces n k) ps ls).length := by rw [← hl]; simpa using hj
    have := (hq j p _ (by rw [List.getElem?_eq_getElem hj, ej]) (List.getElem?_eq_getElem hjl)).1
    have hlt := (List.getElem?_eq_some_iff.1 this).1
    have hlt' : p.1 < n := by simpa [slPlaces] using hlt
    simp [slPlaces, hlt']
  have ho2 := fill_place (place := fun i : Nat => (slPlaces n k)[i]?) (place' := fun i : Nat => some (i * k, k)) _ _ hsame ho
  have ho' : Instr.fill (fun i : Nat => some (i * k, k)) z.cells ((ps.toArray.map fun x => (x.1, a.eval x.2)).toList) = some out := by simpa using ho2
  have : (exec a (.build T ps.toArray) ty).run P w = .ok (.value (.agg out)) w := by
    simp only [exec, execOp, Sem.run_bind, Instr.build, hzr, Result.andThen_ok, run_underlying h.2.1, run_sizeOf h.2.2]
    simp only [ho', Sem.run_pure, Result.andThen_ok]
  rw [this]
  exact Good.here hok ⟨out, rfl, hout⟩
end
theorem flat_get {T S : Type} {f : T → List S} {k : Nat} (hk : ∀ y, (f y).length = k) : ∀ {L : List T} {i j : Nat} {y : T}, L[i]? = some y → j < k → (L.flatMap f)[i * k + j]? = (f y)[j]?
  | [], i, j, y, h, _ => by simp at h
  | x :: L, 0, j, y, h, hj => by
    simp at h; subst h
    rw [List.flatMap_cons, Nat.zero_mul, Nat.zero_add, List.getElem?_append_left (by rw [hk]; exact hj)]
  | x :: L, i + 1, j, y, h, hj => by
    rw [List.flatMap_cons, List.getElem?_append_right (by rw [hk, Nat.add_mul]; omega), hk, show (i + 1) * k + j - k = i * k + j from by rw [Nat.add_mul]; omega]
    exact flat_get hk (by simpa using h) hj
end Go.L
