import Derived.Test.YtfjggobjijeniaaCal5
/-! Slices made and filled; shapes; parameters that are handed over. -/
namespace Go.L
open Go Go.RowKit

/-- A parameter as the body sees it. -/
def From (c : Rho) (t u : A) : Prop := ∀ r v, c.le r → t.p (r.minus c) v → u.p r v
theorem From.nw {c : Rho} {t : A} : From c t (A.nw c t) := fun _ _ h k => ⟨h, k⟩
theorem From.val {c : Rho} {v : Value} : From c (A.val v) (A.val v) := fun _ _ _ k => k
def AllFrom (c : Rho) : List A → List A → Prop
  | [], [] => True
  | t :: l, u :: m => From c t u ∧ AllFrom c l m
  | _, _ => False
theorem AllFrom.all2 {c r : Rho} (h1 : c.le r) : ∀ {l m : List A} {vs : List Value}, AllFrom c l m → All2 (r.minus c) l vs → All2 r m vs
  | [], [], [], _, _ => trivial
  | [], [], _ :: _, _, k => k.elim
  | _ :: _, _ :: _, _ :: _, h, k => ⟨h.1 _ _ h1 k.1, AllFrom.all2 h1 h.2 k.2⟩
  | _ :: _, _ :: _, [], _, k => k.elim
  | [], _ :: _, _, h, _ => h.elim
  | _ :: _, [], _, h, _ => h.elim
theorem FnK_of_W' {P : Program} {f : FuncId} {fn : Func} {c : Code} {args : List A} {t : A} (args' : Rho → List A) (hf : P.funcs[f]? = some fn) (hb : fn.body = some c) (hn : ∀ c0, Nat.ble (args' c0).length fn.ntmps = true) (hfr : ∀ c0, AllFrom c0 args (args' c0))
    (h : ∀ c0 r w, W (EK P fn.ntmps w r (r.beyond c0)) c ⟨params 0 (args' c0), [], [], [], [], [c0]⟩ (bodyPostM (fz none) 9 P fn (fun e w' => ∃ v s, e = .returned v ∧ GrowK (r.beyond c0) r w s w' ∧ ∀ s', t.p s' v))) : FnK P f args t := by
  intro c0 r w vs hok hc hu ha
  exact Calls_of_W hf hb (hn c0) hok ((hfr c0).all2 hc ha) MemOk.nil (fun _ h => (Mem.blk_nil h).elim) (fun x v _ k => ⟨⟨x, k, rfl⟩, hu x k⟩) (fun c hc' => by rcases List.mem_singleton.1 hc' with rfl; exact hc) (h c0 r w)

theorem AllNw.append {c : Rho} : ∀ {l l' m m' : List A}, AllNw c l m → AllNw c l' m' → AllNw c (l ++ l') (m ++ m')
  | [], _, [], _, _, k => k
  | _ :: _, _, _ :: _, _, h, k => ⟨h.1, AllNw.append h.2 k⟩
  | [], _, _ :: _, _, h, _ => h.elim
  | _ :: _, _, [], _, h, _ => h.elim
theorem AllNw.flatMap {c : Rho} {T : Type} {f f' : T → List A} (h : ∀ y, AllNw c (f y) (f' y)) : ∀ (L : List T), AllNw c (L.flatMap f) (L.flatMap f')
  | [] => trivial
  | y :: L => by rw [List.flatMap_cons, List.flatMap_cons]; exact (h y).append (AllNw.flatMap h L)
theorem AllNw.nws {c : Rho} : ∀ (l : List A), AllNw c (l.map (A.nw c)) l
  | [] => trivial
  | _ :: l => ⟨NwI.nw, AllNw.nws l⟩
theorem sl_of_cells {r : Rho} {T : Type} {k b n : Nat} {f : T → List A} {L : List T} (hk : ∀ y, (f y).length = k) (hn : n = L.length) (hm : n ≤ maxLen) (h : A.CellsAt r b 0 (L.flatMap f)) : (A.sl k f L).p r (.slice (some ⟨b, 0, none⟩) n n) :=
  ⟨_, _, _, rfl, hn, Nat.le_refl _, hm, fun _ => ⟨b, 0, rfl, rows_of_flat (fun y _ => hk y) h⟩⟩

theorem NwI.agg {c : Rho} {l m : List A} (h : AllNw c l m) : NwI c (A.agg l) (A.agg m) := fun _ _ hc ⟨vs, e, k⟩ => ⟨vs, e, h.all2 hc k⟩
theorem RV.nw {E : Env} {g : Ctx} {x : ResultVar} {c : Rho} {u t : A} (hc : c ∈ g.cps) (h : RV E g x u) (hn : NwI c u t) : RV E g x (A.nw c t) := fun r a w H => by
  obtain ⟨v, e, k⟩ := h r a w H
  exact ⟨v, e, H.cps c hc, hn r v (H.cps c hc) k⟩
/-- A slice of one's own is no more: it is read. -/
theorem WL_freezeSl {E : Env} {g : Ctx} {Q : Exit → Act → World → Prop} {ops : Array Oper} {l : List Oper} (i : Nat) (c : Rho) {b tb n cap k : Nat} {cells : List A} {T : Type} {f f' : T → List A} {L : List T} (sp : List A) (hc : c ∈ g.cps) (hi : g.own[i]? = some (b, tb, cells)) (s : Nat)
    (hs : look g.sl s = some (true, A.os b n cap)) (he : cells = L.flatMap f ++ sp) (hn : n = L.length) (hcap : n ≤ cap) (hm : cap ≤ maxLen) (hk : ∀ y, (f' y).length = k) (hnw : ∀ y, AllNw c (f y) (f' y))
    (h : WL E ops l { g with sl := (s, true, A.nw c (A.sl k f' L)) :: g.sl, own := g.own.eraseIdx i } Q) : WL E ops l g Q := by
  have hsp : ∀ (m : List A), AllNw c m (m.map fun _ => A.any) := by
    intro m
    induction m with
    | nil => trivial
    | cons t m ih => exact ⟨fun _ _ _ _ => trivial, ih⟩
  refine WL_freezeN i c (cells' := L.flatMap f' ++ sp.map fun _ => A.any) hc hi s hs (he ▸ (AllNw.flatMap hnw L).append (hsp sp)) (fun r hat => ?_) h
  refine ⟨_, _, _, rfl, hn, hcap, hm, fun _ => ⟨b, 0, rfl, rows_of_flat (fun y _ => hk y) fun j u hj => hat j u ?_⟩⟩
  rw [List.getElem?_append_left (List.getElem?_eq_some_iff.1 hj).1]; exact hj

section
variable {T : Type} {f : T → List A} {k : Nat} {z : List A}
theorem flatMap_len {L : List T} (hk : ∀ y, (f y).length = k) : (L.flatMap f).length = L.length * k := flat_length (fun y _ => hk y)
/-- Filled up to j. -/
def filled (f : T → List A) (z : List A) (L : List T) (j : Nat) : List A := (L.take j).flatMap f ++ (List.replicate (L.length - j) z).flatten
theorem filled_zero {L : List T} : (List.replicate L.length z).flatten = filled f z L 0 := by simp [filled]
theorem filled_all {L : List T} {j : Nat} (h : L.length ≤ j) : filled f z L j = L.flatMap f := by
  unfold filled; rw [List.take_of_length_le h, show L.length - j = 0 from by omega]; simp
theorem filled_len {L : List T} {j : Nat} (hk : ∀ y, (f y).length = k) (hz : z.length = k) (hj : j ≤ L.length) : (filled f z L j).length = L.length * k := by
  unfold filled
  rw [List.length_append, flatMap_len hk, List.length_flatten]
  simp [hz, Nat.min_eq_left hj]
  rw [← Nat.add_mul]; congr 1; omega
theorem filled_step [Inhabited T] (L : List T) (j : Nat) (hk : ∀ y, (f y).length = k) (hz : z.length = k) (hj : j < L.length) : over (filled f z L j) ((j : Int).toNat * k) (f (idx L (j : Int))) = filled f z L (j + 1) := by
  have hg : idx L (j : Int) = L[j] := by unfold idx; simp [hj]
  rw [Int.toNat_natCast]
  have h1 : ((L.take j).flatMap f).length = j * k := by rw [flatMap_len hk]; simp [Nat.min_eq_left (Nat.le_of_lt hj)]
  have h2 : L.length - j = (L.length - (j + 1)) + 1 := by omega
  unfold over filled
  rw [h2, List.replicate_succ, List.flatten_cons, hg, hk]
  rw [List.take_append_of_le_length (by omega), List.take_of_length_le (by omega), List.drop_append, h1]
  rw [List.drop_of_length_le (by omega), List.nil_append, show j * k + k - j * k = k from by omega]
  rw [List.drop_append_of_le_length (by omega), List.drop_of_length_le (by omega), List.nil_append]
  rw [List.take_succ_eq_append_getElem hj, List.flatMap_append]
  simp
end

/-- What is said of the shape alone. -/
theorem KS.pure {u : A} (h : Pure u) : KS u := fun _ _ _ _ k => h _ _ _ k
theorem KS.anyI : KS A.anyI := KS.pure fun _ _ _ h => h
theorem KS.anyB : KS A.anyB := KS.pure fun _ _ _ h => h
def AllKS : List A → Prop
  | [] => True
  | t :: l => (KS t ∧ (∀ r v v', t.p r v → SameKind v v' → t.p r v')) ∧ AllKS l
theorem KSc.anyI : KS A.anyI ∧ (∀ r v v', A.anyI.p r v → SameKind v v' → A.anyI.p r v') := ⟨KS.anyI, fun r v v' ⟨n, h⟩ k => by
  have h : v = _ := h
  subst h
  rcases k with ⟨kk, a, b, e, rfl⟩ | ⟨a, b, e, _⟩
  · cases e; exact ⟨b, rfl⟩
  · cases e⟩
theorem KSc.anyB : KS A.anyB ∧ (∀ r v v', A.anyB.p r v → SameKind v v' → A.anyB.p r v') := ⟨KS.anyB, fun r v v' ⟨n, h⟩ k => by
  have h : v = _ := h
  subst h
  rcases k with ⟨kk, a, b, e, _⟩ | ⟨a, b, e, rfl⟩
  · cases e
  · exact ⟨b, rfl⟩⟩
theorem AllKS.get {l : List A} (h : AllKS l) {i : Nat} {t : A} (e : l[i]? = some t) : KS t ∧ (∀ r v v', t.p r v → SameKind v v' → t.p r v') := by
  induction l generalizing i with
  | nil => simp at e
  | cons u l ih => cases i with
    | zero => simp at e; subst e; exact h.1
    | succ i => exact ih h.2 (by simpa using e)
theorem AllKS.cells {l : List A} (h : AllKS l) {r s : Rho} (hk : r.leK (fun _ => True) s) {b o : Nat} (k : A.CellsAt r b o l) : A.CellsAt s b o l := fun i c e => by
  obtain ⟨h1, h2⟩ := h.get e
  obtain ⟨x, hx, hp⟩ := k i c e
  obtain ⟨x', k1, k2⟩ := hk _ _ hx
  refine ⟨x', k1, ?_⟩
  have := h1 r s x hk hp
  rcases k2 with rfl | ⟨_, k2⟩
  · exact this
  · exact h2 s x x' this k2
theorem KS.sl {T : Type} {k : Nat} {f : T → List A} {L : List T} (h : ∀ y, AllKS (f y)) : KS (A.sl k f L) := fun r s v hk ⟨a, len, cap, e, h1, h2, h3, h4⟩ =>
  ⟨a, len, cap, e, h1, h2, h3, fun hn => let ⟨b, o, ea, hc⟩ := h4 hn; ⟨b, o, ea, fun i y hy => (h y).cells hk (hc i y hy)⟩⟩
theorem KS.pt {l : List A} (h : AllKS l) : KS (A.pt l) := fun r s v hk ⟨b, o, e, hc⟩ => ⟨b, o, e, h.cells hk hc⟩
theorem KSc.sl {T : Type} {k : Nat} {f : T → List A} {L : List T} (h : ∀ y, AllKS (f y)) : KS (A.sl k f L) ∧ (∀ r v v', (A.sl k f L).p r v → SameKind v v' → (A.sl k f L).p r v') :=
  ⟨KS.sl h, fun r v v' ⟨a, len, cap, e, _⟩ q => by
    subst e
    rcases q with ⟨_, _, _, e, _⟩ | ⟨_, _, e, _⟩ <;> cases e⟩

/-- Lists are equal where their elements are. -/
theorem list_eq_of {T : Type} [Inhabited T] {L M : List T} (hl : L.length = M.length) (h : ∀ j, j < L.length → idx L (j : Int) = idx M (j : Int)) : L = M := by
  apply List.ext_getElem hl
  intro i h1 h2
  have := h i h1
  unfold idx at this
  simpa [h1, h2] using this
theorem list_ne_of {T : Type} [Inhabited T] {L M : List T} (k : Nat) (h : idx L (k : Int) ≠ idx M (k : Int)) : L ≠ M := fun e => h (by rw [e])
end Go.L
