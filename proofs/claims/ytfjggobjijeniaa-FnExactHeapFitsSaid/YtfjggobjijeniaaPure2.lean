import Derived.Test.YtfjggobjijeniaaWalk2
import Derived.Test.YtfjggobjijeniaaPure1
/-! Chapter 1, the other program: rows, codes, shapes. -/
namespace Go.L
open Go

structure Row where
  t : Ty
  fst : Int
  lim : Int
deriving Inhabited, DecidableEq
def cRow (r : Row) : List A := [A.int r.t.kind, A.int r.t.up, A.bool r.t.last, A.sl 3 cFld r.t.fields, A.int r.fst, A.int r.lim]
abbrev kC (L : List Row) (c : List Int) : List A := [A.sl 6 cRow L, A.sl 1 cInt c]
abbrev kP (L : List Row) (c : List Int) : A := A.pt (kC L c)

def grows (b : Int) (g : List Ty) : List Row := g.map fun t => ⟨t, b, b + g.length⟩
def krowsF : Int → Kin → List Row
  | _, [] => []
  | b, g :: G => grows b g ++ krowsF (b + g.length) G
def krows (G : Kin) : List Row := krowsF 0 G
theorem grows_len (b : Int) (g : List Ty) : (grows b g).length = g.length := by simp [grows]
theorem krowsF_len : ∀ (G : Kin) (b : Int), (krowsF b G).length = G.flatten.length
  | [], _ => rfl
  | g :: G, b => by simp only [krowsF, List.length_append, grows_len, krowsF_len G, List.flatten_cons]
theorem krows_len (G : Kin) : (krows G).length = G.flatten.length := krowsF_len G 0
theorem krowsF_append : ∀ (G H : Kin) (b : Int), krowsF b (G ++ H) = krowsF b G ++ krowsF (b + kcnt G) H
  | [], H, b => by simp [krowsF, kcnt]
  | g :: G, H, b => by
    simp only [List.cons_append, krowsF, krowsF_append G H, List.append_assoc]
    congr 3
    unfold kcnt; rw [List.flatten_cons, List.length_append]; omega
theorem krows_step (G : Kin) (k : Nat) (h : k < G.length) : krows (G.take (k + 1)) = krows (G.take k) ++ grows (kcnt (G.take k)) (idx G (k : Int)) := by
  unfold krows
  rw [take_snoc h, krowsF_append]
  simp [krowsF]
theorem krows_cnt (G : Kin) : ((krows G).length : Int) = kcnt G := by rw [krows_len]; rfl
theorem idx_grows {b : Int} {g : List Ty} {j : Nat} (h : j < g.length) : idx (grows b g) (j : Int) = ⟨idx g (j : Int), b, b + g.length⟩ := by
  rw [idx_nat (by rw [grows_len]; exact h), idx_nat h]; simp [grows]

/-- The first that a test takes, or -1. -/
def findI {T : Type} [Inhabited T] (p : T → Bool) (L : List T) : Int := ((List.range L.length).find? fun i : Nat => p (idx L (i : Int))).elim (-1) fun i : Nat => (i : Int)
theorem findI_some {T : Type} [Inhabited T] {p : T → Bool} {L : List T} {k : Nat} (hk : k < L.length) (hp : p (idx L (k : Int)) = true) (h : ∀ j : Nat, j < k → p (idx L (j : Int)) = false) : findI p L = (k : Int) := by
  unfold findI
  rw [find_range hk hp h]; rfl
theorem findI_none {T : Type} [Inhabited T] {p : T → Bool} {L : List T} (h : ∀ j : Nat, j < L.length → p (idx L (j : Int)) = false) : findI p L = -1 := by
  unfold findI
  rw [List.find?_eq_none.2 (fun j hj => by simp [h j (List.mem_range.1 hj)])]; rfl
theorem findI_any {T : Type} [Inhabited T] {p : T → Bool} {L : List T} : decide (0 ≤ findI p L) = L.any p := by
  cases e : L.any p with
  | false =>
    rw [findI_none]
    · rfl
    · intro j hj
      rw [idx_nat hj]
      rw [List.any_eq_false] at e
      simpa using e _ (List.getElem_mem hj)
  | true =>
    obtain ⟨x, hx, hp⟩ := List.any_eq_true.1 e
    obtain ⟨i, hi, rfl⟩ := List.getElem_of_mem hx
    have hex : ∃ k, k < L.length ∧ p (idx L (k : Int)) = true := ⟨i, hi, by rw [idx_nat hi]; exact hp⟩
    obtain ⟨k, ⟨hk, hpk⟩, hmin⟩ := least hex
    rw [findI_some hk hpk (fun j hj => by
      cases q : p (idx L (j : Int)) with
      | false => rfl
      | true => have := hmin j ⟨by omega, q⟩; omega)]
    simp

def rowOk (r : Row) (n : Int) : Bool :=
  (decide (r.t.kind = 1) || decide (r.t.kind = 2)) && decide (r.t.fields.length ≤ 4) && (!decide (r.t.kind = 2) || decide (r.t.fields.length = 1)) && !(r.t.fields.any fun f => !fieldOk f r.lim) && decide (-1 ≤ r.t.up) && decide (r.t.up < n)

def codeF (c : List Int) (b n : Int) : Int := if n < 0 then n else if b ≤ n then n - b else 8 + idx c n
def codeFld (c : List Int) (b : Int) (f : Fld) : Fld := if f.kind = 1 then f else ⟨f.kind, codeF c b f.of, f.mu⟩
def fldV (f : Fld) : List Value := [.int .i64 f.kind, .int .i64 f.of, .bool f.mu]
def z3 : List Value := [.int .i64 0, .int .i64 0, .bool false]
def z12 : List Value := z3 ++ z3 ++ z3 ++ z3
def shapeH (c : List Int) (r : Row) : List Value := [.int .i64 r.t.kind, .int .i64 (codeF c r.fst r.t.up), .bool r.t.last, .int .i64 (r.t.fields.length : Int)]
def shapeTo (c : List Int) (r : Row) (k : Nat) : List Value := shapeH c r ++ ((r.t.fields.take k).flatMap (fun f => fldV (codeFld c r.fst f)) ++ z12.drop (3 * k))
def shapeV (c : List Int) (r : Row) : List Value := shapeTo c r r.t.fields.length
structure RowIn (c : List Int) (r : Row) : Prop where
  f0 : 0 ≤ r.fst
  fl : r.fst ≤ c.length
  ty : TyOk r.t
  len : r.t.fields.length ≤ 4
def CanOk (c : List Int) : Prop := ∀ x ∈ c, 0 ≤ x ∧ x ≤ 8
theorem flatMap_lenV {S T : Type} {f : S → List T} {n : Nat} (h : ∀ x, (f x).length = n) : ∀ L : List S, (L.flatMap f).length = L.length * n
  | [] => by simp
  | x :: L => by rw [List.flatMap_cons, List.length_append, h, flatMap_lenV h L, List.length_cons, Nat.add_mul]; omega
theorem over_at {S : Type} (X Y Z us : List S) (o : Nat) (h : o = X.length) (hY : Y.length = us.length) : over (X ++ (Y ++ Z)) o us = X ++ (us ++ Z) := by
  subst h; unfold over
  simp [← hY]
theorem shape_step (c : List Int) (r : Row) (k : Nat) (h : k < r.t.fields.length) (h4 : r.t.fields.length ≤ 4) (us : List Value) (hu : us = fldV (codeFld c r.fst (idx r.t.fields (k : Int)))) :
    over (shapeTo c r k) (4 + k * 3) us = shapeTo c r (k + 1) := by
  subst hu
  unfold shapeTo
  have e : z12.drop (3 * k) = z3 ++ z12.drop (3 * (k + 1)) := by
    match k, (show k < 4 by omega) with
    | 0, _ => rfl
    | 1, _ => rfl
    | 2, _ => rfl
    | 3, _ => rfl
  rw [e, ← List.append_assoc]
  rw [over_at _ z3 _ _ _ (by rw [List.length_append, flatMap_lenV (n := 3) (fun _ => rfl), List.length_take]; simp [shapeH]; omega) (show z3.length = (fldV (codeFld c r.fst (idx r.t.fields (k : Int)))).length from rfl)]
  rw [take_snoc h, List.flatMap_append]
  simp
theorem over_map {S T : Type} (f : S → T) (X : List S) (o : Nat) (us : List S) : over (X.map f) o (us.map f) = (over X o us).map f := by
  unfold over; simp
theorem shapeTo_len {c : List Int} {r : Row} {k : Nat} (h : k ≤ r.t.fields.length) (h4 : r.t.fields.length ≤ 4) : (shapeTo c r k).length = 16 := by
  unfold shapeTo
  rw [List.length_append, List.length_append, flatMap_lenV (n := 3) (fun _ => rfl), List.length_take, List.length_drop]
  simp [shapeH, z12, z3]; omega
theorem shapeV_len {c : List Int} {r : Row} (h4 : r.t.fields.length ≤ 4) : (shapeV c r).length = 16 := shapeTo_len (Nat.le_refl _) h4
theorem shape_stepA {c : List Int} {r : Row} {k : Nat} (h : k < r.t.fields.length) (h4 : r.t.fields.length ≤ 4) {us : List A} (hu : us = (fldV (codeFld c r.fst (idx r.t.fields (k : Int)))).map A.val) :
    (shapeTo c r (k + 1)).map A.val = over ((shapeTo c r k).map A.val) (0 + 4 + (k : Int).toNat * 3) us := by
  rw [hu, over_map, Int.toNat_natCast, Nat.zero_add, shape_step c r k h h4 _ rfl]
/-- Numbers and bools. -/
def IB (v : Value) : Prop := (∃ n, v = .int .i64 n) ∨ ∃ b, v = .bool b
theorem IB.int {n : Int} : IB (.int .i64 n) := .inl ⟨n, rfl⟩
theorem IB.bool {b : Bool} : IB (.bool b) := .inr ⟨b, rfl⟩
theorem AllOne.ib : ∀ {vs : List Value}, (∀ v ∈ vs, IB v) → AllOne (vs.map A.val)
  | [], _ => trivial
  | v :: vs, h => ⟨by rcases h v (by simp) with ⟨n, rfl⟩ | ⟨b, rfl⟩; exact OneV.int; exact OneV.bool, AllOne.ib fun u hu => h u (by simp [hu])⟩
theorem IB.z12 : ∀ v ∈ z12, IB v := by
  intro v hv
  simp only [L.z12, z3, List.cons_append, List.nil_append, List.mem_cons, List.not_mem_nil, or_false] at hv
  rcases hv with h | h | h | h | h | h | h | h | h | h | h | h <;> rw [h] <;> first | exact IB.int | exact IB.bool
theorem IB.fldV {f : Fld} : ∀ v ∈ fldV f, IB v := by
  intro v hv
  simp [L.fldV] at hv
  rcases hv with rfl | rfl | rfl <;> first | exact IB.int | exact IB.bool
theorem shapeTo_ib {c : List Int} {r : Row} {k : Nat} : ∀ v ∈ shapeTo c r k, IB v := by
  intro v hv
  unfold shapeTo at hv
  rcases List.mem_append.1 hv with hv | hv
  · simp [shapeH] at hv
    rcases hv with rfl | rfl | rfl | rfl <;> first | exact IB.int | exact IB.bool
  rcases List.mem_append.1 hv with hv | hv
  · obtain ⟨f, _, h⟩ := List.mem_flatMap.1 hv; exact IB.fldV v h
  · exact IB.z12 v (List.mem_of_mem_drop hv)
theorem AllOne.shape {c : List Int} {r : Row} : AllOne ((shapeV c r).map A.val) := AllOne.ib shapeTo_ib
theorem over_all {S : Type} {X us : List S} (h : X.length = us.length) : over X 0 us = us := by
  have := over_at [] X [] us 0 rfl h
  simpa using this
end Go.L
