import Derived.Test.YtfjggobjijeniaaWalk2
/-! Chapter 1 in plain terms: types, fields, groups. -/
namespace Go.L
open Go

structure Fld where
  kind : Int
  of : Int
  mu : Bool
deriving Inhabited, DecidableEq
structure Ty where
  kind : Int
  up : Int
  last : Bool
  fields : List Fld
deriving Inhabited, DecidableEq
theorem Fld.eqs {f g : Fld} : f = g ↔ f.kind = g.kind ∧ f.of = g.of ∧ f.mu = g.mu := by cases f; cases g; simp
theorem Ty.eqs {f g : Ty} : f = g ↔ f.kind = g.kind ∧ f.up = g.up ∧ f.last = g.last ∧ f.fields = g.fields := by cases f; cases g; simp
def cInt (n : Int) : List A := [A.int n]
def cFld (f : Fld) : List A := [A.int f.kind, A.int f.of, A.bool f.mu]
def cTy (t : Ty) : List A := [A.int t.kind, A.int t.up, A.bool t.last, A.sl 3 cFld t.fields]
def cGrp (g : List Ty) : List A := [A.sl 4 cTy g]
abbrev Kin := List (List Ty)

/-- Numbers of a type that are numbers of Go. -/
def TyOk (t : Ty) : Prop := t.up ≤ 9223372036854775807 ∧ ∀ f ∈ t.fields, f.of ≤ 9223372036854775807
/-- Groups of sizes that can be added up. -/
structure Small (G : Kin) : Prop where
  len : G.length ≤ 1048576
  grp : ∀ g ∈ G, g.length ≤ 1048576
  rng : ∀ g ∈ G, ∀ t ∈ g, TyOk t

theorem idx_len {T : Type} [Inhabited T] {L : List (List T)} {n : Nat} (h : ∀ g ∈ L, g.length ≤ n) (k : Int) : (idx L k).length ≤ n := by
  unfold idx
  rcases Nat.lt_or_ge k.toNat L.length with q | q
  · have : L.getD k.toNat default = L[k.toNat] := by simp [q]
    rw [this]; exact h _ (List.getElem_mem _)
  · have : L.getD k.toNat default = default := by simp [q]
    rw [this]; exact Nat.zero_le _
theorem idx_nat {T : Type} [Inhabited T] {L : List T} {k : Nat} (h : k < L.length) : idx L (k : Int) = L[k] := by
  unfold idx; simp [h]
theorem idx_eq {T : Type} [Inhabited T] {L : List T} {n : Int} (h0 : 0 ≤ n) (h : n < L.length) : idx L n = L[n.toNat]'(by omega) := by
  have : n.toNat < L.length := by omega
  unfold idx; simp [this]
theorem take_snoc {T : Type} [Inhabited T] {L : List T} {k : Nat} (h : k < L.length) : L.take (k + 1) = L.take k ++ [idx L (k : Int)] := by
  rw [idx_nat h, List.take_succ_eq_append_getElem h]
theorem idx_mem {T : Type} [Inhabited T] {L : List T} {n : Int} (h0 : 0 ≤ n) (h : n < L.length) : idx L n ∈ L := by
  rw [idx_eq h0 h]; exact List.getElem_mem _

def kcnt (G : Kin) : Int := (G.flatten.length : Int)
theorem kcnt_step (G : Kin) (k : Nat) (h : k < G.length) : kcnt (G.take (k+1)) = kcnt (G.take k) + ((idx G (k : Int)).length : Int) := by
  unfold kcnt; rw [take_snoc h, List.flatten_append]; simp
theorem flatten_bd {T : Type} {G : List (List T)} {n : Nat} (h : ∀ g ∈ G, g.length ≤ n) : G.flatten.length ≤ G.length * n := by
  induction G with
  | nil => simp
  | cons g G ih =>
    rw [List.flatten_cons, List.length_append, List.length_cons, Nat.add_mul]
    have := h g (by simp)
    have := ih (fun g hg => h g (by simp [hg]))
    omega
theorem idx_all {T : Type} [Inhabited T] {L : List T} {p : T → Prop} (h : ∀ x ∈ L, p x) (hd : p default) (k : Int) : p (idx L k) := by
  unfold idx
  rcases Nat.lt_or_ge k.toNat L.length with q | q
  · have : L.getD k.toNat default = L[k.toNat] := by simp [q]
    rw [this]; exact h _ (List.getElem_mem _)
  · have : L.getD k.toNat default = default := by simp [q]
    rw [this]; exact hd
theorem TyOk.dflt : TyOk default := ⟨by decide, fun f hf => by cases hf⟩
theorem TyOk.of {t : Ty} (h : TyOk t) (k : Int) : (idx t.fields k).of ≤ 9223372036854775807 := idx_all (p := fun f : Fld => f.of ≤ 9223372036854775807) h.2 (by decide) k
theorem Small.ty {G : Kin} (h : Small G) (x k : Int) : TyOk (idx (idx G x) k) :=
  idx_all (p := fun g : List Ty => ∀ k, TyOk (idx g k)) (fun g hg k => idx_all (h.rng g hg) TyOk.dflt k) (fun k => by unfold idx; simp; exact TyOk.dflt) x k
theorem Small.fty {G : Kin} (h : Small G) (k : Int) : TyOk (idx G.flatten k) :=
  idx_all (fun t ht => by obtain ⟨g, hg, ht⟩ := List.mem_flatten.1 ht; exact h.rng g hg t ht) TyOk.dflt k
theorem Small.take {G : Kin} (h : Small G) (k : Nat) : Small (G.take k) := ⟨by have := h.len; simp; omega, fun g hg => h.grp g (List.mem_of_mem_take hg), fun g hg => h.rng g (List.mem_of_mem_take hg)⟩
theorem Small.flat {G : Kin} (h : Small G) : G.flatten.length ≤ 1099511627776 := by
  have := flatten_bd h.grp
  have := Nat.mul_le_mul_right 1048576 h.len
  omega
theorem Small.kcnt {G : Kin} (h : Small G) : 0 ≤ kcnt G ∧ kcnt G ≤ 1099511627776 := by
  have := h.flat
  unfold L.kcnt; omega
theorem Small.idx {G : Kin} (h : Small G) (k : Int) : (idx G k).length ≤ 1048576 := idx_len h.grp k
theorem flat_idx (G : Kin) (k : Nat) (j : Nat) (h : k < G.length) (hj : j ≤ (idx G (k : Int)).length) : ((G.take k).flatten ++ (idx G (k : Int)).take j).length ≤ G.flatten.length := by
  have : G = G.take k ++ (idx G (k : Int)) :: G.drop (k + 1) := by
    rw [idx_nat h, ← List.drop_eq_getElem_cons h, List.take_append_drop]
  conv => rhs; rw [this]
  simp [List.flatten_append]; omega

theorem flat_end (G : Kin) (k j : Nat) (h : k < G.length) (hj : (idx G (k : Int)).length ≤ j) : (G.take k).flatten ++ (idx G (k : Int)).take j = (G.take (k + 1)).flatten := by
  rw [take_snoc h, List.flatten_append, List.take_of_length_le hj]; simp

def fieldOk (f : Fld) (n : Int) : Bool := if f.kind = 1 then decide (f.of = 0) else if f.kind = 2 ∨ f.kind = 3 then decide (-2 ≤ f.of) && decide (f.of < n) else false
end Go.L
namespace Go.L
open Go

/-- All numbers below n. -/
def allN (n : Nat) (p : Nat → Bool) : Bool := (List.range n).all p
theorem allN_iff {n : Nat} {p : Nat → Bool} : allN n p = true ↔ ∀ j, j < n → p j = true := by simp [allN]
theorem allN_true {n : Nat} {p : Nat → Bool} (h : ∀ j, j < n → p j = true) : allN n p = true := allN_iff.2 h
theorem allN_false {n : Nat} {p : Nat → Bool} (k : Nat) (hk : k < n) (h : p k = false) : allN n p = false := by
  cases e : allN n p with
  | false => rfl
  | true => rw [allN_iff.1 e k hk] at h; cases h
theorem allN_succ {p : Nat → Bool} {k : Nat} (h : ∀ j, j < k → p j = true) (hk : p k = true) : ∀ j, j < k + 1 → p j = true := fun j hj => by
  rcases Nat.lt_or_ge j k with q | q
  · exact h j q
  · rw [show j = k from by omega]; exact hk
theorem allN_zero {p : Nat → Bool} : ∀ j, j < 0 → p j = true := fun j h => by omega
theorem allN_congr {n : Nat} {p q : Nat → Bool} (h : ∀ j, j < n → p j = q j) : allN n p = allN n q := by
  rw [Bool.eq_iff_iff, allN_iff, allN_iff]
  exact ⟨fun k j hj => by rw [← h j hj]; exact k j hj, fun k j hj => by rw [h j hj]; exact k j hj⟩
theorem all_idx {T : Type} [Inhabited T] {L : List T} {p : T → Bool} : allN L.length (fun i => p (idx L (i : Int))) = L.all p := by
  rw [Bool.eq_iff_iff, allN_iff, List.all_eq_true]
  constructor
  · intro h x hx
    obtain ⟨i, hi, rfl⟩ := List.getElem_of_mem hx
    have := h i hi
    rwa [idx_nat hi] at this
  · intro h i hi
    rw [idx_nat hi]; exact h _ (List.getElem_mem _)

/-- The number of the first type of a group; a type's group. -/
def kbeg (G : Kin) (x : Int) : Int := kcnt (G.take x.toNat)
def kgrp (G : Kin) (a : Int) : Int := ((List.range G.length).find? fun i => decide (a < kcnt (G.take (i + 1)))).elim (-1) fun i => (i : Int)
theorem kcnt_mono (G : Kin) {j k : Nat} (h : j ≤ k) : kcnt (G.take j) ≤ kcnt (G.take k) := by
  have e := List.take_append_drop j (G.take k)
  rw [List.take_take, Nat.min_eq_left h] at e
  rw [← e]; unfold kcnt; rw [List.flatten_append, List.length_append]; omega
theorem kcnt_take_le (G : Kin) (k : Nat) : kcnt (G.take k) ≤ kcnt G := by
  rcases Nat.lt_or_ge k G.length with q | q
  · have := kcnt_mono G (Nat.le_of_lt q); rwa [List.take_length] at this
  · rw [List.take_of_length_le q]; exact Int.le_refl _
theorem kbeg_le (G : Kin) (x : Int) : kbeg G x ≤ kcnt G := kcnt_take_le G _
theorem kcnt_nonneg (G : Kin) : 0 ≤ kcnt G := by unfold kcnt; omega
theorem kbeg_nonneg (G : Kin) (x : Int) : 0 ≤ kbeg G x := kcnt_nonneg _
theorem find_range {n : Nat} {p : Nat → Bool} {k : Nat} (hk : k < n) (hp : p k = true) (h : ∀ j, j < k → p j = false) : (List.range n).find? p = some k := by
  rw [List.find?_range_eq_some]
  exact ⟨hp, by simpa using hk, fun j hj => by simp [h j hj]⟩
theorem kgrp_some {G : Kin} {a : Int} {k : Nat} (hk : k < G.length) (hp : a < kcnt (G.take (k + 1))) (h : ∀ j, j < k → ¬ a < kcnt (G.take (j + 1))) : kgrp G a = (k : Int) := by
  unfold kgrp
  rw [find_range hk (by simpa using hp) (fun j hj => by simpa using h j hj)]; rfl
theorem kgrp_none {G : Kin} {a : Int} (h : ∀ j, j < G.length → ¬ a < kcnt (G.take (j + 1))) : kgrp G a = -1 := by
  unfold kgrp
  rw [List.find?_eq_none.2 (fun j hj => by simpa using h j (List.mem_range.1 hj))]; rfl
/-- A type is in its group. -/
theorem kgrp_spec {G : Kin} {a : Int} (h0 : 0 ≤ a) (h : a < kcnt G) : ∃ k : Nat, kgrp G a = (k : Int) ∧ k < G.length ∧ kbeg G (k : Int) ≤ a ∧ a < kbeg G (k : Int) + ((idx G (k : Int)).length : Int) := by
  have hex : ∃ k, k < G.length ∧ a < kcnt (G.take (k + 1)) := by
    have hG : G ≠ [] := fun e => by subst e; simp [kcnt] at h; omega
    have hl : 0 < G.length := List.length_pos_iff.2 hG
    exact ⟨G.length - 1, by omega, by rw [show G.length - 1 + 1 = G.length from by omega, List.take_length]; exact h⟩
  obtain ⟨k, ⟨hk, hp⟩, hmin⟩ := least hex
  refine ⟨k, kgrp_some hk hp (fun j hj q => by have := hmin j ⟨by omega, q⟩; omega), hk, ?_, ?_⟩
  · unfold kbeg
    rw [Int.toNat_natCast]
    rcases Nat.eq_zero_or_pos k with q | q
    · subst q; simp [kcnt]; exact h0
    · by_cases hh : a < kcnt (G.take (k - 1 + 1))
      · have := hmin (k - 1) ⟨by omega, hh⟩; omega
      · rw [show k - 1 + 1 = k from by omega] at hh; omega
  · unfold kbeg
    rw [Int.toNat_natCast, ← kcnt_step G k hk]; exact hp

def kmatch (S : Int → Int → Bool) (G : Kin) (a b x y : Int) : Bool :=
  if a < 0 ∨ b < 0 then decide (a = b)
  else if kbeg G x ≤ a ∧ kbeg G y ≤ b then decide (a - kbeg G x = b - kbeg G y)
  else decide (a < kbeg G x) && decide (b < kbeg G y) && S a b
def kalike (S : Int → Int → Bool) (G : Kin) (s t : Ty) (x y : Int) : Bool :=
  decide (s.kind = t.kind) && (s.last == t.last) && decide (s.fields.length = t.fields.length) && kmatch S G s.up t.up x y &&
    allN s.fields.length fun i => decide ((idx s.fields i).kind = (idx t.fields i).kind) && ((idx s.fields i).mu == (idx t.fields i).mu) && (decide ((idx s.fields i).kind = 1) || kmatch S G (idx s.fields i).of (idx t.fields i).of x y)
def same : Nat → Kin → Int → Int → Bool
  | 0, _, _, _ => false
  | n + 1, G, a, b =>
    if a = b then true
    else if kgrp G a = kgrp G b ∨ a - kbeg G (kgrp G a) ≠ b - kbeg G (kgrp G b) ∨ (idx G (kgrp G a)).length ≠ (idx G (kgrp G b)).length then false
    else allN (idx G (kgrp G a)).length fun i => kalike (same n G) G (idx (idx G (kgrp G a)) i) (idx (idx G (kgrp G b)) i) (kgrp G a) (kgrp G b)
def ksame (G : Kin) (a b : Int) : Bool := same (a.toNat + 1) G a b
theorem kmatch_congr {S S' : Int → Int → Bool} {G : Kin} {a b x y : Int} (h : ∀ c d, 0 ≤ c → c < kbeg G x → S c d = S' c d) : kmatch S G a b x y = kmatch S' G a b x y := by
  unfold kmatch
  split
  · rfl
  · split
    · rfl
    · by_cases q : a < kbeg G x
      · rw [h a b (by omega) q]
      · simp [q]
theorem kalike_congr {S S' : Int → Int → Bool} {G : Kin} {s t : Ty} {x y : Int} (h : ∀ c d, 0 ≤ c → c < kbeg G x → S c d = S' c d) : kalike S G s t x y = kalike S' G s t x y := by
  unfold kalike
  rw [kmatch_congr h]
  congr 1
  exact allN_congr fun j _ => by rw [kmatch_congr h]
theorem same_fuel {G : Kin} : ∀ (n m : Nat) (a b : Int), 0 ≤ a → a < kcnt G → a < n → a < m → same n G a b = same m G a b
  | 0, _, a, _, h0, _, hn, _ => by omega
  | _ + 1, 0, a, _, h0, _, _, hm => by omega
  | n + 1, m + 1, a, b, h0, hc, hn, hm => by
    unfold same
    split
    · rfl
    · split
      · rfl
      · obtain ⟨k, h1, h2, h3, h4⟩ := kgrp_spec h0 hc
        refine allN_congr fun j _ => kalike_congr fun c d hc0 hlt => ?_
        rw [h1] at hlt
        exact same_fuel n m c d hc0 (by omega) (by omega) (by omega)
theorem same_ksame {G : Kin} {n : Nat} {a b : Int} (h0 : 0 ≤ a) (hc : a < kcnt G) (hn : a < n) : same n G a b = ksame G a b := same_fuel n _ a b h0 hc hn (by omega)
/-- Two types of the same structure. -/
theorem ksame_eq {G : Kin} {a b : Int} (h0 : 0 ≤ a) (hc : a < kcnt G) : ksame G a b =
    if a = b then true
    else if kgrp G a = kgrp G b ∨ a - kbeg G (kgrp G a) ≠ b - kbeg G (kgrp G b) ∨ (idx G (kgrp G a)).length ≠ (idx G (kgrp G b)).length then false
    else allN (idx G (kgrp G a)).length fun i => kalike (ksame G) G (idx (idx G (kgrp G a)) i) (idx (idx G (kgrp G b)) i) (kgrp G a) (kgrp G b) := by
  conv => lhs; unfold ksame same
  split
  · rfl
  · split
    · rfl
    · obtain ⟨k, h1, h2, h3, h4⟩ := kgrp_spec h0 hc
      refine allN_congr fun j _ => kalike_congr fun c d hc0 hlt => ?_
      rw [h1] at hlt
      exact same_ksame hc0 (by omega) (by omega)

/-- A type and all above it. -/
def kchain (L : List Ty) : Nat → Int → List Int
  | 0, _ => []
  | n + 1, a => if a < 0 then [] else a :: kchain L n (idx L a).up
/-- Supertypes precede. -/
def Ups (L : List Ty) : Prop := ∀ i : Int, 0 ≤ i → i < L.length → -1 ≤ (idx L i).up ∧ (idx L i).up < i
theorem kchain_fuel {L : List Ty} (hU : Ups L) : ∀ (n m : Nat) (a : Int), a < L.length → a < n → a < m → kchain L n a = kchain L m a
  | 0, 0, _, _, _, _ => rfl
  | 0, m + 1, a, _, h, _ => by unfold kchain; rw [if_pos (by omega)]
  | n + 1, 0, a, _, _, h => by unfold kchain; rw [if_pos (by omega)]
  | n + 1, m + 1, a, hl, hn, hm => by
    unfold kchain
    by_cases q : a < 0
    · rw [if_pos q, if_pos q]
    · rw [if_neg q, if_neg q]
      have := hU a (by omega) hl
      rw [kchain_fuel hU n m _ (by omega) (by omega) (by omega)]
def kline (L : List Ty) (a : Int) : List Int := kchain L (a.toNat + 1) a
theorem kline_neg {L : List Ty} {a : Int} (h : a < 0) : kline L a = [] := by unfold kline kchain; rw [if_pos h]
theorem kline_cons {L : List Ty} (hU : Ups L) {a : Int} (h0 : 0 ≤ a) (hl : a < L.length) : kline L a = a :: kline L (idx L a).up := by
  conv => lhs; unfold kline kchain
  rw [if_neg (by omega)]
  have := hU a h0 hl
  unfold kline
  rw [kchain_fuel hU a.toNat ((idx L a).up.toNat + 1) _ (by omega) (by omega) (by omega)]
def kunder (G : Kin) (a b : Int) : Bool := if b = -1 ∨ a = b then true else if a < 0 ∨ b < 0 then false else (kline G.flatten a).any fun c => ksame G c b
def ksort (G : Kin) (a b : Fld) : Bool := if a.kind = 1 ∨ b.kind = 1 then decide (a.kind = b.kind) else (decide (a.kind = 3) || decide (b.kind = 2)) && kunder G a.of b.of
def kfits (G : Kin) (a b : Fld) : Bool := (a.mu == b.mu) && ksort G a b && (!a.mu || ksort G b a)
def kbelow (G : Kin) (t u : Ty) : Bool := decide (t.kind = u.kind) && !u.last && decide (u.fields.length ≤ t.fields.length) && allN u.fields.length fun i => kfits G (idx t.fields i) (idx u.fields i)
def kform (t : Ty) (me n : Int) : Bool := decide (-1 ≤ t.up) && decide (t.up < me) && decide (t.fields.length ≤ 4) && (decide (t.kind = 1) || decide (t.kind = 2) && decide (t.fields.length = 1)) && allN t.fields.length fun i => fieldOk (idx t.fields i) n
def kparts (G : Kin) : Bool := decide (G.length ≤ 4) && decide (kcnt G ≤ 8) && allN G.length fun i => decide ((idx G i).length ≠ 0) && allN (idx G i).length fun k => kform (idx (idx G i) k) (kbeg G i + k) (kbeg G i + (idx G i).length)
def kinOk (G : Kin) : Bool := kparts G && allN G.flatten.length fun i => !decide (0 ≤ (idx G.flatten i).up) || kbelow G (idx G.flatten i) (idx G.flatten (idx G.flatten i).up)
end Go.L
namespace Go.L
open Go
theorem kbeg_nat (G : Kin) (k : Nat) : kbeg G (k : Int) = kcnt (G.take k) := by unfold kbeg; rw [Int.toNat_natCast]
/-- A type by its group and its place in it. -/
theorem flat_at {G : Kin} : ∀ {i k : Nat}, i < G.length → k < (idx G (i : Int)).length → (kbeg G (i : Int)).toNat + k < G.flatten.length ∧ G.flatten[(kbeg G (i : Int)).toNat + k]? = (idx G (i : Int))[k]? := by
  intro i k hi hk
  have e : G = G.take i ++ (idx G (i : Int)) :: G.drop (i + 1) := by rw [idx_nat hi, ← List.drop_eq_getElem_cons hi, List.take_append_drop]
  have hb : (kbeg G (i : Int)).toNat = (G.take i).flatten.length := by rw [kbeg_nat]; unfold kcnt; simp
  have e2 : G.flatten = (G.take i).flatten ++ (idx G (i : Int) ++ (G.drop (i + 1)).flatten) := by
    conv => lhs; rw [e]
    rw [List.flatten_append, List.flatten_cons]
  rw [hb]
  constructor
  · conv => rhs; rw [e2]
    simp only [List.length_append]; omega
  · conv => lhs; rw [e2]
    rw [List.getElem?_append_right (by omega), Nat.add_sub_cancel_left, List.getElem?_append_left hk]
theorem idx_getD {T : Type} [Inhabited T] {L M : List T} {i j : Nat} (h : L[i]? = M[j]?) : idx L (i : Int) = idx M (j : Int) := by
  unfold idx; simp [List.getD_eq_getElem?_getD, h]
theorem flat_at' {G : Kin} {i k : Nat} (hi : i < G.length) (hk : k < (idx G (i : Int)).length) : idx G.flatten (kbeg G (i : Int) + (k : Int)) = idx (idx G (i : Int)) (k : Int) := by
  have h := (flat_at hi hk).2
  have e : kbeg G (i : Int) + (k : Int) = (((kbeg G (i : Int)).toNat + k : Nat) : Int) := by have := kbeg_nonneg G (i : Int); omega
  rw [e]; exact idx_getD h
theorem flat_of {G : Kin} {a : Int} (h0 : 0 ≤ a) (h : a < kcnt G) : ∃ i k : Nat, i < G.length ∧ k < (idx G (i : Int)).length ∧ a = kbeg G (i : Int) + (k : Int) ∧ kgrp G a = (i : Int) ∧ idx G.flatten a = idx (idx G (i : Int)) (k : Int) := by
  obtain ⟨i, h1, h2, h3, h4⟩ := kgrp_spec h0 h
  refine ⟨i, (a - kbeg G (i : Int)).toNat, h2, by omega, by omega, h1, ?_⟩
  rw [← flat_at' h2 (by omega)]
  congr 1; omega
/-- References of a type are to types. -/
def RefOk (G : Kin) (t : Ty) : Prop := ∀ f ∈ t.fields, f.kind ≠ 1 → f.of < kcnt G
structure PartsOk (G : Kin) : Prop where
  cnt : kcnt G ≤ 8
  ups : Ups G.flatten
  tf : ∀ a : Int, 0 ≤ a → a < kcnt G → RefOk G (idx G.flatten a)
  form : ∀ i k : Nat, i < G.length → k < (idx G (i : Int)).length → kform (idx (idx G (i : Int)) (k : Int)) (kbeg G (i : Int) + (k : Int)) (kbeg G (i : Int) + ((idx G (i : Int)).length : Int)) = true
theorem grp_end (G : Kin) (i : Nat) (h : i < G.length) : kbeg G (i : Int) + ((idx G (i : Int)).length : Int) ≤ kcnt G := by
  rw [kbeg_nat, ← kcnt_step G i h]; exact kcnt_take_le G _
theorem kparts_ok {G : Kin} (h : kparts G = true) : PartsOk G := by
  unfold kparts at h
  simp only [Bool.and_eq_true, decide_eq_true_eq, allN_iff] at h
  obtain ⟨⟨h1, h2⟩, h3⟩ := h
  have hform : ∀ i k : Nat, i < G.length → k < (idx G (i : Int)).length → kform (idx (idx G (i : Int)) (k : Int)) (kbeg G (i : Int) + (k : Int)) (kbeg G (i : Int) + ((idx G (i : Int)).length : Int)) = true := fun i k hi hk => (h3 i hi).2 k hk
  refine ⟨h2, fun a h0 ha => ?_, fun a h0 ha => ?_, hform⟩
  · obtain ⟨i, k, hi, hk, ea, _, et⟩ := flat_of h0 ha
    have := hform i k hi hk
    unfold kform at this
    simp only [Bool.and_eq_true, decide_eq_true_eq] at this
    rw [et]; omega
  · obtain ⟨i, k, hi, hk, ea, _, et⟩ := flat_of h0 ha
    have := hform i k hi hk
    unfold kform at this
    simp only [Bool.and_eq_true, decide_eq_true_eq, allN_iff] at this
    rw [et]
    intro f hf hkd
    obtain ⟨j, hj, rfl⟩ := List.getElem_of_mem hf
    have hfo := this.2 j hj
    rw [idx_nat hj] at hfo
    have hend := grp_end G i hi
    unfold fieldOk at hfo
    rw [if_neg hkd] at hfo
    split at hfo
    · simp at hfo; omega
    · cases hfo
theorem RefOk.idx' {G : Kin} {t : Ty} (h : RefOk G t) {k : Int} (h0 : 0 ≤ k) (hk : k < t.fields.length) : (idx t.fields k).kind ≠ 1 → (idx t.fields k).of < kcnt G := h _ (idx_mem h0 hk)

def kcanon (G : Kin) (a : Int) : Int := ((List.range a.toNat).find? fun i : Nat => ksame G (i : Int) a).elim a fun i : Nat => (i : Int)
theorem kcanon_some {G : Kin} {a : Int} {k : Nat} (hk : (k : Int) < a) (hp : ksame G (k : Int) a = true) (h : ∀ j : Nat, j < k → ksame G (j : Int) a = false) : kcanon G a = (k : Int) := by
  unfold kcanon
  rw [find_range (by omega) hp h]; rfl
theorem kcanon_none {G : Kin} {a : Int} (h : ∀ j : Nat, (j : Int) < a → ksame G (j : Int) a = false) : kcanon G a = a := by
  unfold kcanon
  rw [List.find?_eq_none.2 (fun j hj => by rw [h j (by have := List.mem_range.1 hj; omega)]; simp)]; rfl
def kinLine (G : Kin) (a : Int) : List Int := ((kline G.flatten a).map (kcanon G)).reverse
end Go.L
namespace Go.L
open Go
/-- What is left, or -1. -/
def neg1 (x : Int) : Int := if x < 0 then -1 else x
def bulkL {T : Type} (f : T → Nat) (L : List T) : Nat := L.length + (L.map f).sum
def sumTo {T : Type} (f : T → Nat) (L : List T) (k : Nat) : Nat := ((L.take k).map f).sum
theorem sumTo_step {T : Type} [Inhabited T] (f : T → Nat) (L : List T) (k : Nat) (h : k < L.length) : sumTo f L (k + 1) = sumTo f L k + f (idx L (k : Int)) := by
  unfold sumTo; rw [take_snoc h]; simp
theorem sum_split {T : Type} (f : T → Nat) (L : List T) (k : Nat) : (L.map f).sum = ((L.take k).map f).sum + ((L.drop k).map f).sum := by
  rw [← List.sum_append, ← List.map_append, List.take_append_drop]
theorem sumTo_le {T : Type} (f : T → Nat) (L : List T) (k : Nat) : L.length + sumTo f L k ≤ bulkL f L := by
  unfold sumTo bulkL
  have := sum_split f L k
  omega
theorem sumTo_all {T : Type} (f : T → Nat) (L : List T) (k : Nat) (h : L.length ≤ k) : L.length + sumTo f L k = bulkL f L := by
  unfold sumTo bulkL; rw [List.take_of_length_le h]
theorem sumTo_zero {T : Type} (f : T → Nat) (L : List T) : sumTo f L 0 = 0 := rfl
theorem bulk_mem {T : Type} {f : T → Nat} {L : List T} {x : T} (h : x ∈ L) : f x ≤ bulkL f L := by
  unfold bulkL
  have : f x ≤ (L.map f).sum := by
    induction L with
    | nil => cases h
    | cons y L ih =>
      rw [List.map_cons, List.sum_cons]
      rcases List.mem_cons.1 h with rfl | h
      · omega
      · have := ih h; omega
  omega
theorem bulk_idx {T : Type} [Inhabited T] {f : T → Nat} {L : List T} {k : Int} (h0 : 0 ≤ k) (h : k < L.length) : f (idx L k) ≤ bulkL f L := bulk_mem (idx_mem h0 h)
theorem bulk_len {T : Type} {f : T → Nat} {L : List T} : L.length ≤ bulkL f L := by unfold bulkL; omega
def bTy (t : Ty) : Nat := t.fields.length
def bTys (L : List Ty) : Nat := bulkL bTy L
def bKin (G : Kin) : Nat := bulkL bTys G
theorem sumTo_le' {T : Type} (f : T → Nat) (L : List T) (k : Nat) : sumTo f L k ≤ (L.map f).sum := by
  unfold sumTo
  have := sum_split f L k
  omega
theorem sumTo_all' {T : Type} (f : T → Nat) (L : List T) (k : Nat) (h : L.length ≤ k) : sumTo f L k = (L.map f).sum := by
  unfold sumTo; rw [List.take_of_length_le h]
/-- Numbers on from k. -/
def from_ (k : Int) (n : Nat) : List Int := (List.range n).map fun i : Nat => k + (i : Int)
theorem from_length (k : Int) (n : Nat) : (from_ k n).length = n := by simp [from_]
def heldInts (L : List Int) (k : Int) : Int := if allN L.length (fun i => decide (idx L (i : Int) = k + i)) then k + L.length else -1
theorem heldInts_from (k : Int) (n : Nat) : heldInts (from_ k n) k = k + n := by
  unfold heldInts
  rw [allN_true (fun j hj => ?_), if_pos rfl, from_length]
  rw [from_length] at hj
  have : idx (from_ k n) (j : Int) = (from_ k n)[j]'(by rw [from_length]; exact hj) := idx_nat (by rw [from_length]; exact hj)
  rw [this]; simp [from_]
end Go.L
namespace Go.L
open Go
/-- The shape alone. -/
def sFld (_ : Fld) : List A := [A.anyI, A.anyI, A.anyB]
def sTy (t : Ty) : List A := [A.anyI, A.anyI, A.anyB, A.sl 3 sFld t.fields]
def sGrp (g : List Ty) : List A := [A.sl 4 sTy g]
def sInt (_ : Int) : List A := [A.anyI]
/-- How many marks. -/
def mTy (t : Ty) : Nat := 3 + 3 * t.fields.length
def mTys (L : List Ty) : Nat := (L.map mTy).sum
def mKin (G : Kin) : Nat := (G.map mTys).sum
theorem over_mid {S : Type} (X Z : List S) (y v : S) (o : Nat) (h : o = X.length) : over (X ++ y :: Z) o [v] = X ++ v :: Z := by
  subst h; unfold over; simp
theorem mark_step (L : List Int) (k : Int) (j : Nat) (sp : List A) (h : j < L.length) : over ((from_ k j ++ L.drop j).map A.int ++ sp) ((j : Int).toNat * 1) [A.int (k + (j : Int))] = (from_ k (j + 1) ++ L.drop (j + 1)).map A.int ++ sp := by
  rw [Int.toNat_natCast, Nat.mul_one, List.drop_eq_getElem_cons h, List.map_append, List.map_cons, List.append_assoc, List.cons_append]
  rw [over_mid _ _ _ _ _ (by simp [from_length])]
  simp [from_, List.range_succ]
theorem mark_len (L : List Int) (k : Int) (j : Nat) (sp : List A) (h : j ≤ L.length) : ((from_ k j ++ L.drop j).map A.int ++ sp).length = L.length + sp.length := by
  simp [from_length]; omega
theorem mark_zero (L : List Int) (k : Int) (sp : List A) : (from_ k 0 ++ L.drop 0).map A.int ++ sp = L.map A.int ++ sp := rfl
theorem mark_all (L : List Int) (k : Int) (j : Nat) (sp : List A) (h : L.length = j) : (from_ k j ++ L.drop j).map A.int ++ sp = (from_ k L.length).map A.int ++ sp := by
  rw [← h, List.drop_length, List.append_nil]
end Go.L
namespace Go.L
open Go
theorem kchain_len (L : List Ty) : ∀ (n : Nat) (a : Int), (kchain L n a).length ≤ n
  | 0, _ => Nat.le_refl _
  | n + 1, a => by
    unfold kchain
    split
    · simp
    · have := kchain_len L n (idx L a).up
      simp; omega
theorem kline_len (L : List Ty) (a : Int) : (kline L a).length ≤ a.toNat + 1 := kchain_len L _ a
theorem rev_step (L : List Int) (i : Int) (h0 : 0 ≤ i) (h : i < L.length) : (L.drop (i + 1).toNat).reverse ++ [idx L i] = (L.drop i.toNat).reverse := by
  rw [idx_eq h0 h, List.drop_eq_getElem_cons (show i.toNat < L.length by omega), List.reverse_cons, show (i + 1).toNat = i.toNat + 1 from by omega]
end Go.L
namespace Go.L
open Go
theorem kinOk_parts {G : Kin} (h : kinOk G = true) : kparts G = true := by unfold kinOk at h; simp only [Bool.and_eq_true] at h; exact h.1
def kinIn (l t : List Int) : Bool := decide (0 < t.length) && decide (t.length ≤ l.length) && decide (idx l ((t.length : Int) - 1) = idx t ((t.length : Int) - 1))
def kinUnder (G : Kin) (a b : Int) : Bool := decide (-2 ≤ a) && decide (a < kcnt G) && (decide (-2 ≤ b) && decide (b < kcnt G)) && kinOk G && kunder G a b
end Go.L
