import Derived.Test.YtfjggobjijeniaaPure10
/-! Objects of a heap, as the program keeps them. -/
namespace Go.L
open Go
def thingAt (T : List Ty) (W : List Int) (a : Int) : Thg := ⟨idx W a / 16, (List.range (idx W a % 16).toNat).map fun i : Nat => wval (fldAt (idx T (idx W a / 16)) i) (idx W (a + 1 + i))⟩
def decOk (T : List Ty) (W : List Int) (a : Int) : Bool := allN (idx W a % 16).toNat fun i => (wordVal (fldAt (idx T (idx W a / 16)) i) (idx W (a + 1 + i))).2
def kInt (n : Int) : Value := .int .i64 n
def thE (T : List Ty) (W : List Int) (S : List Int) : List (Value × A) := S.map fun a => (kInt a, A.agg (cThing (thingAt T W a)))
def hfd (T : List Ty) (W : List Int) (S : List Int) (n : Int) : Thg × Bool := if n ∈ S then (thingAt T W n, true) else (default, false)
def zThg : Value := .agg #[.int .i64 0, .slice none 0 0]
theorem thE_snoc (T : List Ty) (W : List Int) (S : List Int) (a : Int) : thE T W (S ++ [a]) = thE T W S ++ [(kInt a, A.agg (cThing (thingAt T W a)))] := by simp [thE]
theorem thE_keys {T : List Ty} {W : List Int} {S : List Int} : (thE T W S).map (·.1) = S.map kInt := by simp [thE]
theorem kInt_inj {a b : Int} (h : kInt a = kInt b) : a = b := by unfold kInt at h; injection h
theorem thE_nodup {T : List Ty} {W : List Int} {S : List Int} (h : S.Nodup) : ((thE T W S).map (·.1)).Nodup := by
  rw [thE_keys]; exact List.Pairwise.map _ (fun a b hab e => hab (kInt_inj e)) h
theorem thE_find {T : List Ty} {W : List Int} {S : List Int} (h : S.Nodup) (n : Int) : mfind (thE T W S) (kInt n) = if n ∈ S then some (A.agg (cThing (thingAt T W n))) else none := by
  split
  · rename_i hn
    exact mfind_some (thE_nodup h) (k := kInt n) (List.mem_map.2 ⟨n, hn, rfl⟩) rfl
  · rename_i hn
    refine mfind_none fun e he e' => ?_
    obtain ⟨a, ha, rfl⟩ := List.mem_map.1 he
    exact hn (kInt_inj e' ▸ ha)
theorem zThg_imp : Imp (A.val zThg) (A.agg (cThing default)) := fun r v h => ⟨_, h, rfl, Imp.nil r _ rfl, trivial⟩
theorem thE_look {T : List Ty} {W : List Int} {S : List Int} (h : S.Nodup) (n : Int) : Imp (A.tup [(mfind (thE T W S) (kInt n)).getD (A.val zThg), A.bool (mfind (thE T W S) (kInt n)).isSome]) (A.tup [A.agg (cThing (hfd T W S n).1), A.bool (hfd T W S n).2]) := by
  rw [thE_find h n]
  unfold hfd
  split
  · exact Imp.refl
  · intro r v ⟨vs, e, k⟩
    exact ⟨vs, e, AllImp.all2 (l := [A.agg (cThing default), A.bool false]) (m := [A.val zThg, A.bool false]) ⟨zThg_imp, Imp.refl, trivial⟩ k⟩
theorem thE_look0 {T : List Ty} {W : List Int} {S : List Int} (h : S.Nodup) {n : Int} (hn : n ∈ S) : Imp ((mfind (thE T W S) (kInt n)).getD (A.val zThg)) (A.agg (cThing (thingAt T W n))) := by
  rw [thE_find h n, if_pos hn]; exact Imp.refl
theorem hfields_len {G : Kin} {t many : Int} (h : (hfields G t many).2 = true) (h0 : 0 ≤ many) : ((hfields G t many).1.length : Int) = many := by
  unfold hfields at *
  split at h
  · cases h
  · rename_i h1
    rw [if_neg h1]
    split at h
    · rename_i h2; rw [if_pos h2]; simp at h ⊢; omega
    · rename_i h2; rw [if_neg h2]; simp at h ⊢; omega
theorem hfields_at {G : Kin} {t many : Int} {i : Nat} (h : (hfields G t many).2 = true) (hi : (i : Int) < many) : idx (hfields G t many).1 (i : Int) = fldAt (idx G.flatten t) i := by
  unfold hfields at *
  split at h
  · cases h
  · rename_i h1
    rw [if_neg h1]
    split at h
    · rename_i h2
      rw [if_pos h2]
      unfold fldAt; rw [if_pos h2]
      simp at h
      rw [idx_nat (by simp; omega)]; simp
    · rename_i h2; rw [if_neg h2]; unfold fldAt; rw [if_neg h2]
/-- The program's look at a head is the reference's. -/
theorem hfields_hlen {G : Kin} (hK : KG G) {w : Int} (h0 : 0 ≤ w) : (hfields G (w / 16) (w % 16)).2 = decide (0 ≤ hlen G.flatten w) ∧ ((hfields G (w / 16) (w % 16)).2 = true → hlen G.flatten w = w % 16) := by
  have hc : kcnt G = (G.flatten.length : Int) := rfl
  unfold hfields
  by_cases h1 : kcnt G ≤ w / 16
  · rw [if_pos (.inr h1)]
    refine ⟨?_, fun h => by cases h⟩
    unfold hlen; rw [if_pos (by omega)]; rfl
  · rw [if_neg (by omega)]
    obtain ⟨ty1, ty2, ty3, ty4⟩ := hK.tyAt (t := w / 16) (by omega) (by omega)
    have e : hlen G.flatten w = if ((idx G.flatten (w / 16)).kind = 1 ∧ w % 16 ≠ (idx G.flatten (w / 16)).fields.length) ∨ 6 < w % 16 then -1 else w % 16 := by
      unfold hlen; rw [if_neg (by omega)]
    by_cases h2 : (idx G.flatten (w / 16)).kind = 2
    · rw [if_pos h2, e]
      constructor
      · show decide (w % 16 ≤ 6) = _
        by_cases h3 : w % 16 ≤ 6
        · rw [if_neg (by omega)]; simp [h3]; omega
        · rw [if_pos (by omega)]; simp [h3]
      · intro h3; simp at h3; rw [if_neg (by omega)]
    · rw [if_neg h2, e]
      constructor
      · by_cases h3 : w % 16 = (idx G.flatten (w / 16)).fields.length
        · rw [if_neg (by omega)]; simp [h3]
        · rw [if_pos (by omega)]; simp [h3]
      · intro h3; simp at h3; rw [if_neg (by omega)]
theorem take_thing {T : List Ty} {W : List Int} {a : Int} : (List.range (idx W a % 16).toNat).map (fun i : Nat => wval (fldAt (idx T (idx W a / 16)) i) (idx W (a + 1 + i))) = (thingAt T W a).vals := rfl
end Go.L
namespace Go.L
theorem one_list {T : Type} [Inhabited T] {L : List T} (h : L.length = 1) : L = [idx L 0] := by
  match L, h with
  | [x], _ => rfl
end Go.L
namespace Go.L
theorem hlen_neg {T : List Ty} {w : Int} (h : w < 0) : hlen T w < 0 := by unfold hlen; rw [if_pos (by omega)]; omega
theorem thE_new {T : List Ty} {W L : List Int} {n : Int} (h : ∀ s ∈ L, s ≠ n) : ∀ y ∈ thE T W L, y.1 ≠ kInt n := fun y hy e => by
  obtain ⟨a, ha, rfl⟩ := List.mem_map.1 hy; exact h a ha (kInt_inj e)
theorem wordVal_fst {f : Fld} {w : Int} (h : (wordVal f w).2 = true) : (wordVal f w).1 = wval f w := by
  unfold wordVal at *; split
  · rename_i q; rw [if_pos q] at h; cases h
  · rfl
theorem range_snoc {T : Type} (f : Nat → T) (k : Nat) : (List.range (k + 1)).map f = (List.range k).map f ++ [f k] := by rw [List.range_succ, List.map_append]; rfl
theorem hp_fail {T : List Ty} {W : List Int} {a e x : Int} {D : List Int} (h2 : hpart T W a e = (D ++ (hpart T W x e).1, (hpart T W x e).2)) (hb : hpart T W x e = ([], false)) : false = ((hpart T W a e).2 && (hpart T W a e).1.all (decOk T W)) := by
  rw [h2, hb]; rfl
theorem hp_dec {T : List Ty} {W : List Int} {a e x : Int} {D : List Int} (h2 : hpart T W a e = (D ++ (hpart T W x e).1, (hpart T W x e).2)) (h1 : x < e) (hb : ¬ (hlen T (idx W x) < 0 ∨ e < x + 1 + hlen T (idx W x))) (hd : decOk T W x = false) :
    false = ((hpart T W a e).2 && (hpart T W a e).1.all (decOk T W)) := by
  rw [h2, hpart_step h1 hb]; simp [hd]
theorem hp_end {T : List Ty} {W : List Int} {a e x : Int} {D : List Int} (h2 : hpart T W a e = (D ++ (hpart T W x e).1, (hpart T W x e).2)) (h1 : ¬ x < e) (hd : D.all (decOk T W) = true) :
    true = ((hpart T W a e).2 && (hpart T W a e).1.all (decOk T W)) ∧ (hpart T W a e).1 = D := by
  rw [h2, hpart_end h1]; simp at hd ⊢; exact hd
end Go.L
namespace Go.L
theorem bad_or {T : List Ty} {w x e : Int} {ok : Bool} (hh : ok = decide (0 ≤ hlen T w) ∧ (ok = true → hlen T w = w % 16)) (h : ok = false ∨ e < x + 1 + w % 16) : hlen T w < 0 ∨ e < x + 1 + hlen T w := by
  cases ok with
  | false => left; have := of_decide_eq_false hh.1.symm; omega
  | true => right; rw [hh.2 rfl]; rcases h with q | q; cases q; exact q
end Go.L
