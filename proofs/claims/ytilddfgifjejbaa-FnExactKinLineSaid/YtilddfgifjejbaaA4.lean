import Derived.Test.YtilddfgifjejbaaRows
import Derived.Test.YtilddfgifjejbaaCal7
import Derived.Test.YtilddfgifjejbaaPure1
import Derived.Test.YtilddfgifjejbaaA1
namespace Go.Proofs.Ytilddfgifjejbaa.A4
open Go Go.RowKit Go.L
theorem mix : Try.prog.follows .mixedOrders = true := by kernel_rfl
theorem cf16 : CallF Try.prog 16 := fun w vs => by kernel_rfl
theorem cf34 : CallF Try.prog 34 := fun w vs => by kernel_rfl
theorem cf38 : CallF Try.prog 38 := fun w vs => by kernel_rfl
theorem cf39 : CallF Try.prog 39 := fun w vs => by kernel_rfl
theorem cf45 : CallF Try.prog 45 := fun w vs => by kernel_rfl
theorem cf51 : CallF Try.prog 51 := fun w vs => by kernel_rfl
theorem cf63 : CallF Try.prog 63 := fun w vs => by kernel_rfl
theorem cf71 : CallF Try.prog 71 := fun w vs => by kernel_rfl
theorem ta3 : TA Try.prog 3 := by unfold TA; kernel_rfl
theorem tez42 : TEZ Try.prog 42 3 1 8 [.int .i64 0] := ⟨by kernel_rfl, by kernel_rfl⟩
theorem te42 : TE Try.prog 42 3 1 8 := tez42.te rfl
theorem tf29_1 : TF Try.prog 29 1 1 := by unfold TF; kernel_rfl
theorem ts38 : TS Try.prog 38 29 4 := ⟨by kernel_rfl, by kernel_rfl⟩
theorem ts42 : TS Try.prog 42 3 1 := ⟨by kernel_rfl, by kernel_rfl⟩
end Go.Proofs.Ytilddfgifjejbaa.A4
namespace Go.Proofs.Ytilddfgifjejbaa
open Go Go.RowKit Go.L A4
set_option maxRecDepth 8000 in
theorem spec_l1Canon (G : Kin) (hG : Small G) (a : Int) (h0 : 0 ≤ a) (ha : a < kcnt G) : FnC Try.prog 71 [A.sl 1 cGrp G, A.int a] (A.int (kcanon G a)) := by
  have hcc := hG.kcnt
  refine Fn_of_W Try.func71 rfl rfl fun r w => ?_
  refine W_seq ?_
  refine W_region ?_  -- R0 l1_kin.go:242
  refine WL_ac rfl ?_
  refine WL_nil ?_
  refine Fin_then ?_
  refine W_seq ?_
  refine W_seq ?_
  refine W_region ?_  -- R1 l1_kin.go:243
  refine WL_ac rfl ?_
  refine WL_nil ?_
  refine Fin_then ?_
  refine W_block ?_
  refine W_loopk [0, 1] (T := Nat) (fun k => (k : Int) ≤ a ∧ ∀ j : Nat, j < k → ksame G (j : Int) a = false) (fun k => [(5, true, A.int (k : Int))]) (fun k => a.toNat - k) 0 ⟨by omega, fun j h => by omega⟩ ⟨⟨rfl, _, rfl, (by first | exact Imp.refl | exact Imp.slv | exact Imp.nil | exact Imp.int (by omega) | exact Imp.int (by simp; done) | exact Imp.bool (by simp_all; done))⟩, trivial⟩ (fun k hx => ?_)
  have hk := hx.1
  refine W_seq ?_
  refine W_seq ?_
  refine W_region ?_  -- R2 l1_kin.go:243
  refine WL_mv rfl rfl ?_
  refine WL_mv rfl rfl ?_
  refine WL_step (S_plain O_lss ⟨T1 rfl, T1 rfl, trivial⟩ rfl rfl) ?_
  refine WL_nil ?_
  refine Fin_then ?_
  refine W_cond rfl (fun h0 => ?_) (fun h0 => ?_)
  · skip
    try simp only [bl] at h0
    refine W_skip ?_
    refine Fin_then ?_
    refine W_seq ?_
    refine W_block ?_
    refine W_seq ?_
    refine W_region ?_  -- R4 l1_kin.go:244
    refine WL_mv rfl rfl ?_
    refine WL_mv rfl rfl ?_
    refine WL_mv rfl rfl ?_
    refine WL_step (S_plain (O_call cf63 (spec_l1Same _ (by assumption) _ _ (by omega) (by omega) (by omega) (by omega)) rfl) ⟨T1 rfl, T1 rfl, T1 rfl, trivial⟩ rfl rfl) ?_
    refine WL_nil ?_
    refine Fin_then ?_
    refine W_cond rfl (fun h1 => ?_) (fun h1 => ?_)
    · skip
      try simp only [bl] at h1
      refine W_seq ?_
      refine W_region ?_  -- R5 l1_kin.go:245
      refine WL_mv rfl rfl ?_
      refine WL_as rfl rfl ?_
      refine WL_nil ?_
      refine Fin_then ?_
      refine W_ret ?_
      refine Fin_block_ret ?_
      refine Fin_then_ret ?_
      refine Fin_then_ret ?_
      refine Fin_block_ret ?_
      refine Fin_then_ret ?_
      exact RetC rfl (Res1 rfl (RV.tmp rfl (Imp.int (kcanon_some (by omega) h1 hx.2).symm)))
    · skip
      try simp only [bl] at h1
      refine W_skip ?_
      refine Fin_block ?_
      refine Fin_then ?_
      refine W_region ?_  -- R3 l1_kin.go:243
      refine WL_mv rfl rfl ?_
      refine WL_step (S_plain (O_add (by omega)) ⟨T1 rfl, C1, trivial⟩ rfl rfl) ?_
      refine WL_as rfl rfl ?_
      refine WL_nil ?_
      exact Fin_back (k + 1) ⟨by omega, fun j hj => by rcases Nat.lt_or_ge j k with q | q; exact hx.2 j q; rw [show j = k from by omega]; exact h1⟩ (by omega) ⟨⟨rfl, _, rfl, (by first | exact Imp.refl | exact Imp.slv | exact Imp.nil | exact Imp.int (by omega) | exact Imp.int (by simp; done) | exact Imp.bool (by simp_all; done))⟩, trivial⟩ ⟨rfl, rfl, trivial⟩ rfl rfl
  · skip
    try simp only [bl] at h0
    refine W_exit ?_
    refine Fin_then_exit ?_
    refine Fin_then_exit ?_
    refine Fin_block_exit ?_
    refine Fin_then ?_
    refine W_seq ?_
    refine W_region ?_  -- R6 l1_kin.go:248
    refine WL_mv rfl rfl ?_
    refine WL_as rfl rfl ?_
    refine WL_nil ?_
    refine Fin_then ?_
    refine W_ret ?_
    exact RetC rfl (Res1 rfl (RV.tmp rfl (Imp.int (kcanon_none (fun j hj => hx.2 j (by omega))).symm)))
set_option maxRecDepth 8000 in
theorem spec_l1Line (G : Kin) (hG : Small G) (hU : Ups G.flatten) (a : Int) (h0 : 0 ≤ a) (ha : a < kcnt G) : FnC Try.prog 51 [A.sl 1 cGrp G, A.int a] (A.sl 1 cInt (kinLine G a)) := by
  have hcc := hG.kcnt
  have hkc : kcnt G = (G.flatten.length : Int) := rfl
  have hll := kline_len G.flatten a
  refine Fn_of_W Try.func51 rfl rfl fun r w => ?_
  refine W_seq ?_
  refine W_region ?_  -- R0 l1_kin.go:260
  refine WL_ac rfl ?_
  refine WL_nil ?_
  refine Fin_then ?_
  refine W_seq ?_
  refine W_region ?_  -- R1 l1_kin.go:261
  refine WL_mv rfl rfl ?_
  refine WL_step (S_plain (O_call cf45 (spec_l1Flat _ (by assumption)) rfl) ⟨T1 rfl, trivial⟩ rfl rfl) ?_
  refine WL_as rfl rfl ?_
  refine WL_nil ?_
  refine Fin_then ?_
  refine W_seq ?_
  refine W_region ?_  -- R2 l1_kin.go:262
  refine WL_slice0r cInt te42 rfl fun v11 => ?_
  refine WL_as rfl rfl ?_
  refine WL_nil ?_
  refine Fin_then ?_
  refine W_seq ?_
  refine W_block ?_
  refine W_loopp [0, 5] [] [0] [] (T := Int × List Int × Value) (fun x => x.1 < kcnt G ∧ -1 ≤ x.1 ∧ x.2.1 ++ (kline G.flatten x.1).map (kcanon G) = (kline G.flatten a).map (kcanon G)) (fun x => [(1, true, A.int x.1), (6, true, A.slv x.2.2 1 cInt x.2.1)]) (fun x => { own := [], rooms := [(x.2.2, 3, 1)], maps := [] }) (fun x => (x.1 + 1).toNat) (a, [], v11) ⟨by omega, by omega, rfl⟩ ⟨⟨rfl, _, rfl, (by first | exact Imp.refl | exact Imp.slv | exact Imp.nil | exact Imp.int (by omega) | exact Imp.int (by simp; done) | exact Imp.bool (by simp_all; done))⟩, ⟨rfl, _, rfl, (by first | exact Imp.refl | exact Imp.slv | exact Imp.nil | exact Imp.int (by omega) | exact Imp.int (by simp; done) | exact Imp.bool (by simp_all; done))⟩, trivial⟩ OSub.nil rfl rfl rfl (fun x hx => ?_)
  obtain ⟨hx1, hx2, hx3⟩ := hx
  have hxl := congrArg List.length hx3
  simp only [List.length_append, List.length_map] at hxl
  refine W_seq ?_
  refine W_seq ?_
  refine W_region ?_  -- R3 l1_kin.go:263
  refine WL_mv rfl rfl ?_
  refine WL_step (S_plain O_geq ⟨T1 rfl, C1, trivial⟩ rfl rfl) ?_
  refine WL_nil ?_
  refine Fin_then ?_
  refine W_cond rfl (fun h0 => ?_) (fun h0 => ?_)
  · skip
    try simp only [bl] at h0
    refine W_skip ?_
    refine Fin_then ?_
    refine W_block ?_
    refine W_seq ?_
    refine W_region ?_  -- R4 l1_kin.go:264
    refine WL_mv rfl rfl ?_
    refine WL_mv rfl rfl ?_
    refine WL_mv rfl rfl ?_
    refine WL_step (S_plain (O_call cf71 (spec_l1Canon _ (by assumption) _ (by omega) (by omega)) rfl) ⟨T1 rfl, T1 rfl, trivial⟩ rfl rfl) ?_
    refine WL_step (S_plain (O_slice1 (f := cInt) _ te42 rfl rfl (CellsOf.one OneV.int) AllImp.refl) ⟨T1 rfl, trivial⟩ rfl rfl) ?_
    refine WL_append 0 _ te42 ⟨T1 rfl, T1 rfl, trivial⟩ rfl (by decide) (fun _ => rfl) (fun _ => rfl) (fun _ => ⟨OneV.int, trivial⟩) rfl (by try simp only [List.length_cons, List.length_nil]; (first | done | omega)) (by simp only [maxLen, List.length_cons, List.length_nil]; omega) rfl fun v19 => ?_
    refine WL_as rfl rfl ?_
    refine WL_nil ?_
    refine Fin_then ?_
    refine W_region ?_  -- R5 l1_kin.go:265
    refine WL_mv rfl rfl ?_
    refine WL_mv rfl rfl ?_
    refine WL_step (S_plain (O_index ts38 (by omega)) ⟨T1 rfl, T1 rfl, trivial⟩ rfl rfl) ?_
    refine WL_step (S_plain (O_field tf29_1) ⟨T1 rfl, trivial⟩ rfl rfl) ?_
    refine WL_step (S_plain (O_load ta3) ⟨T1 rfl, trivial⟩ rfl rfl) ?_
    refine WL_as rfl rfl ?_
    refine WL_nil ?_
    refine Fin_block ?_
    have hu := hU x.1 (by omega) (by omega)
    rw [kline_cons (a := x.1) hU (by omega) (by omega), List.map_cons] at hx3
    exact Fin_backp [] ((idx G.flatten x.1).up, x.2.1 ++ [kcanon G x.1], v19) ⟨by simp only; omega, by simp only; omega, by rw [List.append_assoc]; exact hx3⟩ (by simp only; omega) ⟨⟨rfl, _, rfl, (by first | exact Imp.refl | exact Imp.slv | exact Imp.nil | exact Imp.int (by omega) | exact Imp.int (by simp; done) | exact Imp.bool (by simp_all; done))⟩, ⟨rfl, _, rfl, (by first | exact Imp.refl | exact Imp.slv | exact Imp.nil | exact Imp.int (by omega) | exact Imp.int (by simp; done) | exact Imp.bool (by simp_all; done))⟩, trivial⟩ ⟨rfl, rfl, trivial⟩ OSub.nil rfl (List.Sublist.refl _) rfl
  · skip
    try simp only [bl] at h0
    refine W_exit ?_
    refine Fin_then_exit ?_
    refine Fin_then_exit ?_
    refine Fin_block_exit ?_
    refine Fin_then ?_
    refine W_seq ?_
    refine W_region ?_  -- R6 l1_kin.go:267
    refine WL_slice0r cInt te42 rfl fun v25 => ?_
    refine WL_as rfl rfl ?_
    refine WL_nil ?_
    refine Fin_then ?_
    refine W_seq ?_
    refine W_seq ?_
    refine W_region ?_  -- R7 l1_kin.go:268
    refine WL_mv rfl rfl ?_
    refine WL_lenr ts42 rfl rfl fun hl27 => ?_
    refine WL_step (S_plain (O_sub (by omega)) ⟨T1 rfl, C1, trivial⟩ rfl rfl) ?_
    refine WL_as rfl rfl ?_
    refine WL_nil ?_
    refine Fin_then ?_
    refine W_block ?_
    refine W_loopp [6] [] [0] [] (T := Int × Value) (fun y => -1 ≤ y.1 ∧ y.1 < x.2.1.length) (fun y => [(7, true, A.slv y.2 1 cInt (x.2.1.drop (y.1 + 1).toNat).reverse), (8, true, A.int y.1)]) (fun y => { own := [], rooms := [(y.2, 3, 1)], maps := [] }) (fun y => (y.1 + 1).toNat) ((x.2.1.length : Int) - 1, v25) (by simp only; omega) ⟨⟨rfl, _, rfl, (Imp.eq (by simp))⟩, ⟨rfl, _, rfl, (by first | exact Imp.refl | exact Imp.slv | exact Imp.nil | exact Imp.int (by omega) | exact Imp.int (by simp; done) | exact Imp.bool (by simp_all; done))⟩, trivial⟩ OSub.nil rfl rfl rfl (fun y hx => ?_)
    refine W_seq ?_
    refine W_seq ?_
    refine W_region ?_  -- R8 l1_kin.go:268
    refine WL_mv rfl rfl ?_
    refine WL_step (S_plain O_geq ⟨T1 rfl, C1, trivial⟩ rfl rfl) ?_
    refine WL_nil ?_
    refine Fin_then ?_
    refine W_cond rfl (fun h1 => ?_) (fun h1 => ?_)
    · skip
      try simp only [bl] at h1
      refine W_skip ?_
      refine Fin_then ?_
      refine W_seq ?_
      refine W_block ?_
      refine W_region ?_  -- R10 l1_kin.go:269
      refine WL_mv rfl rfl ?_
      refine WL_mv rfl rfl ?_
      refine WL_mv rfl rfl ?_
      refine WL_step (S_plain ((O_index ts42 (by omega)).pre1 Imp.slv) ⟨T1 rfl, T1 rfl, trivial⟩ rfl rfl) ?_
      refine WL_step (S_plain (O_load ta3) ⟨T1 rfl, trivial⟩ rfl rfl) ?_
      refine WL_step (S_plain (O_slice1 (f := cInt) _ te42 rfl rfl (CellsOf.one OneV.int) AllImp.refl) ⟨T1 rfl, trivial⟩ rfl rfl) ?_
      refine WL_append 0 _ te42 ⟨T1 rfl, T1 rfl, trivial⟩ rfl (by decide) (fun _ => rfl) (fun _ => rfl) (fun _ => ⟨OneV.int, trivial⟩) rfl (by simp only [List.length_reverse, List.length_drop, List.length_cons, List.length_nil]; omega) (by simp only [maxLen, List.length_reverse, List.length_drop, List.length_cons, List.length_nil]; omega) rfl fun v39 => ?_
      refine WL_as rfl rfl ?_
      refine WL_nil ?_
      refine Fin_block ?_
      refine Fin_then ?_
      refine W_region ?_  -- R9 l1_kin.go:268
      refine WL_mv rfl rfl ?_
      refine WL_step (S_plain (O_sub (by omega)) ⟨T1 rfl, C1, trivial⟩ rfl rfl) ?_
      refine WL_as rfl rfl ?_
      refine WL_nil ?_
      exact Fin_backp [] (y.1 - 1, v39) (by simp only; omega) (by simp only; omega) ⟨⟨rfl, _, rfl, (Imp.eq (by simp only; rw [show y.1 - 1 + 1 = y.1 from by omega, rev_step _ _ (by omega) (by omega)]))⟩, ⟨rfl, _, rfl, (by first | exact Imp.refl | exact Imp.slv | exact Imp.nil | exact Imp.int (by omega) | exact Imp.int (by simp; done) | exact Imp.bool (by simp_all; done))⟩, trivial⟩ ⟨rfl, trivial⟩ OSub.nil rfl (List.Sublist.refl _) rfl
    · skip
      try simp only [bl] at h1
      refine W_exit ?_
      refine Fin_then_exit ?_
      refine Fin_then_exit ?_
      refine Fin_block_exit ?_
      refine Fin_then ?_
      refine W_seq ?_
      refine W_region ?_  -- R11 l1_kin.go:271
      refine WL_mv rfl rfl ?_
      refine WL_as rfl rfl ?_
      refine WL_nil ?_
      refine Fin_then ?_
      refine W_ret ?_
      exact RetC rfl (Res1 rfl (RV.tmp rfl (Imp.trans Imp.slv (Imp.eq (by rw [kline_neg (by omega), List.map_nil, List.append_nil] at hx3; unfold kinLine; rw [← hx3, show (y.1 + 1).toNat = 0 from by omega, List.drop_zero])))))
set_option maxRecDepth 8000 in
theorem spec_KinLine (G : Kin) (hG : Small G) (a : Int) : FnC Try.prog 23 [A.sl 1 cGrp G, A.int a] (A.sl 1 cInt (if 0 ≤ a ∧ a < kcnt G ∧ kinOk G = true then kinLine G a else [])) := by
  refine Fn_of_W Try.func23 rfl rfl fun r w => ?_
  refine W_seq ?_
  refine W_region ?_  -- R0 l1_kin.go:275
  refine WL_ac rfl ?_
  refine WL_nil ?_
  refine Fin_then ?_
  refine W_seq ?_
  refine W_seq ?_
  refine W_region ?_  -- R1 l1_kin.go:276
  refine WL_mv rfl rfl ?_
  refine WL_step (S_plain O_lss ⟨T1 rfl, C1, trivial⟩ rfl rfl) ?_
  refine WL_mv rfl rfl ?_
  refine WL_step (S_f1 rfl rfl (fun hc => O_move) ⟨⟨_, rfl, (by first | exact fun _ _ => rfl | exact fun h _ => h | exact fun _ h => h | exact fun h k => band h k | exact fun h _ => bandl h | exact fun h _ => bandr h)⟩, trivial⟩ rfl rfl rfl) ?_
  refine WL_step (S_f1 rfl rfl (fun hc => O_move) ⟨⟨_, rfl, (by first | exact fun _ _ => rfl | exact fun h _ => h | exact fun _ h => h | exact fun h k => band h k | exact fun h _ => bandl h | exact fun h _ => bandr h)⟩, trivial⟩ rfl rfl rfl) ?_
  refine WL_step (S_f1 rfl rfl (fun hc => (O_call cf34 (spec_KinCount _ (by assumption)) rfl)) ⟨⟨_, rfl, (by first | exact fun _ _ => rfl | exact fun h _ => h | exact fun _ h => h | exact fun h k => band h k | exact fun h _ => bandl h | exact fun h _ => bandr h)⟩, trivial⟩ rfl rfl rfl) ?_
  refine WL_step (S_f1 rfl rfl (fun hc => O_geq) ⟨⟨_, rfl, (by first | exact fun _ _ => rfl | exact fun h _ => h | exact fun _ h => h | exact fun h k => band h k | exact fun h _ => bandl h | exact fun h _ => bandr h)⟩, ⟨_, rfl, (by first | exact fun _ _ => rfl | exact fun h _ => h | exact fun _ h => h | exact fun h k => band h k | exact fun h _ => bandl h | exact fun h _ => bandr h)⟩, trivial⟩ rfl rfl rfl) ?_
  refine WL_step (S_plain O_or ⟨T1 rfl, ⟨_, rfl, (by first | exact fun _ _ => rfl | exact fun h _ => h | exact fun _ h => h | exact fun h k => band h k | exact fun h _ => bandl h | exact fun h _ => bandr h)⟩, trivial⟩ rfl rfl) ?_
  refine WL_mv rfl rfl ?_
  refine WL_step (S_f1 rfl rfl (fun hc => O_move) ⟨⟨_, rfl, (by first | exact fun _ _ => rfl | exact fun h _ => h | exact fun _ h => h | exact fun h k => band h k | exact fun h _ => bandl h | exact fun h _ => bandr h)⟩, trivial⟩ rfl rfl rfl) ?_
  refine WL_step (S_f1 rfl rfl (fun hc => (O_call cf16 (spec_KinOk _ (by assumption)) rfl)) ⟨⟨_, rfl, (by first | exact fun _ _ => rfl | exact fun h _ => h | exact fun _ h => h | exact fun h k => band h k | exact fun h _ => bandl h | exact fun h _ => bandr h)⟩, trivial⟩ rfl rfl rfl) ?_
  refine WL_step (S_f1 rfl rfl (fun hc => O_not) ⟨⟨_, rfl, (by first | exact fun _ _ => rfl | exact fun h _ => h | exact fun _ h => h | exact fun h k => band h k | exact fun h _ => bandl h | exact fun h _ => bandr h)⟩, trivial⟩ rfl rfl rfl) ?_
  refine WL_step (S_plain O_or ⟨T1 rfl, ⟨_, rfl, (by first | exact fun _ _ => rfl | exact fun h _ => h | exact fun _ h => h | exact fun h k => band h k | exact fun h _ => bandl h | exact fun h _ => bandr h)⟩, trivial⟩ rfl rfl) ?_
  refine WL_nil ?_
  refine Fin_then ?_
  refine W_cond rfl (fun h0 => ?_) (fun h0 => ?_)
  · skip
    try simp only [bl] at h0
    refine W_seq ?_
    refine W_region ?_  -- R2 l1_kin.go:277
    refine WL_step (S_plain (O_slice0 (f := cInt) te42) trivial rfl rfl) ?_
    refine WL_as rfl rfl ?_
    refine WL_nil ?_
    refine Fin_then ?_
    refine W_ret ?_
    refine Fin_then_ret ?_
    exact RetC rfl (Res1 rfl (RV.tmp rfl (Imp.eq (by rw [if_neg (by grind)]))))
  · skip
    try simp only [bl] at h0
    have hp := kparts_ok (kinOk_parts h0.2)
    have hU := hp.ups
    refine W_skip ?_
    refine Fin_then ?_
    refine W_seq ?_
    refine W_region ?_  -- R3 l1_kin.go:279
    refine WL_mv rfl rfl ?_
    refine WL_mv rfl rfl ?_
    refine WL_step (S_plain (O_call cf51 (spec_l1Line _ (by assumption) hU _ (by omega) (by omega)) rfl) ⟨T1 rfl, T1 rfl, trivial⟩ rfl rfl) ?_
    refine WL_as rfl rfl ?_
    refine WL_nil ?_
    refine Fin_then ?_
    refine W_ret ?_
    exact RetC rfl (Res1 rfl (RV.tmp rfl (Imp.eq (by rw [if_pos (by grind)]))))
set_option maxRecDepth 8000 in
theorem spec_KinIn (l t : List Int) : FnC Try.prog 31 [A.sl 1 cInt l, A.sl 1 cInt t] (A.bool (kinIn l t)) := by
  refine Fn_of_W Try.func31 rfl rfl fun r w => ?_
  refine W_seq ?_
  refine W_region ?_  -- R0 l1_kin.go:283
  refine WL_ac rfl ?_
  refine WL_nil ?_
  refine Fin_then ?_
  refine W_seq ?_
  refine W_region ?_  -- R1 l1_kin.go:284
  refine WL_mv rfl rfl ?_
  refine WL_len ts42 rfl rfl fun hl7 => ?_
  refine WL_as rfl rfl ?_
  refine WL_nil ?_
  refine Fin_then ?_
  refine W_seq ?_
  refine W_draw 21 mix rfl rfl ?_  -- R2 l1_kin.go:285
  refine Chain_cons (S_plain O_move ⟨T1 rfl, trivial⟩ rfl rfl) ?_
  refine Chain_cons (S_plain O_gtr ⟨T1 rfl, C1, trivial⟩ rfl rfl) ?_
  refine Chain_cons (S_plain O_move ⟨T1 rfl, trivial⟩ rfl rfl) ?_
  refine Chain_cons (S_t1 rfl rfl (fun hc => O_move) ⟨⟨_, rfl, (by first | exact fun _ _ => rfl | exact fun h _ => h | exact fun _ h => h | exact fun h k => band h k | exact fun h _ => bandl h | exact fun h _ => bandr h)⟩, trivial⟩ rfl rfl rfl) ?_
  refine Chain_cons (S_t1 rfl rfl (fun hc => O_move) ⟨⟨_, rfl, (by first | exact fun _ _ => rfl | exact fun h _ => h | exact fun _ h => h | exact fun h k => band h k | exact fun h _ => bandl h | exact fun h _ => bandr h)⟩, trivial⟩ rfl rfl rfl) ?_
  refine Chain_cons (S_t1 rfl rfl (fun hc => (O_len ts42)) ⟨⟨_, rfl, (by first | exact fun _ _ => rfl | exact fun h _ => h | exact fun _ h => h | exact fun h k => band h k | exact fun h _ => bandl h | exact fun h _ => bandr h)⟩, trivial⟩ rfl rfl rfl) ?_
  refine Chain_cons (S_t1 rfl rfl (fun hc => O_leq) ⟨⟨_, rfl, (by first | exact fun _ _ => rfl | exact fun h _ => h | exact fun _ h => h | exact fun h k => band h k | exact fun h _ => bandl h | exact fun h _ => bandr h)⟩, ⟨_, rfl, (by first | exact fun _ _ => rfl | exact fun h _ => h | exact fun _ h => h | exact fun h k => band h k | exact fun h _ => bandl h | exact fun h _ => bandr h)⟩, trivial⟩ rfl rfl rfl) ?_
  refine Chain_cons (S_plain O_and ⟨T1 rfl, ⟨_, rfl, (by first | exact fun _ _ => rfl | exact fun h _ => h | exact fun _ h => h | exact fun h k => band h k | exact fun h _ => bandl h | exact fun h _ => bandr h)⟩, trivial⟩ rfl rfl) ?_
  refine Chain_cons (S_plain O_move ⟨T1 rfl, trivial⟩ rfl rfl) ?_
  refine Chain_cons (S_t1 rfl rfl (fun hc => O_move) ⟨⟨_, rfl, (by first | exact fun _ _ => rfl | exact fun h _ => h | exact fun _ h => h | exact fun h k => band h k | exact fun h _ => bandl h | exact fun h _ => bandr h)⟩, trivial⟩ rfl rfl rfl) ?_
  refine Chain_cons (S_t1 rfl rfl (fun hc => O_move) ⟨⟨_, rfl, (by first | exact fun _ _ => rfl | exact fun h _ => h | exact fun _ h => h | exact fun h k => band h k | exact fun h _ => bandl h | exact fun h _ => bandr h)⟩, trivial⟩ rfl rfl rfl) ?_
  refine Chain_cons (S_t1 rfl rfl (fun hc => (O_sub (by (try simp only [bl] at hc); omega))) ⟨⟨_, rfl, (by first | exact fun _ _ => rfl | exact fun h _ => h | exact fun _ h => h | exact fun h k => band h k | exact fun h _ => bandl h | exact fun h _ => bandr h)⟩, C1, trivial⟩ rfl rfl rfl) ?_
  refine Chain_cons (S_t1 rfl rfl (fun hc => (O_index ts42 (by (try simp only [bl] at hc); omega))) ⟨⟨_, rfl, (by first | exact fun _ _ => rfl | exact fun h _ => h | exact fun _ h => h | exact fun h k => band h k | exact fun h _ => bandl h | exact fun h _ => bandr h)⟩, ⟨_, rfl, (by first | exact fun _ _ => rfl | exact fun h _ => h | exact fun _ h => h | exact fun h k => band h k | exact fun h _ => bandl h | exact fun h _ => bandr h)⟩, trivial⟩ rfl rfl rfl) ?_
  refine Chain_cons (S_t1 rfl rfl (fun hc => (O_load ta3)) ⟨⟨_, rfl, (by first | exact fun _ _ => rfl | exact fun h _ => h | exact fun _ h => h | exact fun h k => band h k | exact fun h _ => bandl h | exact fun h _ => bandr h)⟩, trivial⟩ rfl rfl rfl) ?_
  refine Chain_cons (S_t1 rfl rfl (fun hc => O_move) ⟨⟨_, rfl, (by first | exact fun _ _ => rfl | exact fun h _ => h | exact fun _ h => h | exact fun h k => band h k | exact fun h _ => bandl h | exact fun h _ => bandr h)⟩, trivial⟩ rfl rfl rfl) ?_
  refine Chain_cons (S_t1 rfl rfl (fun hc => O_move) ⟨⟨_, rfl, (by first | exact fun _ _ => rfl | exact fun h _ => h | exact fun _ h => h | exact fun h k => band h k | exact fun h _ => bandl h | exact fun h _ => bandr h)⟩, trivial⟩ rfl rfl rfl) ?_
  refine Chain_cons (S_t1 rfl rfl (fun hc => (O_sub (by (try simp only [bl] at hc); omega))) ⟨⟨_, rfl, (by first | exact fun _ _ => rfl | exact fun h _ => h | exact fun _ h => h | exact fun h k => band h k | exact fun h _ => bandl h | exact fun h _ => bandr h)⟩, C1, trivial⟩ rfl rfl rfl) ?_
  refine Chain_cons (S_t1 rfl rfl (fun hc => (O_index ts42 (by (try simp only [bl] at hc); omega))) ⟨⟨_, rfl, (by first | exact fun _ _ => rfl | exact fun h _ => h | exact fun _ h => h | exact fun h k => band h k | exact fun h _ => bandl h | exact fun h _ => bandr h)⟩, ⟨_, rfl, (by first | exact fun _ _ => rfl | exact fun h _ => h | exact fun _ h => h | exact fun h k => band h k | exact fun h _ => bandl h | exact fun h _ => bandr h)⟩, trivial⟩ rfl rfl rfl) ?_
  refine Chain_cons (S_t1 rfl rfl (fun hc => (O_load ta3)) ⟨⟨_, rfl, (by first | exact fun _ _ => rfl | exact fun h _ => h | exact fun _ h => h | exact fun h k => band h k | exact fun h _ => bandl h | exact fun h _ => bandr h)⟩, trivial⟩ rfl rfl rfl) ?_
  refine Chain_cons (S_t1 rfl rfl (fun hc => O_eql) ⟨⟨_, rfl, (by first | exact fun _ _ => rfl | exact fun h _ => h | exact fun _ h => h | exact fun h k => band h k | exact fun h _ => bandl h | exact fun h _ => bandr h)⟩, ⟨_, rfl, (by first | exact fun _ _ => rfl | exact fun h _ => h | exact fun _ h => h | exact fun h k => band h k | exact fun h _ => bandl h | exact fun h _ => bandr h)⟩, trivial⟩ rfl rfl rfl) ?_
  refine Chain_cons (S_plain O_and ⟨T1 rfl, ⟨_, rfl, (by first | exact fun _ _ => rfl | exact fun h _ => h | exact fun _ h => h | exact fun h k => band h k | exact fun h _ => bandl h | exact fun h _ => bandr h)⟩, trivial⟩ rfl rfl) ?_
  refine Chain_nil ?_
  refine WL_as rfl rfl ?_
  refine WL_nil ?_
  refine Fin_then ?_
  refine W_ret ?_
  exact RetC rfl (Res1 rfl (RV.tmp rfl (Imp.bool (by unfold kinIn; grind))))
set_option maxRecDepth 8000 in
theorem spec_KinUnder (G : Kin) (hG : Small G) (a b : Int) : FnC Try.prog 10 [A.sl 1 cGrp G, A.int a, A.int b] (A.bool (kinUnder G a b)) := by
  refine Fn_of_W Try.func10 rfl rfl fun r w => ?_
  refine W_seq ?_
  refine W_region ?_  -- R0 l1_kin.go:236
  refine WL_ac rfl ?_
  refine WL_nil ?_
  refine Fin_then ?_
  refine W_seq ?_
  refine W_region ?_  -- R1 l1_kin.go:237
  refine WL_mv rfl rfl ?_
  refine WL_step (S_plain (O_call cf34 (spec_KinCount _ (by assumption)) rfl) ⟨T1 rfl, trivial⟩ rfl rfl) ?_
  refine WL_as rfl rfl ?_
  refine WL_nil ?_
  refine Fin_then ?_
  refine W_seq ?_
  refine W_region ?_  -- R2 l1_kin.go:238
  refine WL_mv rfl rfl ?_
  refine WL_mv rfl rfl ?_
  refine WL_step (S_plain (O_call cf38 (spec_l1Of _ _) rfl) ⟨T1 rfl, T1 rfl, trivial⟩ rfl rfl) ?_
  refine WL_mv rfl rfl ?_
  refine WL_step (S_t1 rfl rfl (fun hc => O_move) ⟨⟨_, rfl, (by first | exact fun _ _ => rfl | exact fun h _ => h | exact fun _ h => h | exact fun h k => band h k | exact fun h _ => bandl h | exact fun h _ => bandr h)⟩, trivial⟩ rfl rfl rfl) ?_
  refine WL_step (S_t1 rfl rfl (fun hc => O_move) ⟨⟨_, rfl, (by first | exact fun _ _ => rfl | exact fun h _ => h | exact fun _ h => h | exact fun h k => band h k | exact fun h _ => bandl h | exact fun h _ => bandr h)⟩, trivial⟩ rfl rfl rfl) ?_
  refine WL_step (S_t1 rfl rfl (fun hc => (O_call cf38 (spec_l1Of _ _) rfl)) ⟨⟨_, rfl, (by first | exact fun _ _ => rfl | exact fun h _ => h | exact fun _ h => h | exact fun h k => band h k | exact fun h _ => bandl h | exact fun h _ => bandr h)⟩, ⟨_, rfl, (by first | exact fun _ _ => rfl | exact fun h _ => h | exact fun _ h => h | exact fun h k => band h k | exact fun h _ => bandl h | exact fun h _ => bandr h)⟩, trivial⟩ rfl rfl rfl) ?_
  refine WL_step (S_plain O_and ⟨T1 rfl, ⟨_, rfl, (by first | exact fun _ _ => rfl | exact fun h _ => h | exact fun _ h => h | exact fun h k => band h k | exact fun h _ => bandl h | exact fun h _ => bandr h)⟩, trivial⟩ rfl rfl) ?_
  refine WL_mv rfl rfl ?_
  refine WL_step (S_t1 rfl rfl (fun hc => O_move) ⟨⟨_, rfl, (by first | exact fun _ _ => rfl | exact fun h _ => h | exact fun _ h => h | exact fun h k => band h k | exact fun h _ => bandl h | exact fun h _ => bandr h)⟩, trivial⟩ rfl rfl rfl) ?_
  refine WL_step (S_t1 rfl rfl (fun hc => (O_call cf16 (spec_KinOk _ (by assumption)) rfl)) ⟨⟨_, rfl, (by first | exact fun _ _ => rfl | exact fun h _ => h | exact fun _ h => h | exact fun h k => band h k | exact fun h _ => bandl h | exact fun h _ => bandr h)⟩, trivial⟩ rfl rfl rfl) ?_
  refine WL_step (S_plain O_and ⟨T1 rfl, ⟨_, rfl, (by first | exact fun _ _ => rfl | exact fun h _ => h | exact fun _ h => h | exact fun h k => band h k | exact fun h _ => bandl h | exact fun h _ => bandr h)⟩, trivial⟩ rfl rfl) ?_
  refine WL_mv rfl rfl ?_
  refine WL_step (S_t1 rfl rfl (fun hc => O_move) ⟨⟨_, rfl, (by first | exact fun _ _ => rfl | exact fun h _ => h | exact fun _ h => h | exact fun h k => band h k | exact fun h _ => bandl h | exact fun h _ => bandr h)⟩, trivial⟩ rfl rfl rfl) ?_
  refine WL_step (S_t1 rfl rfl (fun hc => O_move) ⟨⟨_, rfl, (by first | exact fun _ _ => rfl | exact fun h _ => h | exact fun _ h => h | exact fun h k => band h k | exact fun h _ => bandl h | exact fun h _ => bandr h)⟩, trivial⟩ rfl rfl rfl) ?_
  refine WL_step (S_t1 rfl rfl (fun hc => O_move) ⟨⟨_, rfl, (by first | exact fun _ _ => rfl | exact fun h _ => h | exact fun _ h => h | exact fun h k => band h k | exact fun h _ => bandl h | exact fun h _ => bandr h)⟩, trivial⟩ rfl rfl rfl) ?_
  refine WL_step (S_t1 rfl rfl (fun hc => (O_call cf39 (spec_l1Under _ (by assumption) ((kparts_ok (kinOk_parts (by grind))).ups) _ _ (by grind) (by grind)) rfl)) ⟨⟨_, rfl, (by first | exact fun _ _ => rfl | exact fun h _ => h | exact fun _ h => h | exact fun h k => band h k | exact fun h _ => bandl h | exact fun h _ => bandr h)⟩, ⟨_, rfl, (by first | exact fun _ _ => rfl | exact fun h _ => h | exact fun _ h => h | exact fun h k => band h k | exact fun h _ => bandl h | exact fun h _ => bandr h)⟩, ⟨_, rfl, (by first | exact fun _ _ => rfl | exact fun h _ => h | exact fun _ h => h | exact fun h k => band h k | exact fun h _ => bandl h | exact fun h _ => bandr h)⟩, trivial⟩ rfl rfl rfl) ?_
  refine WL_step (S_plain O_and ⟨T1 rfl, ⟨_, rfl, (by first | exact fun _ _ => rfl | exact fun h _ => h | exact fun _ h => h | exact fun h k => band h k | exact fun h _ => bandl h | exact fun h _ => bandr h)⟩, trivial⟩ rfl rfl) ?_
  refine WL_as rfl rfl ?_
  refine WL_nil ?_
  refine Fin_then ?_
  refine W_ret ?_
  exact RetC rfl (Res1 rfl (RV.tmp rfl (Imp.bool (by unfold kinUnder; grind))))
end Go.Proofs.Ytilddfgifjejbaa
