import Derived.Test.YtfjggobjijeniaaRows
import Derived.Test.YtfjggobjijeniaaWalk3
import Derived.Test.YtfjggobjijeniaaWalk2
import Derived.Test.YtfjggobjijeniaaPure1
import Derived.Test.YtfjggobjijeniaaA1
namespace Go.Proofs.Ytfjggobjijeniaa.A4
open Go Go.RowKit Go.L
theorem mix : Try.prog.follows .mixedOrders = true := by kernel_rfl
theorem cf140 : CallF Try.prog 140 := fun w vs => by kernel_rfl
end Go.Proofs.Ytfjggobjijeniaa.A4
namespace Go.Proofs.Ytfjggobjijeniaa
open Go Go.RowKit Go.L A4
set_option maxRecDepth 8000 in
theorem spec_l1Canon (G : Kin) (hG : Small G) (a : Int) (h0 : 0 ≤ a) (ha : a < kcnt G) : FnC Try.prog 107 [A.sl 1 cGrp G, A.int a] (A.int (kcanon G a)) := by
  have hcc := hG.kcnt
  refine Fn_of_W Try.func107 rfl rfl fun r w => ?_
  refine W_seq (W_region (WL_ac rfl ?_))
  refine WL_nil (Fin_then (W_seq (W_seq (W_region (WL_ac rfl ?_)))))
  refine WL_nil (Fin_then (W_block (W_loopk [0, 1] (T := Nat) (fun k => (k : Int) ≤ a ∧ ∀ j : Nat, j < k → ksame G (j : Int) a = false) (fun k => [(5, true, A.int (k : Int))]) (fun k => a.toNat - k) 0 ⟨by omega, fun j h => by omega⟩ ⟨⟨rfl, _, rfl, (by first | exact Imp.refl | exact Imp.slv | exact Imp.nil | exact Imp.int (by omega) | exact Imp.int (by simp; done) | exact Imp.bool (by simp_all; done))⟩, trivial⟩ (fun k hx => ?_))))
  have hk := hx.1
  refine W_seq (W_seq (W_region (WL_mv rfl rfl ?_)))
  refine WL_mv rfl rfl ?_
  refine ws O_lss ⟨T1 rfl, T1 rfl, trivial⟩ ?_
  refine WL_nil (Fin_then (W_cond rfl (fun h0 => ?_) (fun h0 => ?_)))
  · skip
    try simp only [bl] at h0
    refine W_skip (Fin_then (W_seq (W_block (W_seq (W_region (WL_mv rfl rfl ?_))))))
    refine WL_mv rfl rfl ?_
    refine WL_mv rfl rfl ?_
    refine ws (O_call cf140 (spec_l1Same _ (by assumption) _ _ (by omega) (by omega) (by omega) (by omega)) rfl) ⟨T1 rfl, T1 rfl, T1 rfl, trivial⟩ ?_
    refine WL_nil (Fin_then (W_cond rfl (fun h1 => ?_) (fun h1 => ?_)))
    · skip
      try simp only [bl] at h1
      refine W_seq (W_region (WL_mv rfl rfl ?_))
      refine WL_as rfl rfl ?_
      exact WL_nil (Fin_then (W_ret (Fin_block_ret (Fin_then_ret (Fin_then_ret (Fin_block_ret (Fin_then_ret (RetC rfl (Res1 rfl (RV.tmp rfl (Imp.int (kcanon_some (by omega) h1 hx.2).symm)))))))))))
    try simp only [bl] at h1
    refine W_skip (Fin_block (Fin_then (W_region (WL_mv rfl rfl ?_))))
    refine ws (O_add (by omega)) ⟨T1 rfl, C1, trivial⟩ ?_
    refine WL_as rfl rfl ?_
    exact WL_nil (Fin_back (k + 1) ⟨by omega, fun j hj => by rcases Nat.lt_or_ge j k with q | q; exact hx.2 j q; rw [show j = k from by omega]; exact h1⟩ (by omega) ⟨⟨rfl, _, rfl, (by first | exact Imp.refl | exact Imp.slv | exact Imp.nil | exact Imp.int (by omega) | exact Imp.int (by simp; done) | exact Imp.bool (by simp_all; done))⟩, trivial⟩ ⟨rfl, rfl, trivial⟩ rfl rfl)
  try simp only [bl] at h0
  refine W_exit (Fin_then_exit (Fin_then_exit (Fin_block_exit (Fin_then (W_seq (W_region (WL_mv rfl rfl ?_)))))))
  refine WL_as rfl rfl ?_
  exact WL_nil (Fin_then (W_ret (RetC rfl (Res1 rfl (RV.tmp rfl (Imp.int (kcanon_none (fun j hj => hx.2 j (by omega))).symm))))))
end Go.Proofs.Ytfjggobjijeniaa
