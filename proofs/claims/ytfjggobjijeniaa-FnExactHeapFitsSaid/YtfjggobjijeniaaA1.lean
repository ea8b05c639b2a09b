import Derived.Test.YtfjggobjijeniaaRows
import Derived.Test.YtfjggobjijeniaaWalk3
import Derived.Test.YtfjggobjijeniaaPure1
namespace Go.Proofs.Ytfjggobjijeniaa.A1
open Go Go.RowKit Go.L
theorem mix : Try.prog.follows .mixedOrders = true := by kernel_rfl
theorem cf137 : CallF Try.prog 137 := fun w vs => by kernel_rfl
theorem cf138 : CallF Try.prog 138 := fun w vs => by kernel_rfl
theorem cf139 : CallF Try.prog 139 := fun w vs => by kernel_rfl
theorem cf140 : CallF Try.prog 140 := fun w vs => by kernel_rfl
theorem cf169 : CallF Try.prog 169 := fun w vs => by kernel_rfl
theorem cf170 : CallF Try.prog 170 := fun w vs => by kernel_rfl
theorem cf171 : CallF Try.prog 171 := fun w vs => by kernel_rfl
theorem cf180 : CallF Try.prog 180 := fun w vs => by kernel_rfl
theorem cf42 : CallF Try.prog 42 := fun w vs => by kernel_rfl
theorem cf43 : CallF Try.prog 43 := fun w vs => by kernel_rfl
theorem cf75 : CallF Try.prog 75 := fun w vs => by kernel_rfl
theorem cf86 : CallF Try.prog 86 := fun w vs => by kernel_rfl
theorem cf87 : CallF Try.prog 87 := fun w vs => by kernel_rfl
theorem cf90 : CallF Try.prog 90 := fun w vs => by kernel_rfl
theorem ta3 : TA Try.prog 3 := by unfold TA; kernel_rfl
theorem ta4 : TA Try.prog 4 := by unfold TA; kernel_rfl
theorem ta50 : TA Try.prog 50 := by unfold TA; kernel_rfl
theorem ta82 : TA Try.prog 82 := by unfold TA; kernel_rfl
theorem tez82 : TEZ Try.prog 82 145 4 48 [.int .i64 0, .int .i64 0, .bool false, .slice none 0 0] := ⟨by kernel_rfl, by kernel_rfl⟩
theorem te82 : TE Try.prog 82 145 4 48 := tez82.te rfl
theorem tf145_0 : TF Try.prog 145 0 0 := by unfold TF; kernel_rfl
theorem tf145_1 : TF Try.prog 145 1 1 := by unfold TF; kernel_rfl
theorem tf145_2 : TF Try.prog 145 2 2 := by unfold TF; kernel_rfl
theorem tf145_3 : TF Try.prog 145 3 3 := by unfold TF; kernel_rfl
theorem tf37_0 : TF Try.prog 37 0 0 := by unfold TF; kernel_rfl
theorem tf37_1 : TF Try.prog 37 1 1 := by unfold TF; kernel_rfl
theorem tf37_2 : TF Try.prog 37 2 2 := by unfold TF; kernel_rfl
theorem tg145 : TG Try.prog 145 4 := ⟨by kernel_rfl, by kernel_rfl⟩
theorem tg37 : TG Try.prog 37 3 := ⟨by kernel_rfl, by kernel_rfl⟩
theorem ts31 : TS Try.prog 31 82 1 := ⟨by kernel_rfl, by kernel_rfl⟩
theorem ts50 : TS Try.prog 50 37 3 := ⟨by kernel_rfl, by kernel_rfl⟩
theorem ts82 : TS Try.prog 82 145 4 := ⟨by kernel_rfl, by kernel_rfl⟩
theorem ub4 : Try.prog.underlying 4 = some .bool := by kernel_rfl
end Go.Proofs.Ytfjggobjijeniaa.A1
namespace Go.Proofs.Ytfjggobjijeniaa
open Go Go.RowKit Go.L A1
set_option maxRecDepth 8000 in
theorem spec_FieldOk (f : Fld) (n : Int) : FnC Try.prog 42 [A.agg (cFld f), A.int n] (A.bool (fieldOk f n)) := by
  refine Fn_of_W Try.func42 rfl rfl fun r w => ?_
  refine W_seq (W_region (ws O_boxg ⟨T1 rfl, trivial⟩ ?_))
  refine WL_ac rfl ?_
  refine WL_nil (Fin_then (W_seq (W_seq (W_region (ws (O_field tf37_0) ⟨T1 rfl, trivial⟩ ?_)))))
  refine ws (O_load ta3) ⟨T1 rfl, trivial⟩ ?_
  refine WL_nil (Fin_then (W_block (W_seq (W_region (ws O_eql ⟨T1 rfl, C1, trivial⟩ ?_)))))
  refine WL_as rfl rfl ?_
  refine WL_nil (Fin_then (W_cond rfl (fun h0 => ?_) (fun h0 => ?_)))
  · skip
    try simp only [bl] at h0
    refine W_seq (W_region (ws (O_field tf37_1) ⟨T1 rfl, trivial⟩ ?_))
    refine ws (O_load ta3) ⟨T1 rfl, trivial⟩ ?_
    refine ws O_eql ⟨T1 rfl, C1, trivial⟩ ?_
    refine WL_as rfl rfl ?_
    exact WL_nil (Fin_then (W_ret (Fin_block_ret (Fin_then_ret (RetC rfl (Res1 rfl (RV.tmp rfl (Imp.bool (by simp_all [fieldOk])))))))))
  try simp only [bl] at h0
  refine W_seq (W_seq (W_region (ws O_eql ⟨T1 rfl, C1, trivial⟩ ?_)))
  refine WL_as rfl rfl ?_
  refine WL_nil (Fin_then (W_cond rfl (fun h1 => ?_) (fun h1 => ?_)))
  · skip
    try simp only [bl] at h1
    refine W_skip (Fin_then (W_cond rfl (fun h2 => ?_) (fun h2 => ?_)))
    · skip
      try simp only [bl] at h2
      refine W_seq (W_region (ws (O_field tf37_1) ⟨T1 rfl, trivial⟩ ?_))
      refine ws (O_load ta3) ⟨T1 rfl, trivial⟩ ?_
      refine ws O_geq ⟨T1 rfl, C1, trivial⟩ ?_
      refine WL_mv rfl rfl ?_
      refine wt1 rfl rfl (fun hc => (O_field tf37_1)) ⟨tg rfl, trivial⟩ ?_
      refine wt1 rfl rfl (fun hc => (O_load ta3)) ⟨tg rfl, trivial⟩ ?_
      refine wt1 rfl rfl (fun hc => O_move) ⟨tg rfl, trivial⟩ ?_
      refine wt1 rfl rfl (fun hc => O_lss) ⟨tg rfl, tg rfl, trivial⟩ ?_
      refine ws O_and ⟨T1 rfl, tg rfl, trivial⟩ ?_
      refine WL_as rfl rfl ?_
      exact WL_nil (Fin_then (W_ret (Fin_block_ret (Fin_then_ret (RetC rfl (Res1 rfl (RV.tmp rfl (Imp.bool (by simp_all [fieldOk])))))))))
    try simp only [bl] at h2
    refine W_skip (Fin_block (Fin_then (W_seq (W_region (WL_ac rfl ?_)))))
    exact WL_nil (Fin_then (W_ret (RetC rfl (Res1 rfl (RV.tmp rfl (Imp.bool (by simp_all [fieldOk])))))))
  try simp only [bl] at h1
  refine W_region (ws O_eql ⟨T1 rfl, C1, trivial⟩ ?_)
  refine WL_as rfl rfl ?_
  refine WL_nil (Fin_then (W_cond rfl (fun h2 => ?_) (fun h2 => ?_)))
  · skip
    try simp only [bl] at h2
    refine W_seq (W_region (ws (O_field tf37_1) ⟨T1 rfl, trivial⟩ ?_))
    refine ws (O_load ta3) ⟨T1 rfl, trivial⟩ ?_
    refine ws O_geq ⟨T1 rfl, C1, trivial⟩ ?_
    refine WL_mv rfl rfl ?_
    refine wt1 rfl rfl (fun hc => (O_field tf37_1)) ⟨tg rfl, trivial⟩ ?_
    refine wt1 rfl rfl (fun hc => (O_load ta3)) ⟨tg rfl, trivial⟩ ?_
    refine wt1 rfl rfl (fun hc => O_move) ⟨tg rfl, trivial⟩ ?_
    refine wt1 rfl rfl (fun hc => O_lss) ⟨tg rfl, tg rfl, trivial⟩ ?_
    refine ws O_and ⟨T1 rfl, tg rfl, trivial⟩ ?_
    refine WL_as rfl rfl ?_
    exact WL_nil (Fin_then (W_ret (Fin_block_ret (Fin_then_ret (RetC rfl (Res1 rfl (RV.tmp rfl (Imp.bool (by simp_all [fieldOk])))))))))
  try simp only [bl] at h2
  refine W_skip (Fin_block (Fin_then (W_seq (W_region (WL_ac rfl ?_)))))
  exact WL_nil (Fin_then (W_ret (RetC rfl (Res1 rfl (RV.tmp rfl (Imp.bool (by simp_all [fieldOk])))))))
set_option maxRecDepth 8000 in
theorem impl_fieldOk (f : Fld) (n : Int) : FnC Try.prog 99 [A.agg (cFld f), A.int n] (A.bool (fieldOk f n)) := by
  refine Fn_of_W Try.func99 rfl rfl fun r w => ?_
  refine W_seq (W_region (ws O_boxg ⟨T1 rfl, trivial⟩ ?_))
  refine WL_ac rfl ?_
  refine WL_nil (Fin_then (W_seq (W_seq (W_region (ws (O_field tf37_0) ⟨T1 rfl, trivial⟩ ?_)))))
  refine ws (O_load ta3) ⟨T1 rfl, trivial⟩ ?_
  refine WL_nil (Fin_then (W_block (W_seq (W_region (ws O_eql ⟨T1 rfl, C1, trivial⟩ ?_)))))
  refine WL_as rfl rfl ?_
  refine WL_nil (Fin_then (W_cond rfl (fun h0 => ?_) (fun h0 => ?_)))
  · skip
    try simp only [bl] at h0
    refine W_seq (W_region (ws (O_field tf37_1) ⟨T1 rfl, trivial⟩ ?_))
    refine ws (O_load ta3) ⟨T1 rfl, trivial⟩ ?_
    refine ws O_eql ⟨T1 rfl, C1, trivial⟩ ?_
    refine WL_as rfl rfl ?_
    exact WL_nil (Fin_then (W_ret (Fin_block_ret (Fin_then_ret (RetC rfl (Res1 rfl (RV.tmp rfl (Imp.bool (by simp_all [fieldOk])))))))))
  try simp only [bl] at h0
  refine W_seq (W_seq (W_region (ws O_eql ⟨T1 rfl, C1, trivial⟩ ?_)))
  refine WL_as rfl rfl ?_
  refine WL_nil (Fin_then (W_cond rfl (fun h1 => ?_) (fun h1 => ?_)))
  · skip
    try simp only [bl] at h1
    refine W_skip (Fin_then (W_cond rfl (fun h2 => ?_) (fun h2 => ?_)))
    · skip
      try simp only [bl] at h2
      refine W_seq (W_region (ws (O_field tf37_1) ⟨T1 rfl, trivial⟩ ?_))
      refine ws (O_load ta3) ⟨T1 rfl, trivial⟩ ?_
      refine ws O_geq ⟨T1 rfl, C1, trivial⟩ ?_
      refine WL_mv rfl rfl ?_
      refine wt1 rfl rfl (fun hc => (O_field tf37_1)) ⟨tg rfl, trivial⟩ ?_
      refine wt1 rfl rfl (fun hc => (O_load ta3)) ⟨tg rfl, trivial⟩ ?_
      refine wt1 rfl rfl (fun hc => O_move) ⟨tg rfl, trivial⟩ ?_
      refine wt1 rfl rfl (fun hc => O_lss) ⟨tg rfl, tg rfl, trivial⟩ ?_
      refine ws O_and ⟨T1 rfl, tg rfl, trivial⟩ ?_
      refine WL_as rfl rfl ?_
      exact WL_nil (Fin_then (W_ret (Fin_block_ret (Fin_then_ret (RetC rfl (Res1 rfl (RV.tmp rfl (Imp.bool (by simp_all [fieldOk])))))))))
    try simp only [bl] at h2
    refine W_skip (Fin_block (Fin_then (W_seq (W_region (WL_ac rfl ?_)))))
    exact WL_nil (Fin_then (W_ret (RetC rfl (Res1 rfl (RV.tmp rfl (Imp.bool (by simp_all [fieldOk])))))))
  try simp only [bl] at h1
  refine W_region (ws O_eql ⟨T1 rfl, C1, trivial⟩ ?_)
  refine WL_as rfl rfl ?_
  refine WL_nil (Fin_then (W_cond rfl (fun h2 => ?_) (fun h2 => ?_)))
  · skip
    try simp only [bl] at h2
    refine W_seq (W_region (ws (O_field tf37_1) ⟨T1 rfl, trivial⟩ ?_))
    refine ws (O_load ta3) ⟨T1 rfl, trivial⟩ ?_
    refine ws O_geq ⟨T1 rfl, C1, trivial⟩ ?_
    refine WL_mv rfl rfl ?_
    refine wt1 rfl rfl (fun hc => (O_field tf37_1)) ⟨tg rfl, trivial⟩ ?_
    refine wt1 rfl rfl (fun hc => (O_load ta3)) ⟨tg rfl, trivial⟩ ?_
    refine wt1 rfl rfl (fun hc => O_move) ⟨tg rfl, trivial⟩ ?_
    refine wt1 rfl rfl (fun hc => O_lss) ⟨tg rfl, tg rfl, trivial⟩ ?_
    refine ws O_and ⟨T1 rfl, tg rfl, trivial⟩ ?_
    refine WL_as rfl rfl ?_
    exact WL_nil (Fin_then (W_ret (Fin_block_ret (Fin_then_ret (RetC rfl (Res1 rfl (RV.tmp rfl (Imp.bool (by simp_all [fieldOk])))))))))
  try simp only [bl] at h2
  refine W_skip (Fin_block (Fin_then (W_seq (W_region (WL_ac rfl ?_)))))
  exact WL_nil (Fin_then (W_ret (RetC rfl (Res1 rfl (RV.tmp rfl (Imp.bool (by simp_all [fieldOk])))))))
set_option maxRecDepth 8000 in
theorem spec_KinCount (G : Kin) (hG : Small G) : FnC Try.prog 43 [A.sl 1 cGrp G] (A.int (kcnt G)) := by
  refine Fn_of_W Try.func43 rfl rfl fun r w => ?_
  refine W_seq (W_region (WL_ac rfl ?_))
  refine WL_nil (Fin_then (W_seq (W_region (WL_ac rfl ?_))))
  refine WL_nil (Fin_then (W_seq (W_seq (W_region (WL_ac rfl ?_)))))
  refine WL_nil (Fin_then (W_block (W_loopk [0] (T := Nat) (fun k => k ≤ G.length) (fun k => [(3, true, A.int (kcnt (G.take k))), (4, true, A.int (k : Int))]) (fun k => G.length - k) 0 (by omega) ⟨⟨rfl, _, rfl, (by first | exact Imp.refl | exact Imp.slv | exact Imp.nil | exact Imp.int (by omega) | exact Imp.int (by simp; done) | exact Imp.bool (by simp_all; done))⟩, ⟨rfl, _, rfl, (by first | exact Imp.refl | exact Imp.slv | exact Imp.nil | exact Imp.int (by omega) | exact Imp.int (by simp; done) | exact Imp.bool (by simp_all; done))⟩, trivial⟩ (fun k hx => ?_))))
  have b1 := (hG.take k).kcnt
  have b2 := hG.idx (k : Int)
  have b3 := hG.len
  refine W_seq (W_seq (W_region (WL_mv rfl rfl ?_)))
  refine WL_mv rfl rfl ?_
  refine WL_len ts31 rfl rfl fun hl7 => ?_
  refine ws O_lss ⟨T1 rfl, T1 rfl, trivial⟩ ?_
  refine WL_nil (Fin_then (W_cond rfl (fun h0 => ?_) (fun h0 => ?_)))
  · skip
    try simp only [bl] at h0
    refine W_skip (Fin_then (W_seq (W_block (W_region (WL_mv rfl rfl ?_)))))
    refine WL_mv rfl rfl ?_
    refine WL_mv rfl rfl ?_
    refine ws (O_index ts31 (by omega)) ⟨T1 rfl, T1 rfl, trivial⟩ ?_
    refine ws (O_load ta82) ⟨T1 rfl, trivial⟩ ?_
    refine WL_len ts82 rfl rfl fun hl16 => ?_
    refine ws (O_add (by omega)) ⟨T1 rfl, T1 rfl, trivial⟩ ?_
    refine WL_as rfl rfl ?_
    refine WL_nil (Fin_block (Fin_then (W_region (WL_mv rfl rfl ?_))))
    refine ws (O_add (by omega)) ⟨T1 rfl, C1, trivial⟩ ?_
    refine WL_as rfl rfl ?_
    exact WL_nil (Fin_back (k + 1) (by omega) (by omega) ⟨⟨rfl, _, rfl, (Imp.int (by rw [kcnt_step G k (by omega)]))⟩, ⟨rfl, _, rfl, (by first | exact Imp.refl | exact Imp.slv | exact Imp.nil | exact Imp.int (by omega) | exact Imp.int (by simp; done) | exact Imp.bool (by simp_all; done))⟩, trivial⟩ ⟨rfl, trivial⟩ rfl rfl)
  try simp only [bl] at h0
  refine W_exit (Fin_then_exit (Fin_then_exit (Fin_block_exit (Fin_then (W_seq (W_region (WL_mv rfl rfl ?_)))))))
  refine WL_as rfl rfl ?_
  exact WL_nil (Fin_then (W_ret (RetC rfl (Res1 rfl (RV.tmp rfl (Imp.int (by rw [show k = G.length from by omega, List.take_length])))))))
set_option maxRecDepth 8000 in
theorem spec_l1Begin (G : Kin) (hG : Small G) (a : Int) (h0 : 0 ≤ a) (h1 : a ≤ G.length) : FnC Try.prog 137 [A.sl 1 cGrp G, A.int a] (A.int (kbeg G a)) := by
  refine Fn_of_W Try.func137 rfl rfl fun r w => ?_
  refine W_seq (W_region (WL_ac rfl ?_))
  refine WL_nil (Fin_then (W_seq (W_region (WL_mv rfl rfl ?_))))
  refine WL_mv rfl rfl ?_
  refine ws (O_slice_h ts31 (by omega)) ⟨T1 rfl, T1 rfl, trivial⟩ ?_
  refine ws (O_call cf43 (spec_KinCount _ (hG.take _)) rfl) ⟨T1 rfl, trivial⟩ ?_
  refine WL_as rfl rfl ?_
  exact WL_nil (Fin_then (W_ret (RetC rfl (Res1 rfl (RV.tmp rfl (by first | exact Imp.refl | exact Imp.slv | exact Imp.nil | exact Imp.int (by omega) | exact Imp.int (by simp; done) | exact Imp.bool (by simp_all; done)))))))
set_option maxRecDepth 8000 in
theorem spec_l1Flat (G : Kin) (hG : Small G) : FnC Try.prog 75 [A.sl 1 cGrp G] (A.sl 4 cTy G.flatten) := by
  have b3 := hG.len
  have b4 := hG.flat
  refine Fn_of_W Try.func75 rfl rfl fun r w => ?_
  refine W_seq (W_region (WL_ac rfl ?_))
  refine WL_nil (Fin_then (W_seq (W_region (WL_slice0r cTy te82 rfl fun v6 => ?_))))
  refine WL_as rfl rfl ?_
  refine WL_nil (Fin_then (W_seq (W_seq (W_region (WL_ac rfl ?_)))))
  refine WL_nil (Fin_then (W_block (W_loopp [0] [] [0] [] (T := Nat × Value) (fun x => x.1 ≤ G.length) (fun x => [(3, true, A.slv x.2 4 cTy (G.take x.1).flatten), (4, true, A.int (x.1 : Int))]) (fun x => { own := [], rooms := [(x.2, 145, 4)], maps := [] }) (fun x => G.length - x.1) (0, v6) (by omega) ⟨⟨rfl, _, rfl, (by first | exact Imp.refl | exact Imp.slv | exact Imp.nil | exact Imp.int (by omega) | exact Imp.int (by simp; done) | exact Imp.bool (by simp_all; done))⟩, ⟨rfl, _, rfl, (by first | exact Imp.refl | exact Imp.slv | exact Imp.nil | exact Imp.int (by omega) | exact Imp.int (by simp; done) | exact Imp.bool (by simp_all; done))⟩, trivial⟩ OSub.nil rfl rfl rfl (fun x hx => ?_))))
  refine W_seq (W_seq (W_region (WL_mv rfl rfl ?_)))
  refine WL_mv rfl rfl ?_
  refine WL_len ts31 rfl rfl fun hl9 => ?_
  refine ws O_lss ⟨T1 rfl, T1 rfl, trivial⟩ ?_
  refine WL_nil (Fin_then (W_cond rfl (fun h0 => ?_) (fun h0 => ?_)))
  · skip
    try simp only [bl] at h0
    refine W_skip (Fin_then (W_seq (W_block (W_seq (W_region (WL_ac rfl ?_))))))
    refine WL_nil (Fin_then (W_block (W_loopp [0, 4] [] [0] [] (T := Nat × Value) (fun y => y.1 ≤ (idx G (x.1 : Int)).length) (fun y => [(3, true, A.slv y.2 4 cTy ((G.take x.1).flatten ++ (idx G (x.1 : Int)).take y.1)), (5, true, A.int (y.1 : Int))]) (fun y => { own := [], rooms := [(y.2, 145, 4)], maps := [] }) (fun y => (idx G (x.1 : Int)).length - y.1) (0, x.2) (by omega) ⟨⟨rfl, _, rfl, (Imp.eq (by simp))⟩, ⟨rfl, _, rfl, (by first | exact Imp.refl | exact Imp.slv | exact Imp.nil | exact Imp.int (by omega) | exact Imp.int (by simp; done) | exact Imp.bool (by simp_all; done))⟩, trivial⟩ OSub.nil rfl rfl rfl (fun y hx => ?_))))
    have b5 := hG.idx (x.1 : Int)
    have b6 := flat_idx G x.1 y.1 (by omega) (by assumption)
    refine W_seq (W_seq (W_region (WL_mv rfl rfl ?_)))
    refine WL_mv rfl rfl ?_
    refine WL_mv rfl rfl ?_
    refine ws (O_index ts31 (by omega)) ⟨T1 rfl, T1 rfl, trivial⟩ ?_
    refine ws (O_load ta82) ⟨T1 rfl, trivial⟩ ?_
    refine WL_len ts82 rfl rfl fun hl18 => ?_
    refine ws O_lss ⟨T1 rfl, T1 rfl, trivial⟩ ?_
    refine WL_nil (Fin_then (W_cond rfl (fun h1 => ?_) (fun h1 => ?_)))
    · skip
      try simp only [bl] at h1
      refine W_skip (Fin_then (W_seq (W_block (W_region (WL_mv rfl rfl ?_)))))
      refine WL_mv rfl rfl ?_
      refine WL_mv rfl rfl ?_
      refine ws (O_index ts31 (by omega)) ⟨T1 rfl, T1 rfl, trivial⟩ ?_
      refine ws (O_load ta82) ⟨T1 rfl, trivial⟩ ?_
      refine WL_mv rfl rfl ?_
      refine ws (O_index ts82 (by omega)) ⟨T1 rfl, T1 rfl, trivial⟩ ?_
      refine ws (O_loadgw tg145 rfl) ⟨T1 rfl, trivial⟩ ?_
      refine ws (O_slice1 (f := cTy) _ te82 rfl rfl (CellsOf.agg (by exact ⟨OneV.int, OneV.int, OneV.bool, OneV.sl, trivial⟩)) AllImp.refl) ⟨T1 rfl, trivial⟩ ?_
      refine WL_append 0 _ te82 ⟨T1 rfl, T1 rfl, trivial⟩ rfl (by decide) (fun _ => rfl) (fun _ => rfl) (fun _ => ⟨OneV.int, OneV.int, OneV.bool, OneV.sl, trivial⟩) rfl (by try simp only [List.length_cons, List.length_nil]; (first | done | omega)) (by simp only [maxLen, List.length_cons, List.length_nil]; omega) rfl fun v31 => ?_
      refine WL_as rfl rfl ?_
      refine WL_nil (Fin_block (Fin_then (W_region (WL_mv rfl rfl ?_))))
      refine ws (O_add (by omega)) ⟨T1 rfl, C1, trivial⟩ ?_
      refine WL_as rfl rfl ?_
      exact WL_nil (Fin_backp [] (y.1 + 1, v31) (by omega) (by omega) ⟨⟨rfl, _, rfl, (Imp.eq (by rw [take_snoc (by omega : y.1 < _), List.append_assoc]))⟩, ⟨rfl, _, rfl, (by first | exact Imp.refl | exact Imp.slv | exact Imp.nil | exact Imp.int (by omega) | exact Imp.int (by simp; done) | exact Imp.bool (by simp_all; done))⟩, trivial⟩ ⟨rfl, rfl, trivial⟩ OSub.nil rfl (List.Sublist.refl _) rfl)
    try simp only [bl] at h1
    refine W_exit (Fin_then_exit (Fin_then_exit (Fin_block_exit (Fin_block (Fin_then (W_region (WL_mv rfl rfl ?_)))))))
    refine ws (O_add (by omega)) ⟨T1 rfl, C1, trivial⟩ ?_
    refine WL_as rfl rfl ?_
    exact WL_nil (Fin_backp [] (x.1 + 1, y.2) (by omega) (by omega) ⟨⟨rfl, _, rfl, (Imp.eq (by rw [flat_end G x.1 y.1 (by omega) (by omega)]))⟩, ⟨rfl, _, rfl, (by first | exact Imp.refl | exact Imp.slv | exact Imp.nil | exact Imp.int (by omega) | exact Imp.int (by simp; done) | exact Imp.bool (by simp_all; done))⟩, trivial⟩ ⟨rfl, trivial⟩ OSub.nil rfl (List.Sublist.refl _) rfl)
  try simp only [bl] at h0
  refine W_exit (Fin_then_exit (Fin_then_exit (Fin_block_exit (Fin_then (W_seq (W_region (WL_mv rfl rfl ?_)))))))
  refine WL_as rfl rfl ?_
  exact WL_nil (Fin_then (W_ret (RetC rfl (Res1 rfl (RV.tmp rfl (Imp.trans Imp.slv (Imp.eq (by rw [show x.1 = G.length from by omega, List.take_length]))))))))
set_option maxRecDepth 8000 in
theorem spec_l1Group (G : Kin) (hG : Small G) (a : Int) : FnC Try.prog 170 [A.sl 1 cGrp G, A.int a] (A.int (kgrp G a)) := by
  have b3 := hG.len
  refine Fn_of_W Try.func170 rfl rfl fun r w => ?_
  refine W_seq (W_region (WL_ac rfl ?_))
  refine WL_nil (Fin_then (W_seq (W_region (WL_ac rfl ?_))))
  refine WL_nil (Fin_then (W_seq (W_seq (W_region (WL_ac rfl ?_)))))
  refine WL_nil (Fin_then (W_block (W_loopk [0, 1] (T := Nat) (fun k => k ≤ G.length ∧ ∀ j, j < k → ¬ a < kcnt (G.take (j + 1))) (fun k => [(5, true, A.int (kcnt (G.take k))), (6, true, A.int (k : Int))]) (fun k => G.length - k) 0 ⟨Nat.zero_le _, fun j h => by omega⟩ ⟨⟨rfl, _, rfl, (by first | exact Imp.refl | exact Imp.slv | exact Imp.nil | exact Imp.int (by omega) | exact Imp.int (by simp; done) | exact Imp.bool (by simp_all; done))⟩, ⟨rfl, _, rfl, (by first | exact Imp.refl | exact Imp.slv | exact Imp.nil | exact Imp.int (by omega) | exact Imp.int (by simp; done) | exact Imp.bool (by simp_all; done))⟩, trivial⟩ (fun k hx => ?_))))
  have hk := hx.1
  have b1 := (hG.take k).kcnt
  have b2 := hG.idx (k : Int)
  refine W_seq (W_seq (W_region (WL_mv rfl rfl ?_)))
  refine WL_mv rfl rfl ?_
  refine WL_len ts31 rfl rfl fun hl9 => ?_
  refine ws O_lss ⟨T1 rfl, T1 rfl, trivial⟩ ?_
  refine WL_nil (Fin_then (W_cond rfl (fun h0 => ?_) (fun h0 => ?_)))
  · skip
    try simp only [bl] at h0
    refine W_skip (Fin_then (W_seq (W_block (W_seq (W_region (WL_mv rfl rfl ?_))))))
    refine WL_mv rfl rfl ?_
    refine WL_mv rfl rfl ?_
    refine ws (O_index ts31 (by omega)) ⟨T1 rfl, T1 rfl, trivial⟩ ?_
    refine ws (O_load ta82) ⟨T1 rfl, trivial⟩ ?_
    refine WL_len ts82 rfl rfl fun hl18 => ?_
    refine ws (O_add (by omega)) ⟨T1 rfl, T1 rfl, trivial⟩ ?_
    refine WL_as rfl rfl ?_
    refine WL_nil (Fin_then (W_seq (W_region (WL_mv rfl rfl ?_))))
    refine WL_mv rfl rfl ?_
    refine ws O_lss ⟨T1 rfl, T1 rfl, trivial⟩ ?_
    refine WL_nil (Fin_then (W_cond rfl (fun h1 => ?_) (fun h1 => ?_)))
    · skip
      try simp only [bl] at h1
      refine W_seq (W_region (WL_mv rfl rfl ?_))
      refine WL_as rfl rfl ?_
      exact WL_nil (Fin_then (W_ret (Fin_block_ret (Fin_then_ret (Fin_then_ret (Fin_block_ret (Fin_then_ret (RetC rfl (Res1 rfl (RV.tmp rfl (Imp.int (kgrp_some (by omega) (by rw [kcnt_step G k (by omega)]; omega) hx.2).symm)))))))))))
    try simp only [bl] at h1
    refine W_skip (Fin_block (Fin_then (W_region (WL_mv rfl rfl ?_))))
    refine ws (O_add (by omega)) ⟨T1 rfl, C1, trivial⟩ ?_
    refine WL_as rfl rfl ?_
    exact WL_nil (Fin_back (k + 1) ⟨by omega, fun j hj => by rcases Nat.lt_or_ge j k with q | q; exact hx.2 j q; rw [show j = k from by omega, kcnt_step G k (by omega)]; omega⟩ (by omega) ⟨⟨rfl, _, rfl, (Imp.int (by rw [kcnt_step G k (by omega)]))⟩, ⟨rfl, _, rfl, (by first | exact Imp.refl | exact Imp.slv | exact Imp.nil | exact Imp.int (by omega) | exact Imp.int (by simp; done) | exact Imp.bool (by simp_all; done))⟩, trivial⟩ ⟨rfl, rfl, trivial⟩ rfl rfl)
  try simp only [bl] at h0
  refine W_exit (Fin_then_exit (Fin_then_exit (Fin_block_exit (Fin_then (W_seq (W_region (WL_ac rfl ?_)))))))
  exact WL_nil (Fin_then (W_ret (RetC rfl (Res1 rfl (RV.tmp rfl (Imp.int (kgrp_none (fun j hj => hx.2 j (by omega))).symm))))))
set_option maxRecDepth 8000 in
theorem spec_l1Form (t : Ty) (me n : Int) : FnC Try.prog 138 [A.agg (cTy t), A.int me, A.int n] (A.bool (kform t me n)) := by
  refine Fn_of_W Try.func138 rfl rfl fun r w => ?_
  refine W_seq (W_region (ws O_boxg ⟨T1 rfl, trivial⟩ ?_))
  refine WL_ac rfl ?_
  refine WL_nil (Fin_then (W_seq (W_seq (W_region (ws (O_field tf145_1) ⟨T1 rfl, trivial⟩ ?_)))))
  refine ws (O_load ta3) ⟨T1 rfl, trivial⟩ ?_
  refine ws O_lss ⟨T1 rfl, C1, trivial⟩ ?_
  refine WL_mv rfl rfl ?_
  refine wf1 rfl rfl (fun hc => (O_field tf145_1)) ⟨tg rfl, trivial⟩ ?_
  refine wf1 rfl rfl (fun hc => (O_load ta3)) ⟨tg rfl, trivial⟩ ?_
  refine wf1 rfl rfl (fun hc => O_move) ⟨tg rfl, trivial⟩ ?_
  refine wf1 rfl rfl (fun hc => O_geq) ⟨tg rfl, tg rfl, trivial⟩ ?_
  refine ws O_or ⟨T1 rfl, tg rfl, trivial⟩ ?_
  refine WL_mv rfl rfl ?_
  refine wf1 rfl rfl (fun hc => (O_field tf145_3)) ⟨tg rfl, trivial⟩ ?_
  refine wf1 rfl rfl (fun hc => (O_load ta50)) ⟨tg rfl, trivial⟩ ?_
  refine wf1 rfl rfl (fun hc => (O_len ts50)) ⟨tg rfl, trivial⟩ ?_
  refine wf1 rfl rfl (fun hc => O_gtr) ⟨tg rfl, C1, trivial⟩ ?_
  refine ws O_or ⟨T1 rfl, tg rfl, trivial⟩ ?_
  refine WL_nil (Fin_then (W_cond rfl (fun h0 => ?_) (fun h0 => ?_)))
  · skip
    try simp only [bl] at h0
    refine W_seq (W_region (WL_ac rfl ?_))
    exact WL_nil (Fin_then (W_ret (Fin_then_ret (RetC rfl (Res1 rfl (RV.tmp rfl (Imp.bool (by unfold kform; simp; omega))))))))
  try simp only [bl] at h0
  refine W_skip (Fin_then (W_seq (W_seq (W_region (ws (O_field tf145_0) ⟨T1 rfl, trivial⟩ ?_)))))
  refine ws (O_load ta3) ⟨T1 rfl, trivial⟩ ?_
  refine ws O_neq ⟨T1 rfl, C1, trivial⟩ ?_
  refine WL_mv rfl rfl ?_
  refine wt1 rfl rfl (fun hc => (O_field tf145_0)) ⟨tg rfl, trivial⟩ ?_
  refine wt1 rfl rfl (fun hc => (O_load ta3)) ⟨tg rfl, trivial⟩ ?_
  refine wt1 rfl rfl (fun hc => O_neq) ⟨tg rfl, C1, trivial⟩ ?_
  refine wt1 rfl rfl (fun hc => O_move) ⟨tg rfl, trivial⟩ ?_
  refine wf rfl rfl (fun hc => (O_field tf145_3)) ⟨tg rfl, trivial⟩ ?_
  refine wf rfl rfl (fun hc => (O_load ta50)) ⟨tg rfl, trivial⟩ ?_
  refine wf rfl rfl (fun hc => (O_len ts50)) ⟨tg rfl, trivial⟩ ?_
  refine wf rfl rfl (fun hc => O_neq) ⟨tg rfl, C1, trivial⟩ ?_
  refine wt1 rfl rfl (fun hc => O_or) ⟨tg rfl, tg rfl, trivial⟩ ?_
  refine ws O_and ⟨T1 rfl, tg rfl, trivial⟩ ?_
  refine WL_nil (Fin_then (W_cond rfl (fun h1 => ?_) (fun h1 => ?_)))
  · skip
    try simp only [bl] at h1
    refine W_seq (W_region (WL_ac rfl ?_))
    exact WL_nil (Fin_then (W_ret (Fin_then_ret (RetC rfl (Res1 rfl (RV.tmp rfl (Imp.bool (by unfold kform; simp; omega))))))))
  try simp only [bl] at h1
  refine W_skip (Fin_then (W_seq (W_seq (W_region (WL_ac rfl ?_)))))
  refine WL_nil (Fin_then (W_block (W_loopk [2, 3] (T := Nat) (fun k => k ≤ t.fields.length ∧ ∀ j, j < k → (fun j => fieldOk (idx t.fields (j : Int)) n) j = true) (fun k => [(7, true, A.int (k : Int))]) (fun k => t.fields.length - k) 0 ⟨Nat.zero_le _, allN_zero⟩ ⟨⟨rfl, _, rfl, (by first | exact Imp.refl | exact Imp.slv | exact Imp.nil | exact Imp.int (by omega) | exact Imp.int (by simp; done) | exact Imp.bool (by simp_all; done))⟩, trivial⟩ (fun k hx => ?_))))
  have hk := hx.1
  have hj := hx.2
  refine W_seq (W_seq (W_region (WL_mv rfl rfl ?_)))
  refine ws (O_field tf145_3) ⟨T1 rfl, trivial⟩ ?_
  refine ws (O_load ta50) ⟨T1 rfl, trivial⟩ ?_
  refine WL_len ts50 rfl rfl fun hl40 => ?_
  refine ws O_lss ⟨T1 rfl, T1 rfl, trivial⟩ ?_
  refine WL_nil (Fin_then (W_cond rfl (fun h2 => ?_) (fun h2 => ?_)))
  · skip
    try simp only [bl] at h2
    refine W_skip (Fin_then (W_seq (W_block (W_seq (W_region (ws (O_field tf145_3) ⟨T1 rfl, trivial⟩ ?_))))))
    refine ws (O_load ta50) ⟨T1 rfl, trivial⟩ ?_
    refine WL_mv rfl rfl ?_
    refine ws (O_index ts50 (by omega)) ⟨T1 rfl, T1 rfl, trivial⟩ ?_
    refine ws (O_loadgw tg37 rfl) ⟨T1 rfl, trivial⟩ ?_
    refine WL_mv rfl rfl ?_
    refine ws (O_call cf42 (spec_FieldOk _ _) rfl) ⟨T1 rfl, T1 rfl, trivial⟩ ?_
    refine ws O_not ⟨T1 rfl, trivial⟩ ?_
    refine WL_nil (Fin_then (W_cond rfl (fun h3 => ?_) (fun h3 => ?_)))
    · skip
      try simp only [bl] at h3
      refine W_seq (W_region (WL_ac rfl ?_))
      exact WL_nil (Fin_then (W_ret (Fin_block_ret (Fin_then_ret (Fin_then_ret (Fin_block_ret (Fin_then_ret (RetC rfl (Res1 rfl (RV.tmp rfl (Imp.bool (by unfold kform; rw [allN_false k (by omega) (by simpa using h3)]; simp))))))))))))
    try simp only [bl] at h3
    refine W_skip (Fin_block (Fin_then (W_region (WL_mv rfl rfl ?_))))
    refine ws (O_add (by omega)) ⟨T1 rfl, C1, trivial⟩ ?_
    refine WL_as rfl rfl ?_
    exact WL_nil (Fin_back (k + 1) ⟨by omega, allN_succ hj (by simpa using h3)⟩ (by omega) ⟨⟨rfl, _, rfl, (by first | exact Imp.refl | exact Imp.slv | exact Imp.nil | exact Imp.int (by omega) | exact Imp.int (by simp; done) | exact Imp.bool (by simp_all; done))⟩, trivial⟩ ⟨rfl, rfl, trivial⟩ rfl rfl)
  try simp only [bl] at h2
  refine W_exit (Fin_then_exit (Fin_then_exit (Fin_block_exit (Fin_then (W_seq (W_region (WL_ac rfl ?_)))))))
  exact WL_nil (Fin_then (W_ret (RetC rfl (Res1 rfl (RV.tmp rfl (Imp.bool (by unfold kform; rw [allN_true (fun j q => hj j (by omega))]; simp; omega)))))))
set_option maxRecDepth 8000 in
theorem spec_l1Of (a n : Int) : FnC Try.prog 89 [A.int a, A.int n] (A.bool (decide (-2 ≤ a) && decide (a < n))) := by
  refine Fn_of_W Try.func89 rfl rfl fun r w => ?_
  refine W_seq (W_region (WL_ac rfl ?_))
  refine WL_nil (Fin_then (W_seq (W_region (WL_mv rfl rfl ?_))))
  refine ws O_geq ⟨T1 rfl, C1, trivial⟩ ?_
  refine WL_mv rfl rfl ?_
  refine wt1 rfl rfl (fun hc => O_move) ⟨tg rfl, trivial⟩ ?_
  refine wt1 rfl rfl (fun hc => O_move) ⟨tg rfl, trivial⟩ ?_
  refine wt1 rfl rfl (fun hc => O_lss) ⟨tg rfl, tg rfl, trivial⟩ ?_
  refine ws O_and ⟨T1 rfl, tg rfl, trivial⟩ ?_
  refine WL_as rfl rfl ?_
  exact WL_nil (Fin_then (W_ret (RetC rfl (Res1 rfl (RV.tmp rfl (by first | exact Imp.refl | exact Imp.slv | exact Imp.nil | exact Imp.int (by omega) | exact Imp.int (by simp; done) | exact Imp.bool (by simp_all; done)))))))
set_option maxRecDepth 8000 in
theorem spec_l1Match (G : Kin) (hG : Small G) (n : Nat) (hS : ∀ c d : Int, 0 ≤ c → c < n → c < kcnt G → 0 ≤ d → d < kcnt G → FnC Try.prog 140 [A.sl 1 cGrp G, A.int c, A.int d] (A.bool (same n G c d))) (a b x y : Int) (hx0 : 0 ≤ x) (hx : x ≤ G.length) (hy0 : 0 ≤ y) (hy : y ≤ G.length) (hn : kbeg G x ≤ n) (ha : a ≤ 9223372036854775807) (hb : b ≤ 9223372036854775807) : FnC Try.prog 180 [A.sl 1 cGrp G, A.int a, A.int b, A.int x, A.int y] (A.bool (kmatch (same n G) G a b x y)) := by
  have hbx := kbeg_le G x
  have hby := kbeg_le G y
  have hcx := kbeg_nonneg G x
  have hcy := kbeg_nonneg G y
  have hcc := hG.kcnt
  refine Fn_of_W Try.func180 rfl rfl fun r w => ?_
  refine W_seq (W_region (WL_ac rfl ?_))
  refine WL_nil (Fin_then (W_seq (W_seq (W_region (WL_mv rfl rfl ?_)))))
  refine ws O_lss ⟨T1 rfl, C1, trivial⟩ ?_
  refine WL_mv rfl rfl ?_
  refine wf1 rfl rfl (fun hc => O_move) ⟨tg rfl, trivial⟩ ?_
  refine wf1 rfl rfl (fun hc => O_lss) ⟨tg rfl, C1, trivial⟩ ?_
  refine ws O_or ⟨T1 rfl, tg rfl, trivial⟩ ?_
  refine WL_nil (Fin_then (W_cond rfl (fun h0 => ?_) (fun h0 => ?_)))
  · skip
    try simp only [bl] at h0
    refine W_seq (W_region (WL_mv rfl rfl ?_))
    refine WL_mv rfl rfl ?_
    refine ws O_eql ⟨T1 rfl, T1 rfl, trivial⟩ ?_
    refine WL_as rfl rfl ?_
    exact WL_nil (Fin_then (W_ret (Fin_then_ret (RetC rfl (Res1 rfl (RV.tmp rfl (Imp.bool (by unfold kmatch; rw [if_pos (by omega)]))))))))
  try simp only [bl] at h0
  refine W_skip (Fin_then (W_seq (W_region (WL_mv rfl rfl ?_))))
  refine WL_mv rfl rfl ?_
  refine ws (O_call cf137 (spec_l1Begin _ (by assumption) _ (by omega) (by omega)) rfl) ⟨T1 rfl, T1 rfl, trivial⟩ ?_
  refine WL_as rfl rfl ?_
  refine WL_nil (Fin_then (W_seq (W_region (WL_mv rfl rfl ?_))))
  refine WL_mv rfl rfl ?_
  refine ws (O_call cf137 (spec_l1Begin _ (by assumption) _ (by omega) (by omega)) rfl) ⟨T1 rfl, T1 rfl, trivial⟩ ?_
  refine WL_as rfl rfl ?_
  refine WL_nil (Fin_then (W_seq (W_seq (W_region (WL_mv rfl rfl ?_)))))
  refine WL_mv rfl rfl ?_
  refine ws O_geq ⟨T1 rfl, T1 rfl, trivial⟩ ?_
  refine WL_mv rfl rfl ?_
  refine wt1 rfl rfl (fun hc => O_move) ⟨tg rfl, trivial⟩ ?_
  refine wt1 rfl rfl (fun hc => O_move) ⟨tg rfl, trivial⟩ ?_
  refine wt1 rfl rfl (fun hc => O_geq) ⟨tg rfl, tg rfl, trivial⟩ ?_
  refine ws O_and ⟨T1 rfl, tg rfl, trivial⟩ ?_
  refine WL_nil (Fin_then (W_cond rfl (fun h1 => ?_) (fun h1 => ?_)))
  · skip
    try simp only [bl] at h1
    refine W_seq (W_region (WL_mv rfl rfl ?_))
    refine WL_mv rfl rfl ?_
    refine ws (O_sub (by omega)) ⟨T1 rfl, T1 rfl, trivial⟩ ?_
    refine WL_mv rfl rfl ?_
    refine WL_mv rfl rfl ?_
    refine ws (O_sub (by omega)) ⟨T1 rfl, T1 rfl, trivial⟩ ?_
    refine ws O_eql ⟨T1 rfl, T1 rfl, trivial⟩ ?_
    refine WL_as rfl rfl ?_
    exact WL_nil (Fin_then (W_ret (Fin_then_ret (RetC rfl (Res1 rfl (RV.tmp rfl (Imp.bool (by unfold kmatch; rw [if_neg (by omega), if_pos (by omega)]))))))))
  try simp only [bl] at h1
  refine W_skip (Fin_then (W_seq (W_region (WL_mv rfl rfl ?_))))
  refine WL_mv rfl rfl ?_
  refine ws O_lss ⟨T1 rfl, T1 rfl, trivial⟩ ?_
  refine WL_mv rfl rfl ?_
  refine wt1 rfl rfl (fun hc => O_move) ⟨tg rfl, trivial⟩ ?_
  refine wt1 rfl rfl (fun hc => O_move) ⟨tg rfl, trivial⟩ ?_
  refine wt1 rfl rfl (fun hc => O_lss) ⟨tg rfl, tg rfl, trivial⟩ ?_
  refine ws O_and ⟨T1 rfl, tg rfl, trivial⟩ ?_
  refine WL_mv rfl rfl ?_
  refine wt1 rfl rfl (fun hc => O_move) ⟨tg rfl, trivial⟩ ?_
  refine wt1 rfl rfl (fun hc => O_move) ⟨tg rfl, trivial⟩ ?_
  refine wt1 rfl rfl (fun hc => O_move) ⟨tg rfl, trivial⟩ ?_
  refine wt1 rfl rfl (fun hc => (O_call cf140 (hS _ _ (by (try simp only [bl] at hc); omega) (by (try simp only [bl] at hc); omega) (by (try simp only [bl] at hc); omega) (by (try simp only [bl] at hc); omega) (by (try simp only [bl] at hc); omega)) rfl)) ⟨tg rfl, tg rfl, tg rfl, trivial⟩ ?_
  refine ws O_and ⟨T1 rfl, tg rfl, trivial⟩ ?_
  refine WL_as rfl rfl ?_
  exact WL_nil (Fin_then (W_ret (RetC rfl (Res1 rfl (RV.tmp rfl (Imp.bool (by unfold kmatch; rw [if_neg (by omega), if_neg (by omega)])))))))
set_option maxRecDepth 8000 in
theorem spec_l1Alike (G : Kin) (hG : Small G) (n : Nat) (hS : ∀ c d : Int, 0 ≤ c → c < n → c < kcnt G → 0 ≤ d → d < kcnt G → FnC Try.prog 140 [A.sl 1 cGrp G, A.int c, A.int d] (A.bool (same n G c d))) (s t : Ty) (x y : Int) (hx0 : 0 ≤ x) (hx : x ≤ G.length) (hy0 : 0 ≤ y) (hy : y ≤ G.length) (hn : kbeg G x ≤ n) (hs : TyOk s) (ht : TyOk t) : FnC Try.prog 171 [A.sl 1 cGrp G, A.agg (cTy s), A.agg (cTy t), A.int x, A.int y] (A.bool (kalike (same n G) G s t x y)) := by
  have hs1 := hs.1
  have ht1 := ht.1
  refine Fn_of_W Try.func171 rfl rfl fun r w => ?_
  refine W_seq (W_region (ws O_boxg ⟨T1 rfl, trivial⟩ ?_))
  refine ws O_boxg ⟨T1 rfl, trivial⟩ ?_
  refine WL_ac rfl ?_
  refine WL_nil (Fin_then (W_seq (W_seq (W_region (ws (O_field tf145_0) ⟨T1 rfl, trivial⟩ ?_)))))
  refine ws (O_load ta3) ⟨T1 rfl, trivial⟩ ?_
  refine ws (O_field tf145_0) ⟨T1 rfl, trivial⟩ ?_
  refine ws (O_load ta3) ⟨T1 rfl, trivial⟩ ?_
  refine ws O_neq ⟨T1 rfl, T1 rfl, trivial⟩ ?_
  refine WL_mv rfl rfl ?_
  refine wf1 rfl rfl (fun hc => (O_field tf145_2)) ⟨tg rfl, trivial⟩ ?_
  refine wf1 rfl rfl (fun hc => (O_load ta4)) ⟨tg rfl, trivial⟩ ?_
  refine wf1 rfl rfl (fun hc => (O_field tf145_2)) ⟨tg rfl, trivial⟩ ?_
  refine wf1 rfl rfl (fun hc => (O_load ta4)) ⟨tg rfl, trivial⟩ ?_
  refine wf1 rfl rfl (fun hc => (O_neb ub4)) ⟨tg rfl, tg rfl, trivial⟩ ?_
  refine ws O_or ⟨T1 rfl, tg rfl, trivial⟩ ?_
  refine WL_mv rfl rfl ?_
  refine wf1 rfl rfl (fun hc => (O_field tf145_3)) ⟨tg rfl, trivial⟩ ?_
  refine wf1 rfl rfl (fun hc => (O_load ta50)) ⟨tg rfl, trivial⟩ ?_
  refine wf1 rfl rfl (fun hc => (O_len ts50)) ⟨tg rfl, trivial⟩ ?_
  refine wf1 rfl rfl (fun hc => (O_field tf145_3)) ⟨tg rfl, trivial⟩ ?_
  refine wf1 rfl rfl (fun hc => (O_load ta50)) ⟨tg rfl, trivial⟩ ?_
  refine wf1 rfl rfl (fun hc => (O_len ts50)) ⟨tg rfl, trivial⟩ ?_
  refine wf1 rfl rfl (fun hc => O_neq) ⟨tg rfl, tg rfl, trivial⟩ ?_
  refine ws O_or ⟨T1 rfl, tg rfl, trivial⟩ ?_
  refine WL_mv rfl rfl ?_
  refine wf1 rfl rfl (fun hc => O_move) ⟨tg rfl, trivial⟩ ?_
  refine wf1 rfl rfl (fun hc => (O_field tf145_1)) ⟨tg rfl, trivial⟩ ?_
  refine wf1 rfl rfl (fun hc => (O_load ta3)) ⟨tg rfl, trivial⟩ ?_
  refine wf1 rfl rfl (fun hc => (O_field tf145_1)) ⟨tg rfl, trivial⟩ ?_
  refine wf1 rfl rfl (fun hc => (O_load ta3)) ⟨tg rfl, trivial⟩ ?_
  refine wf1 rfl rfl (fun hc => O_move) ⟨tg rfl, trivial⟩ ?_
  refine wf1 rfl rfl (fun hc => O_move) ⟨tg rfl, trivial⟩ ?_
  refine wf1 rfl rfl (fun hc => (O_call cf180 (spec_l1Match _ (by assumption) n hS _ _ _ _ (by (try simp only [bl] at hc); omega) (by (try simp only [bl] at hc); omega) (by (try simp only [bl] at hc); omega) (by (try simp only [bl] at hc); omega) (by (try simp only [bl] at hc); omega) (by (try simp only [bl] at hc); omega) (by (try simp only [bl] at hc); omega)) rfl)) ⟨tg rfl, tg rfl, tg rfl, tg rfl, tg rfl, trivial⟩ ?_
  refine wf1 rfl rfl (fun hc => O_not) ⟨tg rfl, trivial⟩ ?_
  refine ws O_or ⟨T1 rfl, tg rfl, trivial⟩ ?_
  refine WL_nil (Fin_then (W_cond rfl (fun h0 => ?_) (fun h0 => ?_)))
  · skip
    try simp only [bl] at h0
    refine W_seq (W_region (WL_ac rfl ?_))
    exact WL_nil (Fin_then (W_ret (Fin_then_ret (RetC rfl (Res1 rfl (RV.tmp rfl (Imp.bool (by unfold kalike; grind))))))))
  try simp only [bl] at h0
  refine W_skip (Fin_then (W_seq (W_seq (W_region (WL_ac rfl ?_)))))
  refine WL_nil (Fin_then (W_block (W_loopk [0, 3, 4, 6, 7] (T := Nat) (fun k => k ≤ s.fields.length ∧ ∀ j, j < k → (fun i => decide ((idx s.fields (i : Int)).kind = (idx t.fields (i : Int)).kind) && ((idx s.fields (i : Int)).mu == (idx t.fields (i : Int)).mu) && (decide ((idx s.fields (i : Int)).kind = 1) || kmatch (same n G) G (idx s.fields (i : Int)).of (idx t.fields (i : Int)).of x y)) j = true) (fun k => [(11, true, A.int (k : Int))]) (fun k => s.fields.length - k) 0 ⟨Nat.zero_le _, allN_zero⟩ ⟨⟨rfl, _, rfl, (by first | exact Imp.refl | exact Imp.slv | exact Imp.nil | exact Imp.int (by omega) | exact Imp.int (by simp; done) | exact Imp.bool (by simp_all; done))⟩, trivial⟩ (fun k hx => ?_))))
  have hk := hx.1
  have hj := hx.2
  have hs2 := hs.of (k : Int)
  have ht2 := ht.of (k : Int)
  refine W_seq (W_seq (W_region (WL_mv rfl rfl ?_)))
  refine ws (O_field tf145_3) ⟨T1 rfl, trivial⟩ ?_
  refine ws (O_load ta50) ⟨T1 rfl, trivial⟩ ?_
  refine WL_len ts50 rfl rfl fun hl47 => ?_
  refine ws O_lss ⟨T1 rfl, T1 rfl, trivial⟩ ?_
  refine WL_nil (Fin_then (W_cond rfl (fun h1 => ?_) (fun h1 => ?_)))
  · skip
    try simp only [bl] at h1
    refine W_skip (Fin_then (W_seq (W_block (W_seq (W_seq (W_draw 28 mix rfl rfl ?_))))))
    refine cs (O_field tf145_3) ⟨T1 rfl, trivial⟩ ?_
    refine cs (O_load ta50) ⟨T1 rfl, trivial⟩ ?_
    refine cs O_move ⟨T1 rfl, trivial⟩ ?_
    refine cs (O_index ts50 (by omega)) ⟨T1 rfl, T1 rfl, trivial⟩ ?_
    refine cs (O_field tf37_0) ⟨T1 rfl, trivial⟩ ?_
    refine cs (O_load ta3) ⟨T1 rfl, trivial⟩ ?_
    refine cs (O_field tf145_3) ⟨T1 rfl, trivial⟩ ?_
    refine cs (O_load ta50) ⟨T1 rfl, trivial⟩ ?_
    refine cs O_move ⟨T1 rfl, trivial⟩ ?_
    refine cs (O_index ts50 (by omega)) ⟨T1 rfl, T1 rfl, trivial⟩ ?_
    refine cs (O_field tf37_0) ⟨T1 rfl, trivial⟩ ?_
    refine cs (O_load ta3) ⟨T1 rfl, trivial⟩ ?_
    refine cs O_neq ⟨T1 rfl, T1 rfl, trivial⟩ ?_
    refine cs O_move ⟨T1 rfl, trivial⟩ ?_
    refine cf1 rfl rfl (fun hc => (O_field tf145_3)) ⟨tg rfl, trivial⟩ ?_
    refine cf1 rfl rfl (fun hc => (O_load ta50)) ⟨tg rfl, trivial⟩ ?_
    refine cf1 rfl rfl (fun hc => O_move) ⟨tg rfl, trivial⟩ ?_
    refine cf1 rfl rfl (fun hc => (O_index ts50 (by (try simp only [bl] at hc); omega))) ⟨tg rfl, tg rfl, trivial⟩ ?_
    refine cf1 rfl rfl (fun hc => (O_field tf37_2)) ⟨tg rfl, trivial⟩ ?_
    refine cf1 rfl rfl (fun hc => (O_load ta4)) ⟨tg rfl, trivial⟩ ?_
    refine cf1 rfl rfl (fun hc => (O_field tf145_3)) ⟨tg rfl, trivial⟩ ?_
    refine cf1 rfl rfl (fun hc => (O_load ta50)) ⟨tg rfl, trivial⟩ ?_
    refine cf1 rfl rfl (fun hc => O_move) ⟨tg rfl, trivial⟩ ?_
    refine cf1 rfl rfl (fun hc => (O_index ts50 (by (try simp only [bl] at hc); omega))) ⟨tg rfl, tg rfl, trivial⟩ ?_
    refine cf1 rfl rfl (fun hc => (O_field tf37_2)) ⟨tg rfl, trivial⟩ ?_
    refine cf1 rfl rfl (fun hc => (O_load ta4)) ⟨tg rfl, trivial⟩ ?_
    refine cf1 rfl rfl (fun hc => (O_neb ub4)) ⟨tg rfl, tg rfl, trivial⟩ ?_
    refine cs O_or ⟨T1 rfl, tg rfl, trivial⟩ ?_
    refine Chain_nil ?_
    refine WL_nil (Fin_then (W_cond rfl (fun h2 => ?_) (fun h2 => ?_)))
    · skip
      try simp only [bl] at h2
      refine W_seq (W_region (WL_ac rfl ?_))
      exact WL_nil (Fin_then (W_ret (Fin_then_ret (Fin_block_ret (Fin_then_ret (Fin_then_ret (Fin_block_ret (Fin_then_ret (RetC rfl (Res1 rfl (RV.tmp rfl (Imp.bool (by unfold kalike; rw [allN_false k (by omega) (by grind)]; simp)))))))))))))
    try simp only [bl] at h2
    refine W_skip (Fin_then (W_seq (W_draw 26 mix rfl rfl ?_)))
    refine cs (O_field tf145_3) ⟨T1 rfl, trivial⟩ ?_
    refine cs (O_load ta50) ⟨T1 rfl, trivial⟩ ?_
    refine cs O_move ⟨T1 rfl, trivial⟩ ?_
    refine cs (O_index ts50 (by omega)) ⟨T1 rfl, T1 rfl, trivial⟩ ?_
    refine cs (O_field tf37_0) ⟨T1 rfl, trivial⟩ ?_
    refine cs (O_load ta3) ⟨T1 rfl, trivial⟩ ?_
    refine cs O_neq ⟨T1 rfl, C1, trivial⟩ ?_
    refine cs O_move ⟨T1 rfl, trivial⟩ ?_
    refine ct1 rfl rfl (fun hc => O_move) ⟨tg rfl, trivial⟩ ?_
    refine ct1 rfl rfl (fun hc => (O_field tf145_3)) ⟨tg rfl, trivial⟩ ?_
    refine ct1 rfl rfl (fun hc => (O_load ta50)) ⟨tg rfl, trivial⟩ ?_
    refine ct1 rfl rfl (fun hc => O_move) ⟨tg rfl, trivial⟩ ?_
    refine ct1 rfl rfl (fun hc => (O_index ts50 (by (try simp only [bl] at hc); omega))) ⟨tg rfl, tg rfl, trivial⟩ ?_
    refine ct1 rfl rfl (fun hc => (O_field tf37_1)) ⟨tg rfl, trivial⟩ ?_
    refine ct1 rfl rfl (fun hc => (O_load ta3)) ⟨tg rfl, trivial⟩ ?_
    refine ct1 rfl rfl (fun hc => (O_field tf145_3)) ⟨tg rfl, trivial⟩ ?_
    refine ct1 rfl rfl (fun hc => (O_load ta50)) ⟨tg rfl, trivial⟩ ?_
    refine ct1 rfl rfl (fun hc => O_move) ⟨tg rfl, trivial⟩ ?_
    refine ct1 rfl rfl (fun hc => (O_index ts50 (by (try simp only [bl] at hc); omega))) ⟨tg rfl, tg rfl, trivial⟩ ?_
    refine ct1 rfl rfl (fun hc => (O_field tf37_1)) ⟨tg rfl, trivial⟩ ?_
    refine ct1 rfl rfl (fun hc => (O_load ta3)) ⟨tg rfl, trivial⟩ ?_
    refine ct1 rfl rfl (fun hc => O_move) ⟨tg rfl, trivial⟩ ?_
    refine ct1 rfl rfl (fun hc => O_move) ⟨tg rfl, trivial⟩ ?_
    refine ct1 rfl rfl (fun hc => (O_call cf180 (spec_l1Match _ (by assumption) n hS _ _ _ _ (by (try simp only [bl] at hc); omega) (by (try simp only [bl] at hc); omega) (by (try simp only [bl] at hc); omega) (by (try simp only [bl] at hc); omega) (by (try simp only [bl] at hc); omega) (by (try simp only [bl] at hc); omega) (by (try simp only [bl] at hc); omega)) rfl)) ⟨tg rfl, tg rfl, tg rfl, tg rfl, tg rfl, trivial⟩ ?_
    refine ct1 rfl rfl (fun hc => O_not) ⟨tg rfl, trivial⟩ ?_
    refine cs O_and ⟨T1 rfl, tg rfl, trivial⟩ ?_
    refine Chain_nil ?_
    refine WL_nil (Fin_then (W_cond rfl (fun h3 => ?_) (fun h3 => ?_)))
    · skip
      try simp only [bl] at h3
      refine W_seq (W_region (WL_ac rfl ?_))
      exact WL_nil (Fin_then (W_ret (Fin_block_ret (Fin_then_ret (Fin_then_ret (Fin_block_ret (Fin_then_ret (RetC rfl (Res1 rfl (RV.tmp rfl (Imp.bool (by unfold kalike; rw [allN_false k (by omega) (by grind)]; simp))))))))))))
    try simp only [bl] at h3
    refine W_skip (Fin_block (Fin_then (W_region (WL_mv rfl rfl ?_))))
    refine ws (O_add (by omega)) ⟨T1 rfl, C1, trivial⟩ ?_
    refine WL_as rfl rfl ?_
    exact WL_nil (Fin_back (k + 1) ⟨by omega, allN_succ hj (by grind)⟩ (by omega) ⟨⟨rfl, _, rfl, (by first | exact Imp.refl | exact Imp.slv | exact Imp.nil | exact Imp.int (by omega) | exact Imp.int (by simp; done) | exact Imp.bool (by simp_all; done))⟩, trivial⟩ ⟨rfl, rfl, rfl, rfl, rfl, trivial⟩ rfl rfl)
  try simp only [bl] at h1
  refine W_exit (Fin_then_exit (Fin_then_exit (Fin_block_exit (Fin_then (W_seq (W_region (WL_ac rfl ?_)))))))
  exact WL_nil (Fin_then (W_ret (RetC rfl (Res1 rfl (RV.tmp rfl (Imp.bool (by unfold kalike; rw [allN_true (fun j q => hj j (by omega))]; grind)))))))
set_option maxRecDepth 8000 in
theorem spec_l1Same_step (G : Kin) (hG : Small G) (n : Nat) (hS : ∀ c d : Int, 0 ≤ c → c < n → c < kcnt G → 0 ≤ d → d < kcnt G → FnC Try.prog 140 [A.sl 1 cGrp G, A.int c, A.int d] (A.bool (same n G c d))) (a b : Int) (ha0 : 0 ≤ a) (ha : a < kcnt G) (han : a < n + 1) (hb0 : 0 ≤ b) (hb : b < kcnt G) : FnC Try.prog 140 [A.sl 1 cGrp G, A.int a, A.int b] (A.bool (same (n + 1) G a b)) := by
  obtain ⟨ka, ea, ka1, ka2, ka3⟩ := kgrp_spec ha0 ha
  obtain ⟨kb, eb, kb1, kb2, kb3⟩ := kgrp_spec hb0 hb
  rw [← ea] at ka2 ka3
  rw [← eb] at kb2 kb3
  have hcc := hG.kcnt
  have hxa : 0 ≤ kgrp G a ∧ kgrp G a < G.length := by omega
  have hxb : 0 ≤ kgrp G b ∧ kgrp G b < G.length := by omega
  have n1 := kbeg_nonneg G (kgrp G a)
  have n2 := kbeg_nonneg G (kgrp G b)
  refine Fn_of_W Try.func140 rfl rfl fun r w => ?_
  refine W_seq (W_region (WL_ac rfl ?_))
  refine WL_nil (Fin_then (W_seq (W_seq (W_region (WL_mv rfl rfl ?_)))))
  refine WL_mv rfl rfl ?_
  refine ws O_eql ⟨T1 rfl, T1 rfl, trivial⟩ ?_
  refine WL_nil (Fin_then (W_cond rfl (fun h0 => ?_) (fun h0 => ?_)))
  · skip
    try simp only [bl] at h0
    refine W_seq (W_region (WL_ac rfl ?_))
    exact WL_nil (Fin_then (W_ret (Fin_then_ret (RetC rfl (Res1 rfl (RV.tmp rfl (Imp.bool (by unfold same; rw [if_pos (by assumption)]))))))))
  try simp only [bl] at h0
  refine W_skip (Fin_then (W_seq (W_region (WL_mv rfl rfl ?_))))
  refine WL_mv rfl rfl ?_
  refine ws (O_call cf170 (spec_l1Group _ (by assumption) _) rfl) ⟨T1 rfl, T1 rfl, trivial⟩ ?_
  refine WL_as rfl rfl ?_
  refine WL_nil (Fin_then (W_seq (W_region (WL_mv rfl rfl ?_))))
  refine WL_mv rfl rfl ?_
  refine ws (O_call cf170 (spec_l1Group _ (by assumption) _) rfl) ⟨T1 rfl, T1 rfl, trivial⟩ ?_
  refine WL_as rfl rfl ?_
  refine WL_nil (Fin_then (W_seq (W_seq (W_draw 29 mix rfl rfl ?_))))
  refine cs O_move ⟨T1 rfl, trivial⟩ ?_
  refine cs O_move ⟨T1 rfl, trivial⟩ ?_
  refine cs O_eql ⟨T1 rfl, T1 rfl, trivial⟩ ?_
  refine cs O_move ⟨T1 rfl, trivial⟩ ?_
  refine cf1 rfl rfl (fun hc => O_move) ⟨tg rfl, trivial⟩ ?_
  refine cf1 rfl rfl (fun hc => O_move) ⟨tg rfl, trivial⟩ ?_
  refine cf1 rfl rfl (fun hc => O_move) ⟨tg rfl, trivial⟩ ?_
  refine cf1 rfl rfl (fun hc => (O_call cf137 (spec_l1Begin _ (by assumption) _ (by (try simp only [bl] at hc); omega) (by (try simp only [bl] at hc); omega)) rfl)) ⟨tg rfl, tg rfl, trivial⟩ ?_
  refine cf1 rfl rfl (fun hc => (O_sub (by (try simp only [bl] at hc); omega))) ⟨tg rfl, tg rfl, trivial⟩ ?_
  refine cf1 rfl rfl (fun hc => O_move) ⟨tg rfl, trivial⟩ ?_
  refine cf1 rfl rfl (fun hc => O_move) ⟨tg rfl, trivial⟩ ?_
  refine cf1 rfl rfl (fun hc => O_move) ⟨tg rfl, trivial⟩ ?_
  refine cf1 rfl rfl (fun hc => (O_call cf137 (spec_l1Begin _ (by assumption) _ (by (try simp only [bl] at hc); omega) (by (try simp only [bl] at hc); omega)) rfl)) ⟨tg rfl, tg rfl, trivial⟩ ?_
  refine cf1 rfl rfl (fun hc => (O_sub (by (try simp only [bl] at hc); omega))) ⟨tg rfl, tg rfl, trivial⟩ ?_
  refine cf1 rfl rfl (fun hc => O_neq) ⟨tg rfl, tg rfl, trivial⟩ ?_
  refine cs O_or ⟨T1 rfl, tg rfl, trivial⟩ ?_
  refine cs O_move ⟨T1 rfl, trivial⟩ ?_
  refine cf1 rfl rfl (fun hc => O_move) ⟨tg rfl, trivial⟩ ?_
  refine cf1 rfl rfl (fun hc => O_move) ⟨tg rfl, trivial⟩ ?_
  refine cf1 rfl rfl (fun hc => (O_index ts31 (by (try simp only [bl] at hc); omega))) ⟨tg rfl, tg rfl, trivial⟩ ?_
  refine cf1 rfl rfl (fun hc => (O_load ta82)) ⟨tg rfl, trivial⟩ ?_
  refine cf1 rfl rfl (fun hc => (O_len ts82)) ⟨tg rfl, trivial⟩ ?_
  refine cf1 rfl rfl (fun hc => O_move) ⟨tg rfl, trivial⟩ ?_
  refine cf1 rfl rfl (fun hc => O_move) ⟨tg rfl, trivial⟩ ?_
  refine cf1 rfl rfl (fun hc => (O_index ts31 (by (try simp only [bl] at hc); omega))) ⟨tg rfl, tg rfl, trivial⟩ ?_
  refine cf1 rfl rfl (fun hc => (O_load ta82)) ⟨tg rfl, trivial⟩ ?_
  refine cf1 rfl rfl (fun hc => (O_len ts82)) ⟨tg rfl, trivial⟩ ?_
  refine cf1 rfl rfl (fun hc => O_neq) ⟨tg rfl, tg rfl, trivial⟩ ?_
  refine cs O_or ⟨T1 rfl, tg rfl, trivial⟩ ?_
  refine Chain_nil ?_
  refine WL_nil (Fin_then (W_cond rfl (fun h1 => ?_) (fun h1 => ?_)))
  · skip
    try simp only [bl] at h1
    refine W_seq (W_region (WL_ac rfl ?_))
    exact WL_nil (Fin_then (W_ret (Fin_then_ret (RetC rfl (Res1 rfl (RV.tmp rfl (Imp.bool (by unfold same; grind))))))))
  try simp only [bl] at h1
  refine W_skip (Fin_then (W_seq (W_seq (W_region (WL_ac rfl ?_)))))
  refine WL_nil (Fin_then (W_block (W_loopk [0, 7, 8] (T := Nat) (fun k => k ≤ (idx G (kgrp G a)).length ∧ ∀ j, j < k → (fun i => kalike (same n G) G (idx (idx G (kgrp G a)) (i : Int)) (idx (idx G (kgrp G b)) (i : Int)) (kgrp G a) (kgrp G b)) j = true) (fun k => [(9, true, A.int (k : Int))]) (fun k => (idx G (kgrp G a)).length - k) 0 ⟨Nat.zero_le _, allN_zero⟩ ⟨⟨rfl, _, rfl, (by first | exact Imp.refl | exact Imp.slv | exact Imp.nil | exact Imp.int (by omega) | exact Imp.int (by simp; done) | exact Imp.bool (by simp_all; done))⟩, trivial⟩ (fun k hx => ?_))))
  have hk := hx.1
  have hj := hx.2
  refine W_seq (W_seq (W_region (WL_mv rfl rfl ?_)))
  refine WL_mv rfl rfl ?_
  refine WL_mv rfl rfl ?_
  refine ws (O_index ts31 (by omega)) ⟨T1 rfl, T1 rfl, trivial⟩ ?_
  refine ws (O_load ta82) ⟨T1 rfl, trivial⟩ ?_
  refine WL_len ts82 rfl rfl fun hl53 => ?_
  refine ws O_lss ⟨T1 rfl, T1 rfl, trivial⟩ ?_
  refine WL_nil (Fin_then (W_cond rfl (fun h2 => ?_) (fun h2 => ?_)))
  · skip
    try simp only [bl] at h2
    refine W_skip (Fin_then (W_seq (W_block (W_seq (W_draw 19 mix rfl rfl ?_)))))
    refine cs O_move ⟨T1 rfl, trivial⟩ ?_
    refine cs O_move ⟨T1 rfl, trivial⟩ ?_
    refine cs O_move ⟨T1 rfl, trivial⟩ ?_
    refine cs (O_index ts31 (by omega)) ⟨T1 rfl, T1 rfl, trivial⟩ ?_
    refine cs (O_load ta82) ⟨T1 rfl, trivial⟩ ?_
    refine cs O_move ⟨T1 rfl, trivial⟩ ?_
    refine cs (O_index ts82 (by omega)) ⟨T1 rfl, T1 rfl, trivial⟩ ?_
    refine cs (O_loadgw tg145 rfl) ⟨T1 rfl, trivial⟩ ?_
    refine cs O_move ⟨T1 rfl, trivial⟩ ?_
    refine cs O_move ⟨T1 rfl, trivial⟩ ?_
    refine cs (O_index ts31 (by omega)) ⟨T1 rfl, T1 rfl, trivial⟩ ?_
    refine cs (O_load ta82) ⟨T1 rfl, trivial⟩ ?_
    refine cs O_move ⟨T1 rfl, trivial⟩ ?_
    refine cs (O_index ts82 (by omega)) ⟨T1 rfl, T1 rfl, trivial⟩ ?_
    refine cs (O_loadgw tg145 rfl) ⟨T1 rfl, trivial⟩ ?_
    refine cs O_move ⟨T1 rfl, trivial⟩ ?_
    refine cs O_move ⟨T1 rfl, trivial⟩ ?_
    refine cs (O_call cf171 (spec_l1Alike _ (by assumption) n hS _ _ _ _ (by omega) (by omega) (by omega) (by omega) (by omega) (hG.ty _ _) (hG.ty _ _)) rfl) ⟨T1 rfl, T1 rfl, T1 rfl, T1 rfl, T1 rfl, trivial⟩ ?_
    refine cs O_not ⟨T1 rfl, trivial⟩ ?_
    refine Chain_nil ?_
    refine WL_nil (Fin_then (W_cond rfl (fun h3 => ?_) (fun h3 => ?_)))
    · skip
      try simp only [bl] at h3
      refine W_seq (W_region (WL_ac rfl ?_))
      exact WL_nil (Fin_then (W_ret (Fin_block_ret (Fin_then_ret (Fin_then_ret (Fin_block_ret (Fin_then_ret (RetC rfl (Res1 rfl (RV.tmp rfl (Imp.bool (by unfold same; rw [if_neg (by omega), if_neg (by omega), allN_false k (by omega) (by grind)]))))))))))))
    try simp only [bl] at h3
    refine W_skip (Fin_block (Fin_then (W_region (WL_mv rfl rfl ?_))))
    refine ws (O_add (by omega)) ⟨T1 rfl, C1, trivial⟩ ?_
    refine WL_as rfl rfl ?_
    exact WL_nil (Fin_back (k + 1) ⟨by omega, allN_succ hj (by grind)⟩ (by omega) ⟨⟨rfl, _, rfl, (by first | exact Imp.refl | exact Imp.slv | exact Imp.nil | exact Imp.int (by omega) | exact Imp.int (by simp; done) | exact Imp.bool (by simp_all; done))⟩, trivial⟩ ⟨rfl, rfl, rfl, trivial⟩ rfl rfl)
  try simp only [bl] at h2
  refine W_exit (Fin_then_exit (Fin_then_exit (Fin_block_exit (Fin_then (W_seq (W_region (WL_ac rfl ?_)))))))
  exact WL_nil (Fin_then (W_ret (RetC rfl (Res1 rfl (RV.tmp rfl (Imp.bool (by unfold same; rw [if_neg (by omega), if_neg (by omega), allN_true (fun j q => hj j (by omega))])))))))
theorem spec_l1Same_n (G : Kin) (hG : Small G) : ∀ (n : Nat) (a b : Int), 0 ≤ a → a < n → a < kcnt G → 0 ≤ b → b < kcnt G → FnC Try.prog 140 [A.sl 1 cGrp G, A.int a, A.int b] (A.bool (same n G a b))
  | 0, a, b, h0, hn, _, _, _ => by omega
  | n + 1, a, b, h0, hn, hc, hb0, hb => spec_l1Same_step G hG n (fun c d h1 h2 h3 h4 h5 => spec_l1Same_n G hG n c d h1 h2 h3 h4 h5) a b h0 hc (by omega) hb0 hb
theorem spec_l1Same (G : Kin) (hG : Small G) (a b : Int) (h0 : 0 ≤ a) (hc : a < kcnt G) (hb0 : 0 ≤ b) (hb : b < kcnt G) : FnC Try.prog 140 [A.sl 1 cGrp G, A.int a, A.int b] (A.bool (ksame G a b)) := spec_l1Same_n G hG _ a b h0 (by omega) hc hb0 hb
set_option maxRecDepth 8000 in
theorem spec_l1Under (G : Kin) (hG : Small G) (hU : Ups G.flatten) (a b : Int) (ha : a < kcnt G) (hb : b < kcnt G) : FnC Try.prog 90 [A.sl 1 cGrp G, A.int a, A.int b] (A.bool (kunder G a b)) := by
  have hkc : kcnt G = (G.flatten.length : Int) := rfl
  refine Fn_of_W Try.func90 rfl rfl fun r w => ?_
  refine W_seq (W_region (WL_ac rfl ?_))
  refine WL_nil (Fin_then (W_seq (W_seq (W_region (WL_mv rfl rfl ?_)))))
  refine ws O_eql ⟨T1 rfl, C1, trivial⟩ ?_
  refine WL_mv rfl rfl ?_
  refine wf1 rfl rfl (fun hc => O_move) ⟨tg rfl, trivial⟩ ?_
  refine wf1 rfl rfl (fun hc => O_move) ⟨tg rfl, trivial⟩ ?_
  refine wf1 rfl rfl (fun hc => O_eql) ⟨tg rfl, tg rfl, trivial⟩ ?_
  refine ws O_or ⟨T1 rfl, tg rfl, trivial⟩ ?_
  refine WL_nil (Fin_then (W_cond rfl (fun h0 => ?_) (fun h0 => ?_)))
  · skip
    try simp only [bl] at h0
    refine W_seq (W_region (WL_ac rfl ?_))
    exact WL_nil (Fin_then (W_ret (Fin_then_ret (RetC rfl (Res1 rfl (RV.tmp rfl (Imp.bool (by unfold kunder; rw [if_pos (by omega)]))))))))
  try simp only [bl] at h0
  refine W_skip (Fin_then (W_seq (W_seq (W_region (WL_mv rfl rfl ?_)))))
  refine ws O_lss ⟨T1 rfl, C1, trivial⟩ ?_
  refine WL_mv rfl rfl ?_
  refine wf1 rfl rfl (fun hc => O_move) ⟨tg rfl, trivial⟩ ?_
  refine wf1 rfl rfl (fun hc => O_lss) ⟨tg rfl, C1, trivial⟩ ?_
  refine ws O_or ⟨T1 rfl, tg rfl, trivial⟩ ?_
  refine WL_nil (Fin_then (W_cond rfl (fun h1 => ?_) (fun h1 => ?_)))
  · skip
    try simp only [bl] at h1
    refine W_seq (W_region (WL_ac rfl ?_))
    exact WL_nil (Fin_then (W_ret (Fin_then_ret (RetC rfl (Res1 rfl (RV.tmp rfl (Imp.bool (by unfold kunder; rw [if_neg (by omega), if_pos (by omega)]))))))))
  try simp only [bl] at h1
  refine W_skip (Fin_then (W_seq (W_region (WL_mv rfl rfl ?_))))
  refine ws (O_call cf75 (spec_l1Flat _ (by assumption)) rfl) ⟨T1 rfl, trivial⟩ ?_
  refine WL_as rfl rfl ?_
  refine WL_nil (Fin_then (W_seq (W_block (W_loopk [0, 2, 7] (T := Int) (fun c => c < kcnt G ∧ -1 ≤ c ∧ (kline G.flatten a).any (fun x => ksame G x b) = (kline G.flatten c).any (fun x => ksame G x b)) (fun c => [(1, true, A.int c)]) (fun c => (c + 1).toNat) a ⟨by omega, by omega, rfl⟩ ⟨⟨rfl, _, rfl, (by first | exact Imp.refl | exact Imp.slv | exact Imp.nil | exact Imp.int (by omega) | exact Imp.int (by simp; done) | exact Imp.bool (by simp_all; done))⟩, trivial⟩ (fun c hx => ?_)))))
  obtain ⟨hc1, hc2, hc3⟩ := hx
  refine W_seq (W_seq (W_region (WL_mv rfl rfl ?_)))
  refine ws O_geq ⟨T1 rfl, C1, trivial⟩ ?_
  refine WL_nil (Fin_then (W_cond rfl (fun h2 => ?_) (fun h2 => ?_)))
  · skip
    try simp only [bl] at h2
    refine W_skip (Fin_then (W_block (W_seq (W_seq (W_region (WL_mv rfl rfl ?_))))))
    refine WL_mv rfl rfl ?_
    refine WL_mv rfl rfl ?_
    refine ws (O_call cf140 (spec_l1Same _ (by assumption) _ _ (by omega) (by omega) (by omega) (by omega)) rfl) ⟨T1 rfl, T1 rfl, T1 rfl, trivial⟩ ?_
    refine WL_nil (Fin_then (W_cond rfl (fun h3 => ?_) (fun h3 => ?_)))
    · skip
      try simp only [bl] at h3
      refine W_seq (W_region (WL_ac rfl ?_))
      exact WL_nil (Fin_then (W_ret (Fin_then_ret (Fin_block_ret (Fin_then_ret (Fin_block_ret (Fin_then_ret (RetC rfl (Res1 rfl (RV.tmp rfl (Imp.bool (by unfold kunder; rw [if_neg (by omega), if_neg (by omega), hc3, kline_cons (a := c) hU (by omega) (by omega), List.any_cons, h3]; rfl))))))))))))
    try simp only [bl] at h3
    refine W_skip (Fin_then (W_region (WL_mv rfl rfl ?_)))
    refine WL_mv rfl rfl ?_
    refine ws (O_index ts82 (by omega)) ⟨T1 rfl, T1 rfl, trivial⟩ ?_
    refine ws (O_field tf145_1) ⟨T1 rfl, trivial⟩ ?_
    refine ws (O_load ta3) ⟨T1 rfl, trivial⟩ ?_
    refine WL_as rfl rfl ?_
    refine WL_nil (Fin_block ?_)
    have hu := hU c (by omega) (by omega)
    rw [kline_cons (a := c) hU (by omega) (by omega), List.any_cons, h3, Bool.false_or] at hc3
    exact Fin_back (idx G.flatten c).up ⟨by omega, by omega, hc3⟩ (by omega) ⟨⟨rfl, _, rfl, (by first | exact Imp.refl | exact Imp.slv | exact Imp.nil | exact Imp.int (by omega) | exact Imp.int (by simp; done) | exact Imp.bool (by simp_all; done))⟩, trivial⟩ ⟨rfl, rfl, rfl, trivial⟩ rfl rfl
  try simp only [bl] at h2
  refine W_exit (Fin_then_exit (Fin_then_exit (Fin_block_exit (Fin_then (W_seq (W_region (WL_ac rfl ?_)))))))
  exact WL_nil (Fin_then (W_ret (RetC rfl (Res1 rfl (RV.tmp rfl (Imp.bool (by unfold kunder; rw [if_neg (by omega), if_neg (by omega), hc3, kline_neg (by omega)]; rfl)))))))
set_option maxRecDepth 8000 in
theorem spec_l1Sort (G : Kin) (hG : Small G) (hU : Ups G.flatten) (a b : Fld) (ha : a.kind ≠ 1 → a.of < kcnt G) (hb : b.kind ≠ 1 → b.of < kcnt G) : FnC Try.prog 169 [A.sl 1 cGrp G, A.agg (cFld a), A.agg (cFld b)] (A.bool (ksort G a b)) := by
  refine Fn_of_W Try.func169 rfl rfl fun r w => ?_
  refine W_seq (W_region (ws O_boxg ⟨T1 rfl, trivial⟩ ?_))
  refine ws O_boxg ⟨T1 rfl, trivial⟩ ?_
  refine WL_ac rfl ?_
  refine WL_nil (Fin_then (W_seq (W_seq (W_region (ws (O_field tf37_0) ⟨T1 rfl, trivial⟩ ?_)))))
  refine ws (O_load ta3) ⟨T1 rfl, trivial⟩ ?_
  refine ws O_eql ⟨T1 rfl, C1, trivial⟩ ?_
  refine WL_mv rfl rfl ?_
  refine wf1 rfl rfl (fun hc => (O_field tf37_0)) ⟨tg rfl, trivial⟩ ?_
  refine wf1 rfl rfl (fun hc => (O_load ta3)) ⟨tg rfl, trivial⟩ ?_
  refine wf1 rfl rfl (fun hc => O_eql) ⟨tg rfl, C1, trivial⟩ ?_
  refine ws O_or ⟨T1 rfl, tg rfl, trivial⟩ ?_
  refine WL_nil (Fin_then (W_cond rfl (fun h0 => ?_) (fun h0 => ?_)))
  · skip
    try simp only [bl] at h0
    refine W_seq (W_region (ws (O_field tf37_0) ⟨T1 rfl, trivial⟩ ?_))
    refine ws (O_load ta3) ⟨T1 rfl, trivial⟩ ?_
    refine ws (O_field tf37_0) ⟨T1 rfl, trivial⟩ ?_
    refine ws (O_load ta3) ⟨T1 rfl, trivial⟩ ?_
    refine ws O_eql ⟨T1 rfl, T1 rfl, trivial⟩ ?_
    refine WL_as rfl rfl ?_
    exact WL_nil (Fin_then (W_ret (Fin_then_ret (RetC rfl (Res1 rfl (RV.tmp rfl (Imp.bool (by unfold ksort; rw [if_pos (by omega)]))))))))
  try simp only [bl] at h0
  refine W_skip (Fin_then (W_seq (W_region (ws (O_field tf37_0) ⟨T1 rfl, trivial⟩ ?_))))
  refine ws (O_load ta3) ⟨T1 rfl, trivial⟩ ?_
  refine ws O_eql ⟨T1 rfl, C1, trivial⟩ ?_
  refine WL_mv rfl rfl ?_
  refine wf1 rfl rfl (fun hc => (O_field tf37_0)) ⟨tg rfl, trivial⟩ ?_
  refine wf1 rfl rfl (fun hc => (O_load ta3)) ⟨tg rfl, trivial⟩ ?_
  refine wf1 rfl rfl (fun hc => O_eql) ⟨tg rfl, C1, trivial⟩ ?_
  refine ws O_or ⟨T1 rfl, tg rfl, trivial⟩ ?_
  refine WL_mv rfl rfl ?_
  refine wt1 rfl rfl (fun hc => O_move) ⟨tg rfl, trivial⟩ ?_
  refine wt1 rfl rfl (fun hc => (O_field tf37_1)) ⟨tg rfl, trivial⟩ ?_
  refine wt1 rfl rfl (fun hc => (O_load ta3)) ⟨tg rfl, trivial⟩ ?_
  refine wt1 rfl rfl (fun hc => (O_field tf37_1)) ⟨tg rfl, trivial⟩ ?_
  refine wt1 rfl rfl (fun hc => (O_load ta3)) ⟨tg rfl, trivial⟩ ?_
  refine wt1 rfl rfl (fun hc => (O_call cf90 (spec_l1Under _ (by assumption) hU _ _ (by (try simp only [bl] at hc); omega) (by (try simp only [bl] at hc); omega)) rfl)) ⟨tg rfl, tg rfl, tg rfl, trivial⟩ ?_
  refine ws O_and ⟨T1 rfl, tg rfl, trivial⟩ ?_
  refine WL_as rfl rfl ?_
  exact WL_nil (Fin_then (W_ret (RetC rfl (Res1 rfl (RV.tmp rfl (Imp.bool (by unfold ksort; rw [if_neg (by omega)])))))))
set_option maxRecDepth 8000 in
theorem spec_l1Fits (G : Kin) (hG : Small G) (hU : Ups G.flatten) (a b : Fld) (ha : a.kind ≠ 1 → a.of < kcnt G) (hb : b.kind ≠ 1 → b.of < kcnt G) : FnC Try.prog 139 [A.sl 1 cGrp G, A.agg (cFld a), A.agg (cFld b)] (A.bool (kfits G a b)) := by
  refine Fn_of_W Try.func139 rfl rfl fun r w => ?_
  refine W_seq (W_region (ws O_boxg ⟨T1 rfl, trivial⟩ ?_))
  refine ws O_boxg ⟨T1 rfl, trivial⟩ ?_
  refine WL_ac rfl ?_
  refine WL_nil (Fin_then (W_seq (W_seq (W_region (ws (O_field tf37_2) ⟨T1 rfl, trivial⟩ ?_)))))
  refine ws (O_load ta4) ⟨T1 rfl, trivial⟩ ?_
  refine ws (O_field tf37_2) ⟨T1 rfl, trivial⟩ ?_
  refine ws (O_load ta4) ⟨T1 rfl, trivial⟩ ?_
  refine ws (O_neb ub4) ⟨T1 rfl, T1 rfl, trivial⟩ ?_
  refine WL_nil (Fin_then (W_cond rfl (fun h0 => ?_) (fun h0 => ?_)))
  · skip
    try simp only [bl] at h0
    refine W_seq (W_region (WL_ac rfl ?_))
    exact WL_nil (Fin_then (W_ret (Fin_then_ret (RetC rfl (Res1 rfl (RV.tmp rfl (Imp.bool (by unfold kfits; grind))))))))
  try simp only [bl] at h0
  refine W_skip (Fin_then (W_seq (W_region (WL_mv rfl rfl ?_))))
  refine ws (O_loadgw tg37 rfl) ⟨T1 rfl, trivial⟩ ?_
  refine ws (O_loadgw tg37 rfl) ⟨T1 rfl, trivial⟩ ?_
  refine ws (O_call cf169 (spec_l1Sort _ (by assumption) hU _ _ ha hb) rfl) ⟨T1 rfl, T1 rfl, T1 rfl, trivial⟩ ?_
  refine WL_mv rfl rfl ?_
  refine wt1 rfl rfl (fun hc => (O_field tf37_2)) ⟨tg rfl, trivial⟩ ?_
  refine wt1 rfl rfl (fun hc => (O_load ta4)) ⟨tg rfl, trivial⟩ ?_
  refine wt1 rfl rfl (fun hc => O_not) ⟨tg rfl, trivial⟩ ?_
  refine wt1 rfl rfl (fun hc => O_move) ⟨tg rfl, trivial⟩ ?_
  refine wf rfl rfl (fun hc => O_move) ⟨tg rfl, trivial⟩ ?_
  refine wf rfl rfl (fun hc => (O_loadgw tg37 rfl)) ⟨tg rfl, trivial⟩ ?_
  refine wf rfl rfl (fun hc => (O_loadgw tg37 rfl)) ⟨tg rfl, trivial⟩ ?_
  refine wf rfl rfl (fun hc => (O_call cf169 (spec_l1Sort _ (by assumption) hU _ _ hb ha) rfl)) ⟨tg rfl, tg rfl, tg rfl, trivial⟩ ?_
  refine wt1 rfl rfl (fun hc => O_or) ⟨tg rfl, tg rfl, trivial⟩ ?_
  refine ws O_and ⟨T1 rfl, tg rfl, trivial⟩ ?_
  refine WL_as rfl rfl ?_
  exact WL_nil (Fin_then (W_ret (RetC rfl (Res1 rfl (RV.tmp rfl (Imp.bool (by unfold kfits; grind)))))))
set_option maxRecDepth 8000 in
theorem spec_l1Below (G : Kin) (hG : Small G) (hU : Ups G.flatten) (t u : Ty) (ht : RefOk G t) (hu : RefOk G u) : FnC Try.prog 87 [A.sl 1 cGrp G, A.agg (cTy t), A.agg (cTy u)] (A.bool (kbelow G t u)) := by
  refine Fn_of_W Try.func87 rfl rfl fun r w => ?_
  refine W_seq (W_region (ws O_boxg ⟨T1 rfl, trivial⟩ ?_))
  refine ws O_boxg ⟨T1 rfl, trivial⟩ ?_
  refine WL_ac rfl ?_
  refine WL_nil (Fin_then (W_seq (W_seq (W_region (ws (O_field tf145_0) ⟨T1 rfl, trivial⟩ ?_)))))
  refine ws (O_load ta3) ⟨T1 rfl, trivial⟩ ?_
  refine ws (O_field tf145_0) ⟨T1 rfl, trivial⟩ ?_
  refine ws (O_load ta3) ⟨T1 rfl, trivial⟩ ?_
  refine ws O_neq ⟨T1 rfl, T1 rfl, trivial⟩ ?_
  refine WL_mv rfl rfl ?_
  refine wf1 rfl rfl (fun hc => (O_field tf145_2)) ⟨tg rfl, trivial⟩ ?_
  refine wf1 rfl rfl (fun hc => (O_load ta4)) ⟨tg rfl, trivial⟩ ?_
  refine ws O_or ⟨T1 rfl, tg rfl, trivial⟩ ?_
  refine WL_mv rfl rfl ?_
  refine wf1 rfl rfl (fun hc => (O_field tf145_3)) ⟨tg rfl, trivial⟩ ?_
  refine wf1 rfl rfl (fun hc => (O_load ta50)) ⟨tg rfl, trivial⟩ ?_
  refine wf1 rfl rfl (fun hc => (O_len ts50)) ⟨tg rfl, trivial⟩ ?_
  refine wf1 rfl rfl (fun hc => (O_field tf145_3)) ⟨tg rfl, trivial⟩ ?_
  refine wf1 rfl rfl (fun hc => (O_load ta50)) ⟨tg rfl, trivial⟩ ?_
  refine wf1 rfl rfl (fun hc => (O_len ts50)) ⟨tg rfl, trivial⟩ ?_
  refine wf1 rfl rfl (fun hc => O_gtr) ⟨tg rfl, tg rfl, trivial⟩ ?_
  refine ws O_or ⟨T1 rfl, tg rfl, trivial⟩ ?_
  refine WL_nil (Fin_then (W_cond rfl (fun h0 => ?_) (fun h0 => ?_)))
  · skip
    try simp only [bl] at h0
    refine W_seq (W_region (WL_ac rfl ?_))
    exact WL_nil (Fin_then (W_ret (Fin_then_ret (RetC rfl (Res1 rfl (RV.tmp rfl (Imp.bool (by unfold kbelow; grind))))))))
  try simp only [bl] at h0
  refine W_skip (Fin_then (W_seq (W_seq (W_region (WL_ac rfl ?_)))))
  refine WL_nil (Fin_then (W_block (W_loopk [0, 4, 5] (T := Nat) (fun k => k ≤ u.fields.length ∧ ∀ j, j < k → (fun i => kfits G (idx t.fields (i : Int)) (idx u.fields (i : Int))) j = true) (fun k => [(7, true, A.int (k : Int))]) (fun k => u.fields.length - k) 0 ⟨Nat.zero_le _, allN_zero⟩ ⟨⟨rfl, _, rfl, (by first | exact Imp.refl | exact Imp.slv | exact Imp.nil | exact Imp.int (by omega) | exact Imp.int (by simp; done) | exact Imp.bool (by simp_all; done))⟩, trivial⟩ (fun k hx => ?_))))
  have hk := hx.1
  have hj := hx.2
  refine W_seq (W_seq (W_region (WL_mv rfl rfl ?_)))
  refine ws (O_field tf145_3) ⟨T1 rfl, trivial⟩ ?_
  refine ws (O_load ta50) ⟨T1 rfl, trivial⟩ ?_
  refine WL_len ts50 rfl rfl fun hl29 => ?_
  refine ws O_lss ⟨T1 rfl, T1 rfl, trivial⟩ ?_
  refine WL_nil (Fin_then (W_cond rfl (fun h1 => ?_) (fun h1 => ?_)))
  · skip
    try simp only [bl] at h1
    refine W_skip (Fin_then (W_seq (W_block (W_seq (W_draw 13 mix rfl rfl ?_)))))
    refine cs O_move ⟨T1 rfl, trivial⟩ ?_
    refine cs (O_field tf145_3) ⟨T1 rfl, trivial⟩ ?_
    refine cs (O_load ta50) ⟨T1 rfl, trivial⟩ ?_
    refine cs O_move ⟨T1 rfl, trivial⟩ ?_
    refine cs (O_index ts50 (by omega)) ⟨T1 rfl, T1 rfl, trivial⟩ ?_
    refine cs (O_loadgw tg37 rfl) ⟨T1 rfl, trivial⟩ ?_
    refine cs (O_field tf145_3) ⟨T1 rfl, trivial⟩ ?_
    refine cs (O_load ta50) ⟨T1 rfl, trivial⟩ ?_
    refine cs O_move ⟨T1 rfl, trivial⟩ ?_
    refine cs (O_index ts50 (by omega)) ⟨T1 rfl, T1 rfl, trivial⟩ ?_
    refine cs (O_loadgw tg37 rfl) ⟨T1 rfl, trivial⟩ ?_
    refine cs (O_call cf139 (spec_l1Fits _ (by assumption) hU _ _ (ht.idx' (by omega) (by omega)) (hu.idx' (by omega) (by omega))) rfl) ⟨T1 rfl, T1 rfl, T1 rfl, trivial⟩ ?_
    refine cs O_not ⟨T1 rfl, trivial⟩ ?_
    refine Chain_nil ?_
    refine WL_nil (Fin_then (W_cond rfl (fun h2 => ?_) (fun h2 => ?_)))
    · skip
      try simp only [bl] at h2
      refine W_seq (W_region (WL_ac rfl ?_))
      exact WL_nil (Fin_then (W_ret (Fin_block_ret (Fin_then_ret (Fin_then_ret (Fin_block_ret (Fin_then_ret (RetC rfl (Res1 rfl (RV.tmp rfl (Imp.bool (by unfold kbelow; rw [allN_false k (by omega) (by grind)]; simp))))))))))))
    try simp only [bl] at h2
    refine W_skip (Fin_block (Fin_then (W_region (WL_mv rfl rfl ?_))))
    refine ws (O_add (by omega)) ⟨T1 rfl, C1, trivial⟩ ?_
    refine WL_as rfl rfl ?_
    exact WL_nil (Fin_back (k + 1) ⟨by omega, allN_succ hj (by grind)⟩ (by omega) ⟨⟨rfl, _, rfl, (by first | exact Imp.refl | exact Imp.slv | exact Imp.nil | exact Imp.int (by omega) | exact Imp.int (by simp; done) | exact Imp.bool (by simp_all; done))⟩, trivial⟩ ⟨rfl, rfl, rfl, trivial⟩ rfl rfl)
  try simp only [bl] at h1
  refine W_exit (Fin_then_exit (Fin_then_exit (Fin_block_exit (Fin_then (W_seq (W_region (WL_ac rfl ?_)))))))
  exact WL_nil (Fin_then (W_ret (RetC rfl (Res1 rfl (RV.tmp rfl (Imp.bool (by unfold kbelow; rw [allN_true (fun j q => hj j (by omega))]; grind)))))))
set_option maxRecDepth 8000 in
theorem spec_l1Parts (G : Kin) (hG : Small G) : FnC Try.prog 86 [A.sl 1 cGrp G] (A.bool (kparts G)) := by
  refine Fn_of_W Try.func86 rfl rfl fun r w => ?_
  refine W_seq (W_region (WL_ac rfl ?_))
  refine WL_nil (Fin_then (W_seq (W_seq (W_region (WL_mv rfl rfl ?_)))))
  refine WL_len ts31 rfl rfl fun hl8 => ?_
  refine ws O_gtr ⟨T1 rfl, C1, trivial⟩ ?_
  refine WL_mv rfl rfl ?_
  refine wf1 rfl rfl (fun hc => O_move) ⟨tg rfl, trivial⟩ ?_
  refine wf1 rfl rfl (fun hc => (O_call cf43 (spec_KinCount _ (by assumption)) rfl)) ⟨tg rfl, trivial⟩ ?_
  refine wf1 rfl rfl (fun hc => O_gtr) ⟨tg rfl, C1, trivial⟩ ?_
  refine ws O_or ⟨T1 rfl, tg rfl, trivial⟩ ?_
  refine WL_nil (Fin_then (W_cond rfl (fun h0 => ?_) (fun h0 => ?_)))
  · skip
    try simp only [bl] at h0
    refine W_seq (W_region (WL_ac rfl ?_))
    exact WL_nil (Fin_then (W_ret (Fin_then_ret (RetC rfl (Res1 rfl (RV.tmp rfl (Imp.bool (by unfold kparts; simp; omega))))))))
  try simp only [bl] at h0
  refine W_skip (Fin_then (W_seq (W_region (WL_ac rfl ?_))))
  refine WL_nil (Fin_then (W_seq (W_seq (W_region (WL_ac rfl ?_)))))
  refine WL_nil (Fin_then (W_block (W_loopk [0] (T := Nat) (fun k => k ≤ G.length ∧ ∀ j, j < k → (fun i : Nat => decide ((idx G (i : Int)).length ≠ 0) && allN (idx G (i : Int)).length fun k => kform (idx (idx G (i : Int)) (k : Int)) (kbeg G (i : Int) + (k : Int)) (kbeg G (i : Int) + ((idx G (i : Int)).length : Int))) j = true) (fun k => [(3, true, A.int (kbeg G (k : Int))), (4, true, A.int (k : Int))]) (fun k => G.length - k) 0 ⟨Nat.zero_le _, allN_zero⟩ ⟨⟨rfl, _, rfl, (by first | exact Imp.refl | exact Imp.slv | exact Imp.nil | exact Imp.int (by omega) | exact Imp.int (by simp; done) | exact Imp.bool (by simp_all; done))⟩, ⟨rfl, _, rfl, (by first | exact Imp.refl | exact Imp.slv | exact Imp.nil | exact Imp.int (by omega) | exact Imp.int (by simp; done) | exact Imp.bool (by simp_all; done))⟩, trivial⟩ (fun k hx => ?_))))
  have hk := hx.1
  have hj := hx.2
  have b1 := kbeg_le G (k : Int)
  have b2 := kbeg_nonneg G (k : Int)
  have b3 := hG.kcnt
  have b4 := hG.idx (k : Int)
  refine W_seq (W_seq (W_region (WL_mv rfl rfl ?_)))
  refine WL_mv rfl rfl ?_
  refine WL_len ts31 rfl rfl fun hl17 => ?_
  refine ws O_lss ⟨T1 rfl, T1 rfl, trivial⟩ ?_
  refine WL_nil (Fin_then (W_cond rfl (fun h1 => ?_) (fun h1 => ?_)))
  · skip
    try simp only [bl] at h1
    refine W_skip (Fin_then (W_seq (W_block (W_seq (W_seq (W_region (WL_mv rfl rfl ?_)))))))
    refine WL_mv rfl rfl ?_
    refine ws (O_index ts31 (by omega)) ⟨T1 rfl, T1 rfl, trivial⟩ ?_
    refine ws (O_load ta82) ⟨T1 rfl, trivial⟩ ?_
    refine WL_len ts82 rfl rfl fun hl25 => ?_
    refine ws O_eql ⟨T1 rfl, C1, trivial⟩ ?_
    refine WL_nil (Fin_then (W_cond rfl (fun h2 => ?_) (fun h2 => ?_)))
    · skip
      try simp only [bl] at h2
      refine W_seq (W_region (WL_ac rfl ?_))
      exact WL_nil (Fin_then (W_ret (Fin_then_ret (Fin_block_ret (Fin_then_ret (Fin_then_ret (Fin_block_ret (Fin_then_ret (RetC rfl (Res1 rfl (RV.tmp rfl (Imp.bool (by unfold kparts; rw [allN_false k (by omega) (by grind)]; simp)))))))))))))
    try simp only [bl] at h2
    refine W_skip (Fin_then (W_seq (W_draw 9 mix rfl rfl ?_)))
    refine cs O_move ⟨T1 rfl, trivial⟩ ?_
    refine cs O_move ⟨T1 rfl, trivial⟩ ?_
    refine cs (O_call cf137 (spec_l1Begin _ (by assumption) _ (by omega) (by omega)) rfl) ⟨T1 rfl, T1 rfl, trivial⟩ ?_
    refine cs O_move ⟨T1 rfl, trivial⟩ ?_
    refine cs O_move ⟨T1 rfl, trivial⟩ ?_
    refine cs (O_index ts31 (by omega)) ⟨T1 rfl, T1 rfl, trivial⟩ ?_
    refine cs (O_load ta82) ⟨T1 rfl, trivial⟩ ?_
    refine cs (O_len ts82) ⟨T1 rfl, trivial⟩ ?_
    refine cs (O_add (by omega)) ⟨T1 rfl, T1 rfl, trivial⟩ ?_
    refine Chain_nil ?_
    refine WL_as rfl rfl ?_
    refine WL_nil (Fin_then (W_seq (W_region (WL_ac rfl ?_))))
    refine WL_nil (Fin_then (W_block (W_loopk [0, 4, 5] (T := Nat) (fun i => i ≤ (idx G (k : Int)).length ∧ ∀ j, j < i → (fun i : Nat => kform (idx (idx G (k : Int)) (i : Int)) (kbeg G (k : Int) + (i : Int)) (kbeg G (k : Int) + ((idx G (k : Int)).length : Int))) j = true) (fun i => [(3, true, A.int (kbeg G (k : Int) + (i : Int))), (6, true, A.int (i : Int))]) (fun i => (idx G (k : Int)).length - i) 0 ⟨Nat.zero_le _, allN_zero⟩ ⟨⟨rfl, _, rfl, (by first | exact Imp.refl | exact Imp.slv | exact Imp.nil | exact Imp.int (by omega) | exact Imp.int (by simp; done) | exact Imp.bool (by simp_all; done))⟩, ⟨rfl, _, rfl, (by first | exact Imp.refl | exact Imp.slv | exact Imp.nil | exact Imp.int (by omega) | exact Imp.int (by simp; done) | exact Imp.bool (by simp_all; done))⟩, trivial⟩ (fun i hx => ?_))))
    have hi1 := hx.1
    have hi2 := hx.2
    refine W_seq (W_seq (W_region (WL_mv rfl rfl ?_)))
    refine WL_mv rfl rfl ?_
    refine WL_mv rfl rfl ?_
    refine ws (O_index ts31 (by omega)) ⟨T1 rfl, T1 rfl, trivial⟩ ?_
    refine ws (O_load ta82) ⟨T1 rfl, trivial⟩ ?_
    refine WL_len ts82 rfl rfl fun hl41 => ?_
    refine ws O_lss ⟨T1 rfl, T1 rfl, trivial⟩ ?_
    refine WL_nil (Fin_then (W_cond rfl (fun h3 => ?_) (fun h3 => ?_)))
    · skip
      try simp only [bl] at h3
      refine W_skip (Fin_then (W_seq (W_block (W_seq (W_seq (W_region (WL_mv rfl rfl ?_)))))))
      refine WL_mv rfl rfl ?_
      refine ws (O_index ts31 (by omega)) ⟨T1 rfl, T1 rfl, trivial⟩ ?_
      refine ws (O_load ta82) ⟨T1 rfl, trivial⟩ ?_
      refine WL_mv rfl rfl ?_
      refine ws (O_index ts82 (by omega)) ⟨T1 rfl, T1 rfl, trivial⟩ ?_
      refine ws (O_loadgw tg145 rfl) ⟨T1 rfl, trivial⟩ ?_
      refine WL_mv rfl rfl ?_
      refine WL_mv rfl rfl ?_
      refine ws (O_call cf138 (spec_l1Form _ _ _) rfl) ⟨T1 rfl, T1 rfl, T1 rfl, trivial⟩ ?_
      refine ws O_not ⟨T1 rfl, trivial⟩ ?_
      refine WL_nil (Fin_then (W_cond rfl (fun h4 => ?_) (fun h4 => ?_)))
      · skip
        try simp only [bl] at h4
        refine W_seq (W_region (WL_ac rfl ?_))
        exact WL_nil (Fin_then (W_ret (Fin_then_ret (Fin_block_ret (Fin_then_ret (Fin_then_ret (Fin_block_ret (Fin_block_ret (Fin_then_ret (Fin_then_ret (Fin_block_ret (Fin_then_ret (RetC rfl (Res1 rfl (RV.tmp rfl (Imp.bool (by unfold kparts; rw [allN_false k (by omega) (by rw [allN_false i (by omega) (by grind)]; simp)]; simp)))))))))))))))))
      try simp only [bl] at h4
      refine W_skip (Fin_then (W_region (WL_mv rfl rfl ?_)))
      refine ws (O_add (by omega)) ⟨T1 rfl, C1, trivial⟩ ?_
      refine WL_as rfl rfl ?_
      refine WL_nil (Fin_block (Fin_then (W_region (WL_mv rfl rfl ?_))))
      refine ws (O_add (by omega)) ⟨T1 rfl, C1, trivial⟩ ?_
      refine WL_as rfl rfl ?_
      exact WL_nil (Fin_back (i + 1) ⟨by omega, allN_succ hi2 (by grind)⟩ (by omega) ⟨⟨rfl, _, rfl, (by first | exact Imp.refl | exact Imp.slv | exact Imp.nil | exact Imp.int (by omega) | exact Imp.int (by simp; done) | exact Imp.bool (by simp_all; done))⟩, ⟨rfl, _, rfl, (by first | exact Imp.refl | exact Imp.slv | exact Imp.nil | exact Imp.int (by omega) | exact Imp.int (by simp; done) | exact Imp.bool (by simp_all; done))⟩, trivial⟩ ⟨rfl, rfl, rfl, trivial⟩ rfl rfl)
    try simp only [bl] at h3
    refine W_exit (Fin_then_exit (Fin_then_exit (Fin_block_exit (Fin_block (Fin_then (W_region (WL_mv rfl rfl ?_)))))))
    refine ws (O_add (by omega)) ⟨T1 rfl, C1, trivial⟩ ?_
    refine WL_as rfl rfl ?_
    exact WL_nil (Fin_back (k + 1) ⟨by omega, allN_succ hj (by rw [allN_true (fun z q => hi2 z (by omega))]; simp; grind)⟩ (by omega) ⟨⟨rfl, _, rfl, (Imp.int (by rw [kbeg_nat, kbeg_nat, kcnt_step G k (by omega), show i = (idx G (k : Int)).length from by omega]))⟩, ⟨rfl, _, rfl, (by first | exact Imp.refl | exact Imp.slv | exact Imp.nil | exact Imp.int (by omega) | exact Imp.int (by simp; done) | exact Imp.bool (by simp_all; done))⟩, trivial⟩ ⟨rfl, trivial⟩ rfl rfl)
  try simp only [bl] at h1
  refine W_exit (Fin_then_exit (Fin_then_exit (Fin_block_exit (Fin_then (W_seq (W_region (WL_ac rfl ?_)))))))
  exact WL_nil (Fin_then (W_ret (RetC rfl (Res1 rfl (RV.tmp rfl (Imp.bool (by unfold kparts; rw [allN_true (fun j q => hj j (by omega))]; simp; omega)))))))
set_option maxRecDepth 8000 in
theorem spec_KinOk (G : Kin) (hG : Small G) : FnC Try.prog 41 [A.sl 1 cGrp G] (A.bool (kinOk G)) := by
  refine Fn_of_W Try.func41 rfl rfl fun r w => ?_
  refine W_seq (W_region (WL_ac rfl ?_))
  refine WL_nil (Fin_then (W_seq (W_seq (W_region (WL_mv rfl rfl ?_)))))
  refine ws (O_call cf86 (spec_l1Parts _ (by assumption)) rfl) ⟨T1 rfl, trivial⟩ ?_
  refine ws O_not ⟨T1 rfl, trivial⟩ ?_
  refine WL_nil (Fin_then (W_cond rfl (fun h0 => ?_) (fun h0 => ?_)))
  · skip
    try simp only [bl] at h0
    refine W_seq (W_region (WL_ac rfl ?_))
    exact WL_nil (Fin_then (W_ret (Fin_then_ret (RetC rfl (Res1 rfl (RV.tmp rfl (Imp.bool (by unfold kinOk; grind))))))))
  try simp only [bl] at h0
  have hp := kparts_ok h0
  have hU := hp.ups
  have hkc : kcnt G = (G.flatten.length : Int) := rfl
  refine W_skip (Fin_then (W_seq (W_region (WL_mv rfl rfl ?_))))
  refine ws (O_call cf75 (spec_l1Flat _ (by assumption)) rfl) ⟨T1 rfl, trivial⟩ ?_
  refine WL_as rfl rfl ?_
  refine WL_nil (Fin_then (W_seq (W_seq (W_region (WL_ac rfl ?_)))))
  refine WL_nil (Fin_then (W_block (W_loopk [0, 3] (T := Nat) (fun k => k ≤ G.flatten.length ∧ ∀ j, j < k → (fun i => !decide (0 ≤ (idx G.flatten (i : Int)).up) || kbelow G (idx G.flatten (i : Int)) (idx G.flatten (idx G.flatten (i : Int)).up)) j = true) (fun k => [(4, true, A.int (k : Int))]) (fun k => G.flatten.length - k) 0 ⟨Nat.zero_le _, allN_zero⟩ ⟨⟨rfl, _, rfl, (by first | exact Imp.refl | exact Imp.slv | exact Imp.nil | exact Imp.int (by omega) | exact Imp.int (by simp; done) | exact Imp.bool (by simp_all; done))⟩, trivial⟩ (fun k hx => ?_))))
  have hk := hx.1
  have hj := hx.2
  have hui : (k : Int) < G.flatten.length → (idx G.flatten (k : Int)).up < k := fun q => (hU k (by omega) q).2
  refine W_seq (W_seq (W_region (WL_mv rfl rfl ?_)))
  refine WL_mv rfl rfl ?_
  refine WL_len ts82 rfl rfl fun hl12 => ?_
  refine ws O_lss ⟨T1 rfl, T1 rfl, trivial⟩ ?_
  refine WL_nil (Fin_then (W_cond rfl (fun h1 => ?_) (fun h1 => ?_)))
  · skip
    try simp only [bl] at h1
    refine W_skip (Fin_then (W_seq (W_block (W_seq (W_draw 23 mix rfl rfl ?_)))))
    refine cs O_move ⟨T1 rfl, trivial⟩ ?_
    refine cs O_move ⟨T1 rfl, trivial⟩ ?_
    refine cs (O_index ts82 (by omega)) ⟨T1 rfl, T1 rfl, trivial⟩ ?_
    refine cs (O_field tf145_1) ⟨T1 rfl, trivial⟩ ?_
    refine cs (O_load ta3) ⟨T1 rfl, trivial⟩ ?_
    refine cs O_geq ⟨T1 rfl, C1, trivial⟩ ?_
    refine cs O_move ⟨T1 rfl, trivial⟩ ?_
    refine ct1 rfl rfl (fun hc => O_move) ⟨tg rfl, trivial⟩ ?_
    refine ct1 rfl rfl (fun hc => O_move) ⟨tg rfl, trivial⟩ ?_
    refine ct1 rfl rfl (fun hc => O_move) ⟨tg rfl, trivial⟩ ?_
    refine ct1 rfl rfl (fun hc => (O_index ts82 (by (try simp only [bl] at hc); omega))) ⟨tg rfl, tg rfl, trivial⟩ ?_
    refine ct1 rfl rfl (fun hc => (O_loadgw tg145 rfl)) ⟨tg rfl, trivial⟩ ?_
    refine ct1 rfl rfl (fun hc => O_move) ⟨tg rfl, trivial⟩ ?_
    refine ct1 rfl rfl (fun hc => O_move) ⟨tg rfl, trivial⟩ ?_
    refine ct1 rfl rfl (fun hc => O_move) ⟨tg rfl, trivial⟩ ?_
    refine ct1 rfl rfl (fun hc => (O_index ts82 (by (try simp only [bl] at hc); omega))) ⟨tg rfl, tg rfl, trivial⟩ ?_
    refine ct1 rfl rfl (fun hc => (O_field tf145_1)) ⟨tg rfl, trivial⟩ ?_
    refine ct1 rfl rfl (fun hc => (O_load ta3)) ⟨tg rfl, trivial⟩ ?_
    refine ct1 rfl rfl (fun hc => (O_index ts82 (by (try simp only [bl] at hc); omega))) ⟨tg rfl, tg rfl, trivial⟩ ?_
    refine ct1 rfl rfl (fun hc => (O_loadgw tg145 rfl)) ⟨tg rfl, trivial⟩ ?_
    refine ct1 rfl rfl (fun hc => (O_call cf87 (spec_l1Below _ (by assumption) hU _ _ (hp.tf _ (by omega) (by omega)) (hp.tf _ (by (try simp only [bl] at hc); omega) (by (try simp only [bl] at hc); omega))) rfl)) ⟨tg rfl, tg rfl, tg rfl, trivial⟩ ?_
    refine ct1 rfl rfl (fun hc => O_not) ⟨tg rfl, trivial⟩ ?_
    refine cs O_and ⟨T1 rfl, tg rfl, trivial⟩ ?_
    refine Chain_nil ?_
    refine WL_nil (Fin_then (W_cond rfl (fun h2 => ?_) (fun h2 => ?_)))
    · skip
      try simp only [bl] at h2
      refine W_seq (W_region (WL_ac rfl ?_))
      exact WL_nil (Fin_then (W_ret (Fin_block_ret (Fin_then_ret (Fin_then_ret (Fin_block_ret (Fin_then_ret (RetC rfl (Res1 rfl (RV.tmp rfl (Imp.bool (by unfold kinOk; rw [allN_false k (by omega) (by grind)]; simp))))))))))))
    try simp only [bl] at h2
    refine W_skip (Fin_block (Fin_then (W_region (WL_mv rfl rfl ?_))))
    refine ws (O_add (by omega)) ⟨T1 rfl, C1, trivial⟩ ?_
    refine WL_as rfl rfl ?_
    exact WL_nil (Fin_back (k + 1) ⟨by omega, allN_succ hj (by grind)⟩ (by omega) ⟨⟨rfl, _, rfl, (by first | exact Imp.refl | exact Imp.slv | exact Imp.nil | exact Imp.int (by omega) | exact Imp.int (by simp; done) | exact Imp.bool (by simp_all; done))⟩, trivial⟩ ⟨rfl, rfl, trivial⟩ rfl rfl)
  try simp only [bl] at h1
  refine W_exit (Fin_then_exit (Fin_then_exit (Fin_block_exit (Fin_then (W_seq (W_region (WL_ac rfl ?_)))))))
  exact WL_nil (Fin_then (W_ret (RetC rfl (Res1 rfl (RV.tmp rfl (Imp.bool (by unfold kinOk; rw [allN_true (fun j q => hj j (by omega)), h0]; rfl)))))))
end Go.Proofs.Ytfjggobjijeniaa
