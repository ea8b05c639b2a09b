import Derived.Test.YtfjggobjijeniaaRows
import Derived.Test.YtfjggobjijeniaaWalk3
import Derived.Test.YtfjggobjijeniaaWalk2
import Derived.Test.YtfjggobjijeniaaPure1
import Derived.Test.YtfjggobjijeniaaPure2
import Derived.Test.YtfjggobjijeniaaA1
namespace Go.Proofs.Ytfjggobjijeniaa.A5
open Go Go.RowKit Go.L
theorem mix : Try.prog.follows .mixedOrders = true := by kernel_rfl
theorem cf112 : CallF Try.prog 112 := fun w vs => by kernel_rfl
theorem cf141 : CallF Try.prog 141 := fun w vs => by kernel_rfl
theorem cf153 : CallF Try.prog 153 := fun w vs => by kernel_rfl
theorem cf172 : CallF Try.prog 172 := fun w vs => by kernel_rfl
theorem cf99 : CallF Try.prog 99 := fun w vs => by kernel_rfl
theorem sz145 : sizeAt Try.prog 145 = some 4 := by kernel_rfl
theorem sz203 : sizeAt Try.prog 203 = some 16 := by kernel_rfl
theorem sz3 : sizeAt Try.prog 3 = some 1 := by kernel_rfl
theorem sz37 : sizeAt Try.prog 37 = some 3 := by kernel_rfl
theorem ta108 : TA Try.prog 108 := by unfold TA; kernel_rfl
theorem ta3 : TA Try.prog 3 := by unfold TA; kernel_rfl
theorem ta4 : TA Try.prog 4 := by unfold TA; kernel_rfl
theorem ta50 : TA Try.prog 50 := by unfold TA; kernel_rfl
theorem ta62 : TA Try.prog 62 := by unfold TA; kernel_rfl
theorem ta82 : TA Try.prog 82 := by unfold TA; kernel_rfl
theorem tar201 : TAr Try.prog 201 4 37 3 := ⟨by kernel_rfl, by kernel_rfl⟩
theorem tb156 : TB Try.prog 156 [.int .i64 0, .int .i64 0, .bool false, .slice none 0 0, .int .i64 0, .int .i64 0] [(0, 4), (4, 1), (5, 1)] := ⟨by kernel_rfl, by kernel_rfl⟩
theorem tb203 : TB Try.prog 203 [.int .i64 0, .int .i64 0, .bool false, .int .i64 0, .int .i64 0, .int .i64 0, .bool false, .int .i64 0, .int .i64 0, .bool false, .int .i64 0, .int .i64 0, .bool false, .int .i64 0, .int .i64 0, .bool false] [(0, 1), (1, 1), (2, 1), (3, 1), (4, 12)] := ⟨by kernel_rfl, by kernel_rfl⟩
theorem tez108 : TEZ Try.prog 108 156 6 64 [.int .i64 0, .int .i64 0, .bool false, .slice none 0 0, .int .i64 0, .int .i64 0] := ⟨by kernel_rfl, by kernel_rfl⟩
theorem te108 : TE Try.prog 108 156 6 64 := tez108.te rfl
theorem tf110_0 : TF Try.prog 110 0 0 := by unfold TF; kernel_rfl
theorem tf110_1 : TF Try.prog 110 1 1 := by unfold TF; kernel_rfl
theorem tf145_0 : TF Try.prog 145 0 0 := by unfold TF; kernel_rfl
theorem tf145_1 : TF Try.prog 145 1 1 := by unfold TF; kernel_rfl
theorem tf145_2 : TF Try.prog 145 2 2 := by unfold TF; kernel_rfl
theorem tf145_3 : TF Try.prog 145 3 3 := by unfold TF; kernel_rfl
theorem tf156_0 : TF Try.prog 156 0 0 := by unfold TF; kernel_rfl
theorem tf156_1 : TF Try.prog 156 1 4 := by unfold TF; kernel_rfl
theorem tf156_2 : TF Try.prog 156 2 5 := by unfold TF; kernel_rfl
theorem tf203_4 : TF Try.prog 203 4 4 := by unfold TF; kernel_rfl
theorem tf37_0 : TF Try.prog 37 0 0 := by unfold TF; kernel_rfl
theorem tf37_1 : TF Try.prog 37 1 1 := by unfold TF; kernel_rfl
theorem tg145 : TG Try.prog 145 4 := ⟨by kernel_rfl, by kernel_rfl⟩
theorem tg203 : TG Try.prog 203 16 := ⟨by kernel_rfl, by kernel_rfl⟩
theorem tg37 : TG Try.prog 37 3 := ⟨by kernel_rfl, by kernel_rfl⟩
theorem ts108 : TS Try.prog 108 156 6 := ⟨by kernel_rfl, by kernel_rfl⟩
theorem ts31 : TS Try.prog 31 82 1 := ⟨by kernel_rfl, by kernel_rfl⟩
theorem ts50 : TS Try.prog 50 37 3 := ⟨by kernel_rfl, by kernel_rfl⟩
theorem ts62 : TS Try.prog 62 3 1 := ⟨by kernel_rfl, by kernel_rfl⟩
theorem ts82 : TS Try.prog 82 145 4 := ⟨by kernel_rfl, by kernel_rfl⟩
theorem tz145 : TZ Try.prog 145 [.int .i64 0, .int .i64 0, .bool false, .slice none 0 0] := by unfold TZ; kernel_rfl
theorem tz203 : TZ Try.prog 203 [.int .i64 0, .int .i64 0, .bool false, .int .i64 0, .int .i64 0, .int .i64 0, .bool false, .int .i64 0, .int .i64 0, .bool false, .int .i64 0, .int .i64 0, .bool false, .int .i64 0, .int .i64 0, .bool false] := by unfold TZ; kernel_rfl
theorem tz37 : TZ Try.prog 37 [.int .i64 0, .int .i64 0, .bool false] := by unfold TZ; kernel_rfl
end Go.Proofs.Ytfjggobjijeniaa.A5
namespace Go.Proofs.Ytfjggobjijeniaa
open Go Go.RowKit Go.L A5
set_option maxRecDepth 8000 in
theorem impl_flatten (G : Kin) (hG : Small G) : FnC Try.prog 95 [A.sl 1 cGrp G] (A.sl 6 cRow (krows G)) := by
  have b3 := hG.len
  have b4 := hG.flat
  refine Fn_of_W Try.func95 rfl rfl fun r w => ?_
  refine W_seq (W_region (WL_ac rfl ?_))
  refine WL_nil (Fin_then (W_seq (W_region (WL_ac rfl ?_))))
  refine WL_roomNil 3 156 6 cRow rfl ?_
  refine WL_nil (Fin_then (W_seq (W_seq (W_region (WL_mv rfl rfl ?_)))))
  refine WL_len ts31 rfl rfl fun hl10 => ?_
  refine WL_mc rfl ?_
  refine WL_nil (Fin_then (W_block (W_loopp [9, 10] [] [0] [] (T := Nat × Value) (fun x => x.1 ≤ G.length) (fun x => [(3, true, A.slv x.2 6 cRow (krows (G.take x.1))), (11, true, A.int (x.1 : Int))]) (fun x => { own := [], rooms := [(x.2, 156, 6)], maps := [] }) (fun x => G.length - x.1) (0, .slice none 0 0) (by omega) ⟨⟨rfl, _, rfl, (by first | exact Imp.refl | exact Imp.slv | exact Imp.nil | exact Imp.int (by omega) | exact Imp.int (by simp; done) | exact Imp.bool (by simp_all; done))⟩, ⟨rfl, _, rfl, (by first | exact Imp.refl | exact Imp.slv | exact Imp.nil | exact Imp.int (by omega) | exact Imp.int (by simp; done) | exact Imp.bool (by simp_all; done))⟩, trivial⟩ OSub.nil rfl rfl rfl (fun x hx => ?_))))
  have b5 := hG.idx (x.1 : Int)
  have b6 : (krows (G.take x.1)).length ≤ G.flatten.length := by rw [krows_len]; exact Int.ofNat_le.1 (kcnt_take_le G x.1)
  refine W_seq (W_region (ws O_lss ⟨T1 rfl, T1 rfl, trivial⟩ ?_))
  refine WL_nil (Fin_then (W_seq (W_cond rfl (fun h0 => ?_) (fun h0 => ?_))))
  · skip
    try simp only [bl] at h0
    refine W_skip (Fin_then (W_seq (W_block (W_seq (W_region (ws (O_index ts31 (by omega)) ⟨T1 rfl, T1 rfl, trivial⟩ ?_))))))
    refine ws (O_load ta82) ⟨T1 rfl, trivial⟩ ?_
    refine WL_as rfl rfl ?_
    refine WL_nil (Fin_then (W_seq (W_region (WL_mv rfl rfl ?_))))
    refine WL_lenr ts108 rfl rfl fun hl16 => ?_
    refine WL_as rfl rfl ?_
    refine WL_nil (Fin_then (W_seq (W_region (WL_mv rfl rfl ?_))))
    refine WL_len ts82 rfl rfl fun hl18 => ?_
    refine WL_mc rfl ?_
    refine WL_nil (Fin_then (W_block (W_loopp [5, 6, 9, 10, 11, 17, 18] [] [0] [] (T := Nat × Value) (fun y => y.1 ≤ (idx G (x.1 : Int)).length) (fun y => [(3, true, A.slv y.2 6 cRow (krows (G.take x.1) ++ (grows ((krows (G.take x.1)).length : Int) (idx G (x.1 : Int))).take y.1)), (19, true, A.int (y.1 : Int))]) (fun y => { own := [], rooms := [(y.2, 156, 6)], maps := [] }) (fun y => (idx G (x.1 : Int)).length - y.1) (0, x.2) (by omega) ⟨⟨rfl, _, rfl, (Imp.eq (by simp))⟩, ⟨rfl, _, rfl, (by first | exact Imp.refl | exact Imp.slv | exact Imp.nil | exact Imp.int (by omega) | exact Imp.int (by simp; done) | exact Imp.bool (by simp_all; done))⟩, trivial⟩ OSub.nil rfl rfl rfl (fun y hx => ?_))))
    have b7 := flat_idx G x.1 y.1 (by omega) (by assumption)
    have b8 : (krows (G.take x.1) ++ (grows ((krows (G.take x.1)).length : Int) (idx G (x.1 : Int))).take y.1).length ≤ G.flatten.length := by rw [List.length_append, krows_len, List.length_take, grows_len]; rw [List.length_append, List.length_take] at b7; omega
    refine W_seq (W_region (ws O_lss ⟨T1 rfl, T1 rfl, trivial⟩ ?_))
    refine WL_nil (Fin_then (W_seq (W_cond rfl (fun h1 => ?_) (fun h1 => ?_))))
    · skip
      try simp only [bl] at h1
      refine W_skip (Fin_then (W_seq (W_block (W_seq (W_region (ws (O_index ts82 (by omega)) ⟨T1 rfl, T1 rfl, trivial⟩ ?_))))))
      refine ws (O_loadgw tg145 rfl) ⟨T1 rfl, trivial⟩ ?_
      refine WL_alloc tz145 rfl fun b8 => ?_
      refine WL_store 0 rfl ⟨T1 rfl, T1 rfl, trivial⟩ (CellsOf.agg (by exact ⟨OneV.int, OneV.int, OneV.bool, OneV.sl, trivial⟩)) sz145 (Nat.le_of_ble_eq_true rfl) ?_
      refine WL_nil (Fin_then (W_region (WL_mv rfl rfl ?_)))
      refine ws (O_loadog 0 tg145 rfl (Nat.le_of_ble_eq_true rfl)) ⟨T1 rfl, trivial⟩ ?_
      refine WL_mv rfl rfl ?_
      refine WL_mv rfl rfl ?_
      refine WL_mv rfl rfl ?_
      refine WL_len ts82 rfl rfl fun hl28 => ?_
      refine ws (O_add (by omega)) ⟨T1 rfl, T1 rfl, trivial⟩ ?_
      refine ws (O_build [(_, _), (_, _), (_, _)] tb156 rfl ⟨(CellsOf.agg (by exact ⟨OneV.int, OneV.int, OneV.bool, OneV.sl, trivial⟩)), (CellsOf.one OneV.int), (CellsOf.one OneV.int), trivial⟩ rfl) ⟨T1 rfl, T1 rfl, T1 rfl, trivial⟩ ?_
      refine ws (O_slice1 (f := cRow) ⟨idx (idx G (x.1 : Int)) (y.1 : Int), _, _⟩ te108 rfl rfl (CellsOf.agg (by exact ⟨OneV.int, OneV.int, OneV.bool, OneV.sl, OneV.int, OneV.int, trivial⟩)) (by exact ⟨Imp.refl, Imp.refl, Imp.refl, Imp.refl, Imp.refl, Imp.refl, trivial⟩)) ⟨T1 rfl, trivial⟩ ?_
      refine WL_append 0 _ te108 ⟨T1 rfl, T1 rfl, trivial⟩ rfl (by decide) (fun _ => rfl) (fun _ => rfl) (fun _ => ⟨OneV.int, OneV.int, OneV.bool, OneV.sl, OneV.int, OneV.int, trivial⟩) rfl (by try simp only [List.length_cons, List.length_nil]; (first | done | omega)) (by simp only [maxLen, List.length_cons, List.length_nil]; omega) rfl fun v32 => ?_
      refine WL_as rfl rfl ?_
      refine WL_nil (Fin_block (Fin_then (W_region (ws (O_add (by omega)) ⟨T1 rfl, C1, trivial⟩ ?_))))
      refine WL_mv rfl rfl ?_
      exact WL_nil (Fin_backp [] (y.1 + 1, v32) (by omega) (by omega) ⟨⟨rfl, _, rfl, (Imp.eq (by rw [take_snoc (by rw [grows_len]; omega : y.1 < (grows _ _).length), idx_grows (by omega), List.append_assoc]))⟩, ⟨rfl, _, rfl, (by first | exact Imp.refl | exact Imp.slv | exact Imp.nil | exact Imp.int (by omega) | exact Imp.int (by simp; done) | exact Imp.bool (by simp_all; done))⟩, trivial⟩ ⟨rfl, rfl, rfl, rfl, rfl, rfl, rfl, trivial⟩ OSub.nil rfl (List.Sublist.refl _) rfl)
    try simp only [bl] at h1
    refine W_exit (Fin_then_exit (Fin_then_exit (Fin_block_exit (Fin_block (Fin_then (W_region (ws (O_add (by omega)) ⟨T1 rfl, C1, trivial⟩ ?_)))))))
    refine WL_mv rfl rfl ?_
    exact WL_nil (Fin_backp [] (x.1 + 1, y.2) (by omega) (by omega) ⟨⟨rfl, _, rfl, (Imp.eq (by rw [krows_step _ _ (by omega), krows_cnt, List.take_of_length_le (l := grows _ _) (by rw [grows_len]; omega)]))⟩, ⟨rfl, _, rfl, (by first | exact Imp.refl | exact Imp.slv | exact Imp.nil | exact Imp.int (by omega) | exact Imp.int (by simp; done) | exact Imp.bool (by simp_all; done))⟩, trivial⟩ ⟨rfl, rfl, trivial⟩ OSub.nil rfl (List.Sublist.refl _) rfl)
  try simp only [bl] at h0
  refine W_exit (Fin_then_exit (Fin_then_exit (Fin_block_exit (Fin_then (W_seq (W_region (WL_mv rfl rfl ?_)))))))
  refine WL_as rfl rfl ?_
  exact WL_nil (Fin_then (W_ret (RetC rfl (Res1 rfl (RV.tmp rfl (Imp.trans Imp.slv (Imp.eq (by rw [show x.1 = G.length from by omega, List.take_length]))))))))
set_option maxRecDepth 8000 in
theorem impl_code (L : List Row) (c : List Int) (n b : Int) (hc : CanOk c) (hb : 0 ≤ b) (hl : b ≤ c.length) (hn : n ≤ 9223372036854775807) : FnC Try.prog 172 [kP L c, A.int n, A.int b] (A.int (codeF c b n)) := by
  refine Fn_of_W Try.func172 rfl rfl fun r w => ?_
  refine W_seq (W_region (WL_ac rfl ?_))
  refine WL_nil (Fin_then (W_seq (W_block (W_seq (W_region (WL_mv rfl rfl ?_))))))
  refine ws O_lss ⟨T1 rfl, C1, trivial⟩ ?_
  refine WL_as rfl rfl ?_
  refine WL_nil (Fin_then (W_cond rfl (fun h0 => ?_) (fun h0 => ?_)))
  · skip
    try simp only [bl] at h0
    refine W_seq (W_region (WL_mv rfl rfl ?_))
    refine WL_as rfl rfl ?_
    exact WL_nil (Fin_then (W_ret (Fin_block_ret (Fin_then_ret (RetC rfl (Res1 rfl (RV.tmp rfl (Imp.int (by unfold codeF; grind)))))))))
  try simp only [bl] at h0
  refine W_seq (W_region (WL_mv rfl rfl ?_))
  refine WL_mv rfl rfl ?_
  refine ws O_geq ⟨T1 rfl, T1 rfl, trivial⟩ ?_
  refine WL_as rfl rfl ?_
  refine WL_nil (Fin_then (W_cond rfl (fun h1 => ?_) (fun h1 => ?_)))
  · skip
    try simp only [bl] at h1
    refine W_seq (W_region (WL_mv rfl rfl ?_))
    refine WL_mv rfl rfl ?_
    refine ws (O_sub (by omega)) ⟨T1 rfl, T1 rfl, trivial⟩ ?_
    refine WL_as rfl rfl ?_
    exact WL_nil (Fin_then (W_ret (Fin_block_ret (Fin_then_ret (RetC rfl (Res1 rfl (RV.tmp rfl (Imp.int (by unfold codeF; grind)))))))))
  try simp only [bl] at h1
  have h8 := hc _ (idx_mem (by omega) (by omega : n < c.length))
  refine W_skip (Fin_block (Fin_then (W_seq (W_region (WL_mv rfl rfl ?_)))))
  refine ws O_nilCheck ⟨T1 rfl, trivial⟩ ?_
  refine ws (O_field tf110_1) ⟨T1 rfl, trivial⟩ ?_
  refine ws (O_load ta62) ⟨T1 rfl, trivial⟩ ?_
  refine WL_mv rfl rfl ?_
  refine ws (O_index ts62 (by omega)) ⟨T1 rfl, T1 rfl, trivial⟩ ?_
  refine ws (O_load ta3) ⟨T1 rfl, trivial⟩ ?_
  refine ws (O_add (by omega)) ⟨C1, T1 rfl, trivial⟩ ?_
  refine WL_as rfl rfl ?_
  exact WL_nil (Fin_then (W_ret (RetC rfl (Res1 rfl (RV.tmp rfl (Imp.int (by unfold codeF; grind)))))))
set_option maxRecDepth 8000 in
theorem impl_isType (L : List Row) (c : List Int) (n : Int) : FnC Try.prog 145 [kP L c, A.int n] (A.bool (decide (0 ≤ n) && decide (n < L.length))) := by
  refine Fn_of_W Try.func145 rfl rfl fun r w => ?_
  refine W_seq (W_region (WL_ac rfl ?_))
  refine WL_nil (Fin_then (W_seq (W_region (WL_mv rfl rfl ?_))))
  refine ws O_geq ⟨T1 rfl, C1, trivial⟩ ?_
  refine WL_mv rfl rfl ?_
  refine wt1 rfl rfl (fun hc => O_move) ⟨tg rfl, trivial⟩ ?_
  refine wt1 rfl rfl (fun hc => O_move) ⟨tg rfl, trivial⟩ ?_
  refine wt1 rfl rfl (fun hc => O_nilCheck) ⟨tg rfl, trivial⟩ ?_
  refine wt1 rfl rfl (fun hc => (O_field tf110_0)) ⟨tg rfl, trivial⟩ ?_
  refine wt1 rfl rfl (fun hc => (O_load ta108)) ⟨tg rfl, trivial⟩ ?_
  refine wt1 rfl rfl (fun hc => (O_len ts108)) ⟨tg rfl, trivial⟩ ?_
  refine wt1 rfl rfl (fun hc => O_lss) ⟨tg rfl, tg rfl, trivial⟩ ?_
  refine ws O_and ⟨T1 rfl, tg rfl, trivial⟩ ?_
  refine WL_as rfl rfl ?_
  exact WL_nil (Fin_then (W_ret (RetC rfl (Res1 rfl (RV.tmp rfl (by first | exact Imp.refl | exact Imp.slv | exact Imp.nil | exact Imp.int (by omega) | exact Imp.int (by simp; done) | exact Imp.bool (by simp_all; done)))))))
set_option maxRecDepth 8000 in
theorem impl_readKin1 (g : List Ty) : FnC Try.prog 94 [A.sl 4 cTy g] (A.bool (decide (g = []))) := by
  refine Fn_of_W Try.func94 rfl rfl fun r w => ?_
  refine W_seq (W_region (WL_ac rfl ?_))
  refine WL_nil (Fin_then (W_seq (W_region (WL_mv rfl rfl ?_))))
  refine WL_len ts82 rfl rfl fun hl4 => ?_
  refine ws O_eql ⟨T1 rfl, C1, trivial⟩ ?_
  refine WL_as rfl rfl ?_
  exact WL_nil (Fin_then (W_ret (RetC rfl (Res1 rfl (RV.tmp rfl (Imp.bool (by cases g <;> simp; omega)))))))
set_option maxRecDepth 8000 in
theorem idxFuncG (f : FuncId) (caps : List A) (p : List Ty → Bool) (L : List (List Ty)) (hf : CallF Try.prog f) (hp : ∀ y ∈ L, FnC Try.prog f ([A.sl 4 cTy y] ++ caps) (A.bool (p y))) : FnC Try.prog 141 [A.sl 1 cGrp L, A.cl f caps] (A.int (findI p L)) := by
  refine Fn_of_W Try.func141 rfl rfl fun r w => ?_
  refine W_seq (W_region (WL_ac rfl ?_))
  refine WL_nil (Fin_then (W_seq (W_seq (W_region (WL_mv rfl rfl ?_)))))
  refine WL_len ts31 rfl rfl fun hl7 => ?_
  refine WL_mc rfl ?_
  refine WL_nil (Fin_then (W_block (W_loopk [0, 1, 7] (T := Nat) (fun k => k ≤ L.length ∧ ∀ j : Nat, j < k → p (idx L (j : Int)) = false) (fun k => [(8, true, A.int (k : Int))]) (fun k => L.length - k) 0 ⟨Nat.zero_le _, fun j h => by omega⟩ ⟨⟨rfl, _, rfl, (by first | exact Imp.refl | exact Imp.slv | exact Imp.nil | exact Imp.int (by omega) | exact Imp.int (by simp; done) | exact Imp.bool (by simp_all; done))⟩, trivial⟩ (fun k hx => ?_))))
  have hk := hx.1
  refine W_seq (W_region (ws O_lss ⟨T1 rfl, T1 rfl, trivial⟩ ?_))
  refine WL_nil (Fin_then (W_seq (W_cond rfl (fun h0 => ?_) (fun h0 => ?_))))
  · skip
    try simp only [bl] at h0
    refine W_skip (Fin_then (W_seq (W_block (W_seq (W_region (WL_mv rfl rfl ?_))))))
    refine WL_as rfl rfl ?_
    refine WL_nil (Fin_then (W_seq (W_region (WL_mv rfl rfl ?_))))
    refine WL_mv rfl rfl ?_
    refine WL_mv rfl rfl ?_
    refine ws (O_index ts31 (by omega)) ⟨T1 rfl, T1 rfl, trivial⟩ ?_
    refine ws (O_load ta82) ⟨T1 rfl, trivial⟩ ?_
    refine ws (O_callcl hf (hp _ (idx_mem (by omega) (by omega))) rfl) ⟨T1 rfl, T1 rfl, trivial⟩ ?_
    refine WL_nil (Fin_then (W_cond rfl (fun h1 => ?_) (fun h1 => ?_)))
    · skip
      try simp only [bl] at h1
      refine W_seq (W_region (WL_mv rfl rfl ?_))
      refine WL_as rfl rfl ?_
      exact WL_nil (Fin_then (W_ret (Fin_block_ret (Fin_then_ret (Fin_then_ret (Fin_block_ret (Fin_then_ret (RetC rfl (Res1 rfl (RV.tmp rfl (Imp.int (findI_some (by omega) (by simpa using h1) hx.2).symm)))))))))))
    try simp only [bl] at h1
    refine W_skip (Fin_block (Fin_then (W_region (ws (O_add (by omega)) ⟨T1 rfl, C1, trivial⟩ ?_))))
    refine WL_mv rfl rfl ?_
    exact WL_nil (Fin_back (k + 1) ⟨by omega, fun j hj => by rcases Nat.lt_or_ge j k with q | q; exact hx.2 j q; rw [show j = k from by omega]; simpa using h1⟩ (by omega) ⟨⟨rfl, _, rfl, (by first | exact Imp.refl | exact Imp.slv | exact Imp.nil | exact Imp.int (by omega) | exact Imp.int (by simp; done) | exact Imp.bool (by simp_all; done))⟩, trivial⟩ ⟨rfl, rfl, rfl, trivial⟩ rfl rfl)
  try simp only [bl] at h0
  refine W_exit (Fin_then_exit (Fin_then_exit (Fin_block_exit (Fin_then (W_seq (W_region (WL_ac rfl ?_)))))))
  exact WL_nil (Fin_then (W_ret (RetC rfl (Res1 rfl (RV.tmp rfl (Imp.int (findI_none (fun j hj => hx.2 j (by omega))).symm))))))
set_option maxRecDepth 8000 in
theorem conFuncG (f : FuncId) (caps : List A) (p : List Ty → Bool) (L : List (List Ty)) (hf : CallF Try.prog f) (hp : ∀ y ∈ L, FnC Try.prog f ([A.sl 4 cTy y] ++ caps) (A.bool (p y))) : FnC Try.prog 93 [A.sl 1 cGrp L, A.cl f caps] (A.bool (L.any p)) := by
  refine Fn_of_W Try.func93 rfl rfl fun r w => ?_
  refine W_seq (W_region (WL_ac rfl ?_))
  refine WL_nil (Fin_then (W_seq (W_region (WL_mv rfl rfl ?_))))
  refine WL_mv rfl rfl ?_
  refine ws (O_call cf141 (idxFuncG _ _ _ _ hf hp) rfl) ⟨T1 rfl, T1 rfl, trivial⟩ ?_
  refine ws O_geq ⟨T1 rfl, C1, trivial⟩ ?_
  refine WL_as rfl rfl ?_
  exact WL_nil (Fin_then (W_ret (RetC rfl (Res1 rfl (RV.tmp rfl (Imp.bool (by rw [← findI_any])))))))
set_option maxRecDepth 8000 in
theorem idxFuncF (f : FuncId) (caps : List A) (p : Fld → Bool) (L : List (Fld)) (hf : CallF Try.prog f) (hp : ∀ y ∈ L, FnC Try.prog f ([A.agg (cFld y)] ++ caps) (A.bool (p y))) : FnC Try.prog 153 [A.sl 3 cFld L, A.cl f caps] (A.int (findI p L)) := by
  refine Fn_of_W Try.func153 rfl rfl fun r w => ?_
  refine W_seq (W_region (WL_ac rfl ?_))
  refine WL_nil (Fin_then (W_seq (W_seq (W_region (WL_mv rfl rfl ?_)))))
  refine WL_len ts50 rfl rfl fun hl7 => ?_
  refine WL_mc rfl ?_
  refine WL_nil (Fin_then (W_block (W_loopk [0, 1, 7] (T := Nat) (fun k => k ≤ L.length ∧ ∀ j : Nat, j < k → p (idx L (j : Int)) = false) (fun k => [(8, true, A.int (k : Int))]) (fun k => L.length - k) 0 ⟨Nat.zero_le _, fun j h => by omega⟩ ⟨⟨rfl, _, rfl, (by first | exact Imp.refl | exact Imp.slv | exact Imp.nil | exact Imp.int (by omega) | exact Imp.int (by simp; done) | exact Imp.bool (by simp_all; done))⟩, trivial⟩ (fun k hx => ?_))))
  have hk := hx.1
  refine W_seq (W_region (ws O_lss ⟨T1 rfl, T1 rfl, trivial⟩ ?_))
  refine WL_nil (Fin_then (W_seq (W_cond rfl (fun h0 => ?_) (fun h0 => ?_))))
  · skip
    try simp only [bl] at h0
    refine W_skip (Fin_then (W_seq (W_block (W_seq (W_region (WL_mv rfl rfl ?_))))))
    refine WL_as rfl rfl ?_
    refine WL_nil (Fin_then (W_seq (W_region (WL_mv rfl rfl ?_))))
    refine WL_mv rfl rfl ?_
    refine WL_mv rfl rfl ?_
    refine ws (O_index ts50 (by omega)) ⟨T1 rfl, T1 rfl, trivial⟩ ?_
    refine ws (O_loadgw tg37 rfl) ⟨T1 rfl, trivial⟩ ?_
    refine ws (O_callcl hf (hp _ (idx_mem (by omega) (by omega))) rfl) ⟨T1 rfl, T1 rfl, trivial⟩ ?_
    refine WL_nil (Fin_then (W_cond rfl (fun h1 => ?_) (fun h1 => ?_)))
    · skip
      try simp only [bl] at h1
      refine W_seq (W_region (WL_mv rfl rfl ?_))
      refine WL_as rfl rfl ?_
      exact WL_nil (Fin_then (W_ret (Fin_block_ret (Fin_then_ret (Fin_then_ret (Fin_block_ret (Fin_then_ret (RetC rfl (Res1 rfl (RV.tmp rfl (Imp.int (findI_some (by omega) (by simpa using h1) hx.2).symm)))))))))))
    try simp only [bl] at h1
    refine W_skip (Fin_block (Fin_then (W_region (ws (O_add (by omega)) ⟨T1 rfl, C1, trivial⟩ ?_))))
    refine WL_mv rfl rfl ?_
    exact WL_nil (Fin_back (k + 1) ⟨by omega, fun j hj => by rcases Nat.lt_or_ge j k with q | q; exact hx.2 j q; rw [show j = k from by omega]; simpa using h1⟩ (by omega) ⟨⟨rfl, _, rfl, (by first | exact Imp.refl | exact Imp.slv | exact Imp.nil | exact Imp.int (by omega) | exact Imp.int (by simp; done) | exact Imp.bool (by simp_all; done))⟩, trivial⟩ ⟨rfl, rfl, rfl, trivial⟩ rfl rfl)
  try simp only [bl] at h0
  refine W_exit (Fin_then_exit (Fin_then_exit (Fin_block_exit (Fin_then (W_seq (W_region (WL_ac rfl ?_)))))))
  exact WL_nil (Fin_then (W_ret (RetC rfl (Res1 rfl (RV.tmp rfl (Imp.int (findI_none (fun j hj => hx.2 j (by omega))).symm))))))
set_option maxRecDepth 8000 in
theorem conFuncF (f : FuncId) (caps : List A) (p : Fld → Bool) (L : List (Fld)) (hf : CallF Try.prog f) (hp : ∀ y ∈ L, FnC Try.prog f ([A.agg (cFld y)] ++ caps) (A.bool (p y))) : FnC Try.prog 112 [A.sl 3 cFld L, A.cl f caps] (A.bool (L.any p)) := by
  refine Fn_of_W Try.func112 rfl rfl fun r w => ?_
  refine W_seq (W_region (WL_ac rfl ?_))
  refine WL_nil (Fin_then (W_seq (W_region (WL_mv rfl rfl ?_))))
  refine WL_mv rfl rfl ?_
  refine ws (O_call cf153 (idxFuncF _ _ _ _ hf hp) rfl) ⟨T1 rfl, T1 rfl, trivial⟩ ?_
  refine ws O_geq ⟨T1 rfl, C1, trivial⟩ ?_
  refine WL_as rfl rfl ?_
  exact WL_nil (Fin_then (W_ret (RetC rfl (Res1 rfl (RV.tmp rfl (Imp.bool (by rw [← findI_any])))))))
set_option maxRecDepth 8000 in
theorem impl_rowOk1 (f : Fld) (r0 : Row) : FnC Try.prog 142 [A.agg (cFld f), A.pt (cRow r0)] (A.bool (!fieldOk f r0.lim)) := by
  refine Fn_of_W Try.func142 rfl rfl fun r w => ?_
  refine W_seq (W_region (ws O_boxg ⟨T1 rfl, trivial⟩ ?_))
  refine WL_ac rfl ?_
  refine WL_nil (Fin_then (W_seq (W_region (ws (O_loadgw tg37 rfl) ⟨T1 rfl, trivial⟩ ?_))))
  refine ws (O_field tf156_2) ⟨T1 rfl, trivial⟩ ?_
  refine ws (O_load ta3) ⟨T1 rfl, trivial⟩ ?_
  refine ws (O_call cf99 (impl_fieldOk _ _) rfl) ⟨T1 rfl, T1 rfl, trivial⟩ ?_
  refine ws O_not ⟨T1 rfl, trivial⟩ ?_
  refine WL_as rfl rfl ?_
  exact WL_nil (Fin_then (W_ret (RetC rfl (Res1 rfl (RV.tmp rfl (by first | exact Imp.refl | exact Imp.slv | exact Imp.nil | exact Imp.int (by omega) | exact Imp.int (by simp; done) | exact Imp.bool (by simp_all; done)))))))
set_option maxRecDepth 8000 in
theorem impl_rowOk (r0 : Row) (n : Int) : FnC Try.prog 96 [A.agg (cRow r0), A.int n] (A.bool (rowOk r0 n)) := by
  refine Fn_of_W Try.func96 rfl rfl fun r w => ?_
  refine W_seq (W_region (ws O_boxg ⟨T1 rfl, trivial⟩ ?_))
  refine WL_ac rfl ?_
  refine WL_nil (Fin_then (W_seq (W_seq (W_region (ws (O_field tf156_0) ⟨T1 rfl, trivial⟩ ?_)))))
  refine ws (O_field tf145_0) ⟨T1 rfl, trivial⟩ ?_
  refine ws (O_load ta3) ⟨T1 rfl, trivial⟩ ?_
  refine ws O_neq ⟨T1 rfl, C1, trivial⟩ ?_
  refine WL_mv rfl rfl ?_
  refine wt1 rfl rfl (fun hc => (O_field tf156_0)) ⟨tg rfl, trivial⟩ ?_
  refine wt1 rfl rfl (fun hc => (O_field tf145_0)) ⟨tg rfl, trivial⟩ ?_
  refine wt1 rfl rfl (fun hc => (O_load ta3)) ⟨tg rfl, trivial⟩ ?_
  refine wt1 rfl rfl (fun hc => O_neq) ⟨tg rfl, C1, trivial⟩ ?_
  refine ws O_and ⟨T1 rfl, tg rfl, trivial⟩ ?_
  refine WL_mv rfl rfl ?_
  refine wf1 rfl rfl (fun hc => (O_field tf156_0)) ⟨tg rfl, trivial⟩ ?_
  refine wf1 rfl rfl (fun hc => (O_field tf145_3)) ⟨tg rfl, trivial⟩ ?_
  refine wf1 rfl rfl (fun hc => (O_load ta50)) ⟨tg rfl, trivial⟩ ?_
  refine wf1 rfl rfl (fun hc => (O_len ts50)) ⟨tg rfl, trivial⟩ ?_
  refine wf1 rfl rfl (fun hc => O_gtr) ⟨tg rfl, C1, trivial⟩ ?_
  refine ws O_or ⟨T1 rfl, tg rfl, trivial⟩ ?_
  refine WL_mv rfl rfl ?_
  refine wf1 rfl rfl (fun hc => (O_field tf156_0)) ⟨tg rfl, trivial⟩ ?_
  refine wf1 rfl rfl (fun hc => (O_field tf145_0)) ⟨tg rfl, trivial⟩ ?_
  refine wf1 rfl rfl (fun hc => (O_load ta3)) ⟨tg rfl, trivial⟩ ?_
  refine wf1 rfl rfl (fun hc => O_eql) ⟨tg rfl, C1, trivial⟩ ?_
  refine wf1 rfl rfl (fun hc => O_move) ⟨tg rfl, trivial⟩ ?_
  refine wt rfl rfl (fun hc => (O_field tf156_0)) ⟨tg rfl, trivial⟩ ?_
  refine wt rfl rfl (fun hc => (O_field tf145_3)) ⟨tg rfl, trivial⟩ ?_
  refine wt rfl rfl (fun hc => (O_load ta50)) ⟨tg rfl, trivial⟩ ?_
  refine wt rfl rfl (fun hc => (O_len ts50)) ⟨tg rfl, trivial⟩ ?_
  refine wt rfl rfl (fun hc => O_neq) ⟨tg rfl, C1, trivial⟩ ?_
  refine wf1 rfl rfl (fun hc => O_and) ⟨tg rfl, tg rfl, trivial⟩ ?_
  refine ws O_or ⟨T1 rfl, tg rfl, trivial⟩ ?_
  refine WL_nil (Fin_then (W_cond rfl (fun h0 => ?_) (fun h0 => ?_)))
  · skip
    simp at h0
    refine W_seq (W_region (WL_ac rfl ?_))
    exact WL_nil (Fin_then (W_ret (Fin_then_ret (RetC rfl (Res1 rfl (RV.tmp rfl (Imp.bool (by unfold rowOk; grind))))))))
  simp at h0
  refine W_skip (Fin_then (W_seq (W_seq (W_region (ws (O_field tf156_0) ⟨T1 rfl, trivial⟩ ?_)))))
  refine ws (O_field tf145_3) ⟨T1 rfl, trivial⟩ ?_
  refine ws (O_load ta50) ⟨T1 rfl, trivial⟩ ?_
  refine ws (O_makeFunc (caps := [_]) rfl) ⟨T1 rfl, trivial⟩ ?_
  refine ws (O_call cf112 (conFuncF _ _ (fun f => !fieldOk f r0.lim) _ (fun _ _ => by kernel_rfl) (fun y _ => impl_rowOk1 y r0)) rfl) ⟨T1 rfl, T1 rfl, trivial⟩ ?_
  refine WL_nil (Fin_then (W_cond rfl (fun h1 => ?_) (fun h1 => ?_)))
  · skip
    simp at h1
    refine W_seq (W_region (WL_ac rfl ?_))
    exact WL_nil (Fin_then (W_ret (Fin_then_ret (RetC rfl (Res1 rfl (RV.tmp rfl (Imp.bool (by unfold rowOk; grind))))))))
  simp at h1
  refine W_skip (Fin_then (W_seq (W_region (ws (O_field tf156_0) ⟨T1 rfl, trivial⟩ ?_))))
  refine ws (O_field tf145_1) ⟨T1 rfl, trivial⟩ ?_
  refine ws (O_load ta3) ⟨T1 rfl, trivial⟩ ?_
  refine ws O_geq ⟨T1 rfl, C1, trivial⟩ ?_
  refine WL_mv rfl rfl ?_
  refine wt1 rfl rfl (fun hc => (O_field tf156_0)) ⟨tg rfl, trivial⟩ ?_
  refine wt1 rfl rfl (fun hc => (O_field tf145_1)) ⟨tg rfl, trivial⟩ ?_
  refine wt1 rfl rfl (fun hc => (O_load ta3)) ⟨tg rfl, trivial⟩ ?_
  refine wt1 rfl rfl (fun hc => O_move) ⟨tg rfl, trivial⟩ ?_
  refine wt1 rfl rfl (fun hc => O_lss) ⟨tg rfl, tg rfl, trivial⟩ ?_
  refine ws O_and ⟨T1 rfl, tg rfl, trivial⟩ ?_
  refine WL_as rfl rfl ?_
  exact WL_nil (Fin_then (W_ret (RetC rfl (Res1 rfl (RV.tmp rfl (Imp.bool (by unfold rowOk; grind)))))))
set_option maxRecDepth 8000 in
theorem impl_shapeOf (L : List Row) (c : List Int) (r0 : Row) (hc : CanOk c) (hr : RowIn c r0) : FnC Try.prog 143 [kP L c, A.agg (cRow r0)] (A.agg ((shapeV c r0).map A.val)) := by
  have b1 := hr.f0
  have b2 := hr.fl
  have b3 := hr.ty.1
  have b4 := hr.len
  refine Fn_of_W Try.func143 rfl rfl fun r w => ?_
  refine W_seq (W_region (ws O_boxg ⟨T1 rfl, trivial⟩ ?_))
  refine WL_alloc tz203 rfl fun b4 => ?_
  refine WL_nil (Fin_then (W_seq (W_drawA 19 mix rfl rfl ?_)))
  refine ChainA_cons (S_plain (O_field tf156_0) ⟨T1 rfl, trivial⟩ rfl rfl) ?_
  refine ChainA_cons (S_plain (O_field tf145_0) ⟨T1 rfl, trivial⟩ rfl rfl) ?_
  refine ChainA_cons (S_plain (O_load ta3) ⟨T1 rfl, trivial⟩ rfl rfl) ?_
  refine ChainA_cons (S_plain O_move ⟨T1 rfl, trivial⟩ rfl rfl) ?_
  refine ChainA_cons (S_plain (O_field tf156_0) ⟨T1 rfl, trivial⟩ rfl rfl) ?_
  refine ChainA_cons (S_plain (O_field tf145_1) ⟨T1 rfl, trivial⟩ rfl rfl) ?_
  refine ChainA_cons (S_plain (O_load ta3) ⟨T1 rfl, trivial⟩ rfl rfl) ?_
  refine ChainA_cons (S_plain (O_field tf156_1) ⟨T1 rfl, trivial⟩ rfl rfl) ?_
  refine ChainA_cons (S_plain (O_load ta3) ⟨T1 rfl, trivial⟩ rfl rfl) ?_
  refine ChainA_cons (S_plain (O_call cf172 (impl_code _ _ _ _ (by assumption) (by omega) (by omega) (by omega)) rfl) ⟨T1 rfl, T1 rfl, T1 rfl, trivial⟩ rfl rfl) ?_
  refine ChainA_cons (S_plain (O_field tf156_0) ⟨T1 rfl, trivial⟩ rfl rfl) ?_
  refine ChainA_cons (S_plain (O_field tf145_2) ⟨T1 rfl, trivial⟩ rfl rfl) ?_
  refine ChainA_cons (S_plain (O_load ta4) ⟨T1 rfl, trivial⟩ rfl rfl) ?_
  refine ChainA_cons (S_plain (O_field tf156_0) ⟨T1 rfl, trivial⟩ rfl rfl) ?_
  refine ChainA_cons (S_plain (O_field tf145_3) ⟨T1 rfl, trivial⟩ rfl rfl) ?_
  refine ChainA_cons (S_plain (O_load ta50) ⟨T1 rfl, trivial⟩ rfl rfl) ?_
  refine ChainA_cons (S_plain (O_len ts50) ⟨T1 rfl, trivial⟩ rfl rfl) ?_
  refine ChainA_cons (S_plain (O_build [(_, _), (_, _), (_, _), (_, _)] tb203 rfl ⟨(CellsOf.one OneV.int), (CellsOf.one OneV.int), (CellsOf.one OneV.bool), (CellsOf.one OneV.int), trivial⟩ rfl) ⟨T1 rfl, T1 rfl, T1 rfl, T1 rfl, trivial⟩ rfl rfl) ?_
  refine ChainA_al tz203 rfl ?_
  refine ChainA_nil ?_
  refine AlK_cons fun b5 => ?_
  refine AlK_nil ?_
  refine WL_store 0 rfl ⟨T1 rfl, T1 rfl, trivial⟩ (CellsOf.agg (by exact ⟨OneV.int, OneV.int, OneV.bool, OneV.int, OneV.int, OneV.int, OneV.bool, OneV.int, OneV.int, OneV.bool, OneV.int, OneV.int, OneV.bool, OneV.int, OneV.int, OneV.bool, trivial⟩)) sz203 (Nat.le_of_ble_eq_true rfl) ?_
  refine WL_nil (Fin_then (W_seq (W_seq (W_region (ws (O_field tf156_0) ⟨T1 rfl, trivial⟩ ?_)))))
  refine ws (O_field tf145_3) ⟨T1 rfl, trivial⟩ ?_
  refine ws (O_load ta50) ⟨T1 rfl, trivial⟩ ?_
  refine WL_len ts50 rfl rfl fun hl29 => ?_
  refine WL_mc rfl ?_
  refine WL_nil (Fin_then (W_block (W_loopp [0, 3, 4, 5, 28, 29] [0] [] [] (T := Nat) (fun k => k ≤ r0.t.fields.length) (fun k => [(30, true, A.int (k : Int))]) (fun k => { own := [(b5, 203, (shapeTo c r0 k).map A.val)], rooms := [], maps := [] }) (fun k => r0.t.fields.length - k) 0 (by omega) ⟨⟨rfl, _, rfl, (by first | exact Imp.refl | exact Imp.slv | exact Imp.nil | exact Imp.int (by omega) | exact Imp.int (by simp; done) | exact Imp.bool (by simp_all; done))⟩, trivial⟩ (.cons (AllImp.eq rfl) OSub.nil) rfl rfl rfl (fun k hx => ?_))))
  have b5 := hr.ty.of (k : Int)
  refine W_seq (W_region (ws O_lss ⟨T1 rfl, T1 rfl, trivial⟩ ?_))
  refine WL_nil (Fin_then (W_seq (W_cond rfl (fun h0 => ?_) (fun h0 => ?_))))
  · skip
    try simp only [bl] at h0
    refine W_skip (Fin_then (W_seq (W_block (W_seq (W_region (WL_mv rfl rfl ?_))))))
    refine ws (O_index ts50 (by omega)) ⟨T1 rfl, T1 rfl, trivial⟩ ?_
    refine ws (O_loadgw tg37 rfl) ⟨T1 rfl, trivial⟩ ?_
    refine WL_alloc tz37 rfl fun b7 => ?_
    refine WL_as rfl rfl ?_
    refine WL_store 0 rfl ⟨T1 rfl, T1 rfl, trivial⟩ (CellsOf.agg (by exact ⟨OneV.int, OneV.int, OneV.bool, trivial⟩)) sz37 (Nat.le_of_ble_eq_true rfl) ?_
    refine WL_nil (Fin_then (W_seq (W_seq (W_region (ws (O_fieldv tf37_0) ⟨T1 rfl, trivial⟩ ?_)))))
    refine ws (O_loado 0 ta3 rfl rfl) ⟨T1 rfl, trivial⟩ ?_
    refine ws O_neq ⟨T1 rfl, C1, trivial⟩ ?_
    refine WL_nil (Fin_then (W_cond rfl (fun h1 => ?_) (fun h1 => ?_)))
    · skip
      try simp only [bl] at h1
      refine W_region (WL_mv rfl rfl ?_)
      refine ws (O_fieldv tf37_1) ⟨T1 rfl, trivial⟩ ?_
      refine ws (O_loado 0 ta3 rfl rfl) ⟨T1 rfl, trivial⟩ ?_
      refine ws (O_field tf156_1) ⟨T1 rfl, trivial⟩ ?_
      refine ws (O_load ta3) ⟨T1 rfl, trivial⟩ ?_
      refine ws (O_call cf172 (impl_code _ _ _ _ (by assumption) (by omega) (by omega) (by omega)) rfl) ⟨T1 rfl, T1 rfl, T1 rfl, trivial⟩ ?_
      refine ws (O_fieldv tf37_1) ⟨T1 rfl, trivial⟩ ?_
      refine WL_store 0 rfl ⟨T1 rfl, T1 rfl, trivial⟩ (CellsOf.one OneV.int) sz3 (Nat.le_of_ble_eq_true rfl) ?_
      refine WL_nil (Fin_then (W_region (WL_mv rfl rfl ?_)))
      refine ws (O_loadog 0 tg37 rfl (Nat.le_of_ble_eq_true rfl)) ⟨T1 rfl, trivial⟩ ?_
      refine ws (O_fieldv tf203_4) ⟨T1 rfl, trivial⟩ ?_
      refine ws (O_indexarro tar201 (by omega)) ⟨T1 rfl, T1 rfl, trivial⟩ ?_
      refine WL_store 1 rfl ⟨T1 rfl, T1 rfl, trivial⟩ (CellsOf.agg (by exact ⟨OneV.int, OneV.int, OneV.bool, trivial⟩)) sz37 (by simp [shapeTo_len (c := c) hx hr.len, over]; try omega) ?_
      refine WL_nil (Fin_block (Fin_then (W_region (ws (O_add (by omega)) ⟨T1 rfl, C1, trivial⟩ ?_))))
      refine WL_mv rfl rfl ?_
      exact WL_nil (Fin_backp [1, 2] (k + 1) (by omega) (by omega) ⟨⟨rfl, _, rfl, (by first | exact Imp.refl | exact Imp.slv | exact Imp.nil | exact Imp.int (by omega) | exact Imp.int (by simp; done) | exact Imp.bool (by simp_all; done))⟩, trivial⟩ ⟨rfl, rfl, rfl, rfl, rfl, rfl, trivial⟩ (.cons (AllImp.eq (shape_stepA (by omega) (by omega) (by simp [fldV, codeFld, over, cFld, h1]))) (.cons AllImp.refl OSub.nil)) rfl (List.Sublist.refl _) rfl)
    try simp only [bl] at h1
    refine W_skip (Fin_then (W_region (WL_mv rfl rfl ?_)))
    refine ws (O_loadog 0 tg37 rfl (Nat.le_of_ble_eq_true rfl)) ⟨T1 rfl, trivial⟩ ?_
    refine ws (O_fieldv tf203_4) ⟨T1 rfl, trivial⟩ ?_
    refine ws (O_indexarro tar201 (by omega)) ⟨T1 rfl, T1 rfl, trivial⟩ ?_
    refine WL_store 1 rfl ⟨T1 rfl, T1 rfl, trivial⟩ (CellsOf.agg (by exact ⟨OneV.int, OneV.int, OneV.bool, trivial⟩)) sz37 (by simp [shapeTo_len (c := c) hx hr.len, over]; try omega) ?_
    refine WL_nil (Fin_block (Fin_then (W_region (ws (O_add (by omega)) ⟨T1 rfl, C1, trivial⟩ ?_))))
    refine WL_mv rfl rfl ?_
    exact WL_nil (Fin_backp [1, 2] (k + 1) (by omega) (by omega) ⟨⟨rfl, _, rfl, (by first | exact Imp.refl | exact Imp.slv | exact Imp.nil | exact Imp.int (by omega) | exact Imp.int (by simp; done) | exact Imp.bool (by simp_all; done))⟩, trivial⟩ ⟨rfl, rfl, rfl, rfl, rfl, rfl, trivial⟩ (.cons (AllImp.eq (shape_stepA (by omega) (by omega) (by simp [fldV, codeFld, over, cFld, h1]))) (.cons AllImp.refl OSub.nil)) rfl (List.Sublist.refl _) rfl)
  try simp only [bl] at h0
  refine W_exit (Fin_then_exit (Fin_then_exit (Fin_block_exit (Fin_then (W_seq (W_region (ws (OpN.post (O_loadog 0 tg203 rfl (by simp [shapeTo_len (c := c) hx hr.len, over]; try omega)) (Imp.agg (l := (shapeV c r0).map A.val) (AllImp.eq (by rw [show k = r0.t.fields.length from by omega, List.drop_zero, List.take_of_length_le (by rw [List.length_map]; exact Nat.le_of_eq (shapeV_len hr.len))]; rfl)))) ⟨T1 rfl, trivial⟩ ?_)))))))
  refine WL_store 1 rfl ⟨T1 rfl, T1 rfl, trivial⟩ (CellsOf.agg AllOne.shape) (by rw [List.length_map, shapeV_len hr.len]; exact sz203) (by rw [List.length_map, shapeV_len hr.len]; exact Nat.le_of_ble_eq_true rfl) ?_
  exact WL_nil (Fin_then (W_ret (RetC rfl (Res1 rfl (RV.cellg 1 rfl tg203 rfl (by rw [over_all (by rw [List.length_map, List.length_map, shapeV_len hr.len]; rfl), List.length_map, shapeV_len hr.len]) (Imp.agg (AllImp.eq (by rw [over_all (by rw [List.length_map, List.length_map, shapeV_len hr.len]; rfl)]))))))))
end Go.Proofs.Ytfjggobjijeniaa
