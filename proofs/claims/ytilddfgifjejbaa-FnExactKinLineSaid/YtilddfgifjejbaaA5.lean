import Derived.Test.YtilddfgifjejbaaRows
import Derived.Test.YtilddfgifjejbaaDrawA
import Derived.Test.YtilddfgifjejbaaPure1
import Derived.Test.YtilddfgifjejbaaPure2
import Derived.Test.YtilddfgifjejbaaA1
namespace Go.Proofs.Ytilddfgifjejbaa.A5
open Go Go.RowKit Go.L
theorem mix : Try.prog.follows .mixedOrders = true := by kernel_rfl
theorem cf64 : CallF Try.prog 64 := fun w vs => by kernel_rfl
theorem cf78 : CallF Try.prog 78 := fun w vs => by kernel_rfl
theorem cf79 : CallF Try.prog 79 := fun w vs => by kernel_rfl
theorem cf92 : CallF Try.prog 92 := fun w vs => by kernel_rfl
theorem cf93 : CallF Try.prog 93 := fun w vs => by kernel_rfl
theorem sz104 : sizeAt Try.prog 104 = some 16 := by kernel_rfl
theorem sz29 : sizeAt Try.prog 29 = some 4 := by kernel_rfl
theorem sz3 : sizeAt Try.prog 3 = some 1 := by kernel_rfl
theorem sz33 : sizeAt Try.prog 33 = some 3 := by kernel_rfl
theorem ta27 : TA Try.prog 27 := by unfold TA; kernel_rfl
theorem ta3 : TA Try.prog 3 := by unfold TA; kernel_rfl
theorem ta38 : TA Try.prog 38 := by unfold TA; kernel_rfl
theorem ta4 : TA Try.prog 4 := by unfold TA; kernel_rfl
theorem ta42 : TA Try.prog 42 := by unfold TA; kernel_rfl
theorem ta59 : TA Try.prog 59 := by unfold TA; kernel_rfl
theorem tar102 : TAr Try.prog 102 4 33 3 := ⟨by kernel_rfl, by kernel_rfl⟩
theorem tb104 : TB Try.prog 104 [.int .i64 0, .int .i64 0, .bool false, .int .i64 0, .int .i64 0, .int .i64 0, .bool false, .int .i64 0, .int .i64 0, .bool false, .int .i64 0, .int .i64 0, .bool false, .int .i64 0, .int .i64 0, .bool false] [(0, 1), (1, 1), (2, 1), (3, 1), (4, 12)] := ⟨by kernel_rfl, by kernel_rfl⟩
theorem tb62 : TB Try.prog 62 [.int .i64 0, .int .i64 0, .bool false, .slice none 0 0, .int .i64 0, .int .i64 0] [(0, 4), (4, 1), (5, 1)] := ⟨by kernel_rfl, by kernel_rfl⟩
theorem tez59 : TEZ Try.prog 59 62 6 64 [.int .i64 0, .int .i64 0, .bool false, .slice none 0 0, .int .i64 0, .int .i64 0] := ⟨by kernel_rfl, by kernel_rfl⟩
theorem te59 : TE Try.prog 59 62 6 64 := tez59.te rfl
theorem tf104_4 : TF Try.prog 104 4 4 := by unfold TF; kernel_rfl
theorem tf29_0 : TF Try.prog 29 0 0 := by unfold TF; kernel_rfl
theorem tf29_1 : TF Try.prog 29 1 1 := by unfold TF; kernel_rfl
theorem tf29_2 : TF Try.prog 29 2 2 := by unfold TF; kernel_rfl
theorem tf29_3 : TF Try.prog 29 3 3 := by unfold TF; kernel_rfl
theorem tf33_0 : TF Try.prog 33 0 0 := by unfold TF; kernel_rfl
theorem tf33_1 : TF Try.prog 33 1 1 := by unfold TF; kernel_rfl
theorem tf62_0 : TF Try.prog 62 0 0 := by unfold TF; kernel_rfl
theorem tf62_1 : TF Try.prog 62 1 4 := by unfold TF; kernel_rfl
theorem tf62_2 : TF Try.prog 62 2 5 := by unfold TF; kernel_rfl
theorem tf66_0 : TF Try.prog 66 0 0 := by unfold TF; kernel_rfl
theorem tf66_1 : TF Try.prog 66 1 1 := by unfold TF; kernel_rfl
theorem tg104 : TG Try.prog 104 16 := ⟨by kernel_rfl, by kernel_rfl⟩
theorem tg29 : TG Try.prog 29 4 := ⟨by kernel_rfl, by kernel_rfl⟩
theorem tg33 : TG Try.prog 33 3 := ⟨by kernel_rfl, by kernel_rfl⟩
theorem ts23 : TS Try.prog 23 38 1 := ⟨by kernel_rfl, by kernel_rfl⟩
theorem ts27 : TS Try.prog 27 33 3 := ⟨by kernel_rfl, by kernel_rfl⟩
theorem ts38 : TS Try.prog 38 29 4 := ⟨by kernel_rfl, by kernel_rfl⟩
theorem ts42 : TS Try.prog 42 3 1 := ⟨by kernel_rfl, by kernel_rfl⟩
theorem ts59 : TS Try.prog 59 62 6 := ⟨by kernel_rfl, by kernel_rfl⟩
theorem tz104 : TZ Try.prog 104 [.int .i64 0, .int .i64 0, .bool false, .int .i64 0, .int .i64 0, .int .i64 0, .bool false, .int .i64 0, .int .i64 0, .bool false, .int .i64 0, .int .i64 0, .bool false, .int .i64 0, .int .i64 0, .bool false] := by unfold TZ; kernel_rfl
theorem tz29 : TZ Try.prog 29 [.int .i64 0, .int .i64 0, .bool false, .slice none 0 0] := by unfold TZ; kernel_rfl
theorem tz33 : TZ Try.prog 33 [.int .i64 0, .int .i64 0, .bool false] := by unfold TZ; kernel_rfl
end Go.Proofs.Ytilddfgifjejbaa.A5
namespace Go.Proofs.Ytilddfgifjejbaa
open Go Go.RowKit Go.L A5
set_option maxRecDepth 8000 in
theorem impl_flatten (G : Kin) (hG : Small G) : FnC Try.prog 40 [A.sl 1 cGrp G] (A.sl 6 cRow (krows G)) := by
  have b3 := hG.len
  have b4 := hG.flat
  refine Fn_of_W Try.func40 rfl rfl fun r w => ?_
  refine W_seq ?_
  refine W_region ?_  -- R0 l1_kin.go:60
  refine WL_ac rfl ?_
  refine WL_nil ?_
  refine Fin_then ?_
  refine W_seq ?_
  refine W_region ?_  -- R1 l1_kin.go:61
  refine WL_ac rfl ?_
  refine WL_roomNil 3 62 6 cRow rfl ?_
  refine WL_nil ?_
  refine Fin_then ?_
  refine W_seq ?_
  refine W_seq ?_
  refine W_region ?_  -- R2 l1_kin.go:62
  refine WL_mv rfl rfl ?_
  refine WL_len ts23 rfl rfl fun hl10 => ?_
  refine WL_mc rfl ?_
  refine WL_nil ?_
  refine Fin_then ?_
  refine W_block ?_
  refine W_loopp [9, 10] [] [0] [] (T := Nat × Value) (fun x => x.1 ≤ G.length) (fun x => [(3, true, A.slv x.2 6 cRow (krows (G.take x.1))), (11, true, A.int (x.1 : Int))]) (fun x => { own := [], rooms := [(x.2, 62, 6)], maps := [] }) (fun x => G.length - x.1) (0, .slice none 0 0) (by omega) ⟨⟨rfl, _, rfl, (by first | exact Imp.refl | exact Imp.slv | exact Imp.nil | exact Imp.int (by omega) | exact Imp.int (by simp; done) | exact Imp.bool (by simp_all; done))⟩, ⟨rfl, _, rfl, (by first | exact Imp.refl | exact Imp.slv | exact Imp.nil | exact Imp.int (by omega) | exact Imp.int (by simp; done) | exact Imp.bool (by simp_all; done))⟩, trivial⟩ OSub.nil rfl rfl rfl (fun x hx => ?_)
  have b5 := hG.idx (x.1 : Int)
  have b6 : (krows (G.take x.1)).length ≤ G.flatten.length := by rw [krows_len]; exact Int.ofNat_le.1 (kcnt_take_le G x.1)
  refine W_seq ?_
  refine W_region ?_  -- R3 l1_kin.go:62
  refine WL_step (S_plain O_lss ⟨T1 rfl, T1 rfl, trivial⟩ rfl rfl) ?_
  refine WL_nil ?_
  refine Fin_then ?_
  refine W_seq ?_
  refine W_cond rfl (fun h0 => ?_) (fun h0 => ?_)
  · skip
    try simp only [bl] at h0
    refine W_skip ?_
    refine Fin_then ?_
    refine W_seq ?_
    refine W_block ?_
    refine W_seq ?_
    refine W_region ?_  -- R4 l1_kin.go:62
    refine WL_step (S_plain (O_index ts23 (by omega)) ⟨T1 rfl, T1 rfl, trivial⟩ rfl rfl) ?_
    refine WL_step (S_plain (O_load ta38) ⟨T1 rfl, trivial⟩ rfl rfl) ?_
    refine WL_as rfl rfl ?_
    refine WL_nil ?_
    refine Fin_then ?_
    refine W_seq ?_
    refine W_region ?_  -- R5 l1_kin.go:63
    refine WL_mv rfl rfl ?_
    refine WL_lenr ts59 rfl rfl fun hl16 => ?_
    refine WL_as rfl rfl ?_
    refine WL_nil ?_
    refine Fin_then ?_
    refine W_seq ?_
    refine W_region ?_  -- R6 l1_kin.go:64
    refine WL_mv rfl rfl ?_
    refine WL_len ts38 rfl rfl fun hl18 => ?_
    refine WL_mc rfl ?_
    refine WL_nil ?_
    refine Fin_then ?_
    refine W_block ?_
    refine W_loopp [5, 6, 9, 10, 11, 17, 18] [] [0] [] (T := Nat × Value) (fun y => y.1 ≤ (idx G (x.1 : Int)).length) (fun y => [(3, true, A.slv y.2 6 cRow (krows (G.take x.1) ++ (grows ((krows (G.take x.1)).length : Int) (idx G (x.1 : Int))).take y.1)), (19, true, A.int (y.1 : Int))]) (fun y => { own := [], rooms := [(y.2, 62, 6)], maps := [] }) (fun y => (idx G (x.1 : Int)).length - y.1) (0, x.2) (by omega) ⟨⟨rfl, _, rfl, (Imp.eq (by simp))⟩, ⟨rfl, _, rfl, (by first | exact Imp.refl | exact Imp.slv | exact Imp.nil | exact Imp.int (by omega) | exact Imp.int (by simp; done) | exact Imp.bool (by simp_all; done))⟩, trivial⟩ OSub.nil rfl rfl rfl (fun y hx => ?_)
    have b7 := flat_idx G x.1 y.1 (by omega) (by assumption)
    have b8 : (krows (G.take x.1) ++ (grows ((krows (G.take x.1)).length : Int) (idx G (x.1 : Int))).take y.1).length ≤ G.flatten.length := by rw [List.length_append, krows_len, List.length_take, grows_len]; rw [List.length_append, List.length_take] at b7; omega
    refine W_seq ?_
    refine W_region ?_  -- R7 l1_kin.go:64
    refine WL_step (S_plain O_lss ⟨T1 rfl, T1 rfl, trivial⟩ rfl rfl) ?_
    refine WL_nil ?_
    refine Fin_then ?_
    refine W_seq ?_
    refine W_cond rfl (fun h1 => ?_) (fun h1 => ?_)
    · skip
      try simp only [bl] at h1
      refine W_skip ?_
      refine Fin_then ?_
      refine W_seq ?_
      refine W_block ?_
      refine W_seq ?_
      refine W_region ?_  -- R8 l1_kin.go:64
      refine WL_step (S_plain (O_index ts38 (by omega)) ⟨T1 rfl, T1 rfl, trivial⟩ rfl rfl) ?_
      refine WL_step (S_plain (O_loadgw tg29 rfl) ⟨T1 rfl, trivial⟩ rfl rfl) ?_
      refine WL_alloc tz29 rfl fun b8 => ?_
      refine WL_store 0 rfl ⟨T1 rfl, T1 rfl, trivial⟩ (CellsOf.agg (by exact ⟨OneV.int, OneV.int, OneV.bool, OneV.sl, trivial⟩)) sz29 (Nat.le_of_ble_eq_true rfl) ?_
      refine WL_nil ?_
      refine Fin_then ?_
      refine W_region ?_  -- R9 l1_kin.go:65
      refine WL_mv rfl rfl ?_
      refine WL_step (S_plain (O_loadog 0 tg29 rfl (Nat.le_of_ble_eq_true rfl)) ⟨T1 rfl, trivial⟩ rfl rfl) ?_
      refine WL_mv rfl rfl ?_
      refine WL_mv rfl rfl ?_
      refine WL_mv rfl rfl ?_
      refine WL_len ts38 rfl rfl fun hl28 => ?_
      refine WL_step (S_plain (O_add (by omega)) ⟨T1 rfl, T1 rfl, trivial⟩ rfl rfl) ?_
      refine WL_step (S_plain (O_build [(_, _), (_, _), (_, _)] tb62 rfl ⟨(CellsOf.agg (by exact ⟨OneV.int, OneV.int, OneV.bool, OneV.sl, trivial⟩)), (CellsOf.one OneV.int), (CellsOf.one OneV.int), trivial⟩ rfl) ⟨T1 rfl, T1 rfl, T1 rfl, trivial⟩ rfl rfl) ?_
      refine WL_step (S_plain (O_slice1 (f := cRow) ⟨idx (idx G (x.1 : Int)) (y.1 : Int), _, _⟩ te59 rfl rfl (CellsOf.agg (by exact ⟨OneV.int, OneV.int, OneV.bool, OneV.sl, OneV.int, OneV.int, trivial⟩)) (by exact ⟨Imp.refl, Imp.refl, Imp.refl, Imp.refl, Imp.refl, Imp.refl, trivial⟩)) ⟨T1 rfl, trivial⟩ rfl rfl) ?_
      refine WL_append 0 _ te59 ⟨T1 rfl, T1 rfl, trivial⟩ rfl (by decide) (fun _ => rfl) (fun _ => rfl) (fun _ => ⟨OneV.int, OneV.int, OneV.bool, OneV.sl, OneV.int, OneV.int, trivial⟩) rfl (by try simp only [List.length_cons, List.length_nil]; (first | done | omega)) (by simp only [maxLen, List.length_cons, List.length_nil]; omega) rfl fun v32 => ?_
      refine WL_as rfl rfl ?_
      refine WL_nil ?_
      refine Fin_block ?_
      refine Fin_then ?_
      refine W_region ?_  -- R10 l1_kin.go:64
      refine WL_step (S_plain (O_add (by omega)) ⟨T1 rfl, C1, trivial⟩ rfl rfl) ?_
      refine WL_mv rfl rfl ?_
      refine WL_nil ?_
      exact Fin_backp [] (y.1 + 1, v32) (by omega) (by omega) ⟨⟨rfl, _, rfl, (Imp.eq (by rw [take_snoc (by rw [grows_len]; omega : y.1 < (grows _ _).length), idx_grows (by omega), List.append_assoc]))⟩, ⟨rfl, _, rfl, (by first | exact Imp.refl | exact Imp.slv | exact Imp.nil | exact Imp.int (by omega) | exact Imp.int (by simp; done) | exact Imp.bool (by simp_all; done))⟩, trivial⟩ ⟨rfl, rfl, rfl, rfl, rfl, rfl, rfl, trivial⟩ OSub.nil rfl (List.Sublist.refl _) rfl
    · skip
      try simp only [bl] at h1
      refine W_exit ?_
      refine Fin_then_exit ?_
      refine Fin_then_exit ?_
      refine Fin_block_exit ?_
      refine Fin_block ?_
      refine Fin_then ?_
      refine W_region ?_  -- R11 l1_kin.go:62
      refine WL_step (S_plain (O_add (by omega)) ⟨T1 rfl, C1, trivial⟩ rfl rfl) ?_
      refine WL_mv rfl rfl ?_
      refine WL_nil ?_
      exact Fin_backp [] (x.1 + 1, y.2) (by omega) (by omega) ⟨⟨rfl, _, rfl, (Imp.eq (by rw [krows_step _ _ (by omega), krows_cnt, List.take_of_length_le (l := grows _ _) (by rw [grows_len]; omega)]))⟩, ⟨rfl, _, rfl, (by first | exact Imp.refl | exact Imp.slv | exact Imp.nil | exact Imp.int (by omega) | exact Imp.int (by simp; done) | exact Imp.bool (by simp_all; done))⟩, trivial⟩ ⟨rfl, rfl, trivial⟩ OSub.nil rfl (List.Sublist.refl _) rfl
  · skip
    try simp only [bl] at h0
    refine W_exit ?_
    refine Fin_then_exit ?_
    refine Fin_then_exit ?_
    refine Fin_block_exit ?_
    refine Fin_then ?_
    refine W_seq ?_
    refine W_region ?_  -- R12 l1_kin.go:68
    refine WL_mv rfl rfl ?_
    refine WL_as rfl rfl ?_
    refine WL_nil ?_
    refine Fin_then ?_
    refine W_ret ?_
    exact RetC rfl (Res1 rfl (RV.tmp rfl (Imp.trans Imp.slv (Imp.eq (by rw [show x.1 = G.length from by omega, List.take_length])))))
set_option maxRecDepth 8000 in
theorem impl_code (L : List Row) (c : List Int) (n b : Int) (hc : CanOk c) (hb : 0 ≤ b) (hl : b ≤ c.length) (hn : n ≤ 9223372036854775807) : FnC Try.prog 93 [kP L c, A.int n, A.int b] (A.int (codeF c b n)) := by
  refine Fn_of_W Try.func93 rfl rfl fun r w => ?_
  refine W_seq ?_
  refine W_region ?_  -- R0 l1_kin.go:116
  refine WL_ac rfl ?_
  refine WL_nil ?_
  refine Fin_then ?_
  refine W_seq ?_
  refine W_block ?_
  refine W_seq ?_
  refine W_region ?_  -- R1 l1_kin.go:118
  refine WL_mv rfl rfl ?_
  refine WL_step (S_plain O_lss ⟨T1 rfl, C1, trivial⟩ rfl rfl) ?_
  refine WL_as rfl rfl ?_
  refine WL_nil ?_
  refine Fin_then ?_
  refine W_cond rfl (fun h0 => ?_) (fun h0 => ?_)
  · skip
    try simp only [bl] at h0
    refine W_seq ?_
    refine W_region ?_  -- R2 l1_kin.go:119
    refine WL_mv rfl rfl ?_
    refine WL_as rfl rfl ?_
    refine WL_nil ?_
    refine Fin_then ?_
    refine W_ret ?_
    refine Fin_block_ret ?_
    refine Fin_then_ret ?_
    exact RetC rfl (Res1 rfl (RV.tmp rfl (Imp.int (by unfold codeF; grind))))
  · skip
    try simp only [bl] at h0
    refine W_seq ?_
    refine W_region ?_  -- R3 l1_kin.go:120
    refine WL_mv rfl rfl ?_
    refine WL_mv rfl rfl ?_
    refine WL_step (S_plain O_geq ⟨T1 rfl, T1 rfl, trivial⟩ rfl rfl) ?_
    refine WL_as rfl rfl ?_
    refine WL_nil ?_
    refine Fin_then ?_
    refine W_cond rfl (fun h1 => ?_) (fun h1 => ?_)
    · skip
      try simp only [bl] at h1
      refine W_seq ?_
      refine W_region ?_  -- R4 l1_kin.go:121
      refine WL_mv rfl rfl ?_
      refine WL_mv rfl rfl ?_
      refine WL_step (S_plain (O_sub (by omega)) ⟨T1 rfl, T1 rfl, trivial⟩ rfl rfl) ?_
      refine WL_as rfl rfl ?_
      refine WL_nil ?_
      refine Fin_then ?_
      refine W_ret ?_
      refine Fin_block_ret ?_
      refine Fin_then_ret ?_
      exact RetC rfl (Res1 rfl (RV.tmp rfl (Imp.int (by unfold codeF; grind))))
    · skip
      try simp only [bl] at h1
      have h8 := hc _ (idx_mem (by omega) (by omega : n < c.length))
      refine W_skip ?_
      refine Fin_block ?_
      refine Fin_then ?_
      refine W_seq ?_
      refine W_region ?_  -- R5 l1_kin.go:123
      refine WL_mv rfl rfl ?_
      refine WL_step (S_plain O_nilCheck ⟨T1 rfl, trivial⟩ rfl rfl) ?_
      refine WL_step (S_plain (O_field tf66_1) ⟨T1 rfl, trivial⟩ rfl rfl) ?_
      refine WL_step (S_plain (O_load ta42) ⟨T1 rfl, trivial⟩ rfl rfl) ?_
      refine WL_mv rfl rfl ?_
      refine WL_step (S_plain (O_index ts42 (by omega)) ⟨T1 rfl, T1 rfl, trivial⟩ rfl rfl) ?_
      refine WL_step (S_plain (O_load ta3) ⟨T1 rfl, trivial⟩ rfl rfl) ?_
      refine WL_step (S_plain (O_add (by omega)) ⟨C1, T1 rfl, trivial⟩ rfl rfl) ?_
      refine WL_as rfl rfl ?_
      refine WL_nil ?_
      refine Fin_then ?_
      refine W_ret ?_
      exact RetC rfl (Res1 rfl (RV.tmp rfl (Imp.int (by unfold codeF; grind))))
set_option maxRecDepth 8000 in
theorem impl_isType (L : List Row) (c : List Int) (n : Int) : FnC Try.prog 42 [kP L c, A.int n] (A.bool (decide (0 ≤ n) && decide (n < L.length))) := by
  refine Fn_of_W Try.func42 rfl rfl fun r w => ?_
  refine W_seq ?_
  refine W_region ?_  -- R0 l1_kin.go:175
  refine WL_ac rfl ?_
  refine WL_nil ?_
  refine Fin_then ?_
  refine W_seq ?_
  refine W_region ?_  -- R1 l1_kin.go:175
  refine WL_mv rfl rfl ?_
  refine WL_step (S_plain O_geq ⟨T1 rfl, C1, trivial⟩ rfl rfl) ?_
  refine WL_mv rfl rfl ?_
  refine WL_step (S_t1 rfl rfl (fun hc => O_move) ⟨⟨_, rfl, (by first | exact fun _ _ => rfl | exact fun h _ => h | exact fun _ h => h | exact fun h k => band h k | exact fun h _ => bandl h | exact fun h _ => bandr h)⟩, trivial⟩ rfl rfl rfl) ?_
  refine WL_step (S_t1 rfl rfl (fun hc => O_move) ⟨⟨_, rfl, (by first | exact fun _ _ => rfl | exact fun h _ => h | exact fun _ h => h | exact fun h k => band h k | exact fun h _ => bandl h | exact fun h _ => bandr h)⟩, trivial⟩ rfl rfl rfl) ?_
  refine WL_step (S_t1 rfl rfl (fun hc => O_nilCheck) ⟨⟨_, rfl, (by first | exact fun _ _ => rfl | exact fun h _ => h | exact fun _ h => h | exact fun h k => band h k | exact fun h _ => bandl h | exact fun h _ => bandr h)⟩, trivial⟩ rfl rfl rfl) ?_
  refine WL_step (S_t1 rfl rfl (fun hc => (O_field tf66_0)) ⟨⟨_, rfl, (by first | exact fun _ _ => rfl | exact fun h _ => h | exact fun _ h => h | exact fun h k => band h k | exact fun h _ => bandl h | exact fun h _ => bandr h)⟩, trivial⟩ rfl rfl rfl) ?_
  refine WL_step (S_t1 rfl rfl (fun hc => (O_load ta59)) ⟨⟨_, rfl, (by first | exact fun _ _ => rfl | exact fun h _ => h | exact fun _ h => h | exact fun h k => band h k | exact fun h _ => bandl h | exact fun h _ => bandr h)⟩, trivial⟩ rfl rfl rfl) ?_
  refine WL_step (S_t1 rfl rfl (fun hc => (O_len ts59)) ⟨⟨_, rfl, (by first | exact fun _ _ => rfl | exact fun h _ => h | exact fun _ h => h | exact fun h k => band h k | exact fun h _ => bandl h | exact fun h _ => bandr h)⟩, trivial⟩ rfl rfl rfl) ?_
  refine WL_step (S_t1 rfl rfl (fun hc => O_lss) ⟨⟨_, rfl, (by first | exact fun _ _ => rfl | exact fun h _ => h | exact fun _ h => h | exact fun h k => band h k | exact fun h _ => bandl h | exact fun h _ => bandr h)⟩, ⟨_, rfl, (by first | exact fun _ _ => rfl | exact fun h _ => h | exact fun _ h => h | exact fun h k => band h k | exact fun h _ => bandl h | exact fun h _ => bandr h)⟩, trivial⟩ rfl rfl rfl) ?_
  refine WL_step (S_plain O_and ⟨T1 rfl, ⟨_, rfl, (by first | exact fun _ _ => rfl | exact fun h _ => h | exact fun _ h => h | exact fun h k => band h k | exact fun h _ => bandl h | exact fun h _ => bandr h)⟩, trivial⟩ rfl rfl) ?_
  refine WL_as rfl rfl ?_
  refine WL_nil ?_
  refine Fin_then ?_
  refine W_ret ?_
  exact RetC rfl (Res1 rfl (RV.tmp rfl (by first | exact Imp.refl | exact Imp.slv | exact Imp.nil | exact Imp.int (by omega) | exact Imp.int (by simp; done) | exact Imp.bool (by simp_all; done))))
set_option maxRecDepth 8000 in
theorem impl_readKin1 (g : List Ty) : FnC Try.prog 59 [A.sl 4 cTy g] (A.bool (decide (g = []))) := by
  refine Fn_of_W Try.func59 rfl rfl fun r w => ?_
  refine W_seq ?_
  refine W_region ?_  -- R0 l1_kin.go:94
  refine WL_ac rfl ?_
  refine WL_nil ?_
  refine Fin_then ?_
  refine W_seq ?_
  refine W_region ?_  -- R1 l1_kin.go:94
  refine WL_mv rfl rfl ?_
  refine WL_len ts38 rfl rfl fun hl4 => ?_
  refine WL_step (S_plain O_eql ⟨T1 rfl, C1, trivial⟩ rfl rfl) ?_
  refine WL_as rfl rfl ?_
  refine WL_nil ?_
  refine Fin_then ?_
  refine W_ret ?_
  exact RetC rfl (Res1 rfl (RV.tmp rfl (Imp.bool (by cases g <;> simp; omega))))
set_option maxRecDepth 8000 in
theorem idxFuncG (f : FuncId) (caps : List A) (p : List Ty → Bool) (L : List (List Ty)) (hf : CallF Try.prog f) (hp : ∀ y ∈ L, FnC Try.prog f ([A.sl 4 cTy y] ++ caps) (A.bool (p y))) : FnC Try.prog 78 [A.sl 1 cGrp L, A.cl f caps] (A.int (findI p L)) := by
  refine Fn_of_W Try.func78 rfl rfl fun r w => ?_
  refine W_seq ?_
  refine W_region ?_  -- R0 slices.go:107
  refine WL_ac rfl ?_
  refine WL_nil ?_
  refine Fin_then ?_
  refine W_seq ?_
  refine W_seq ?_
  refine W_region ?_  -- R1 slices.go:108
  refine WL_mv rfl rfl ?_
  refine WL_len ts23 rfl rfl fun hl7 => ?_
  refine WL_mc rfl ?_
  refine WL_nil ?_
  refine Fin_then ?_
  refine W_block ?_
  refine W_loopk [0, 1, 7] (T := Nat) (fun k => k ≤ L.length ∧ ∀ j : Nat, j < k → p (idx L (j : Int)) = false) (fun k => [(8, true, A.int (k : Int))]) (fun k => L.length - k) 0 ⟨Nat.zero_le _, fun j h => by omega⟩ ⟨⟨rfl, _, rfl, (by first | exact Imp.refl | exact Imp.slv | exact Imp.nil | exact Imp.int (by omega) | exact Imp.int (by simp; done) | exact Imp.bool (by simp_all; done))⟩, trivial⟩ (fun k hx => ?_)
  have hk := hx.1
  refine W_seq ?_
  refine W_region ?_  -- R2 slices.go:108
  refine WL_step (S_plain O_lss ⟨T1 rfl, T1 rfl, trivial⟩ rfl rfl) ?_
  refine WL_nil ?_
  refine Fin_then ?_
  refine W_seq ?_
  refine W_cond rfl (fun h0 => ?_) (fun h0 => ?_)
  · skip
    try simp only [bl] at h0
    refine W_skip ?_
    refine Fin_then ?_
    refine W_seq ?_
    refine W_block ?_
    refine W_seq ?_
    refine W_region ?_  -- R3 slices.go:108
    refine WL_mv rfl rfl ?_
    refine WL_as rfl rfl ?_
    refine WL_nil ?_
    refine Fin_then ?_
    refine W_seq ?_
    refine W_region ?_  -- R4 slices.go:109
    refine WL_mv rfl rfl ?_
    refine WL_mv rfl rfl ?_
    refine WL_mv rfl rfl ?_
    refine WL_step (S_plain (O_index ts23 (by omega)) ⟨T1 rfl, T1 rfl, trivial⟩ rfl rfl) ?_
    refine WL_step (S_plain (O_load ta38) ⟨T1 rfl, trivial⟩ rfl rfl) ?_
    refine WL_step (S_plain (O_callcl hf (hp _ (idx_mem (by omega) (by omega))) rfl) ⟨T1 rfl, T1 rfl, trivial⟩ rfl rfl) ?_
    refine WL_nil ?_
    refine Fin_then ?_
    refine W_cond rfl (fun h1 => ?_) (fun h1 => ?_)
    · skip
      try simp only [bl] at h1
      refine W_seq ?_
      refine W_region ?_  -- R5 slices.go:110
      refine WL_mv rfl rfl ?_
      refine WL_as rfl rfl ?_
      refine WL_nil ?_
      refine Fin_then ?_
      refine W_ret ?_
      refine Fin_block_ret ?_
      refine Fin_then_ret ?_
      refine Fin_then_ret ?_
      refine Fin_block_ret ?_
      refine Fin_then_ret ?_
      exact RetC rfl (Res1 rfl (RV.tmp rfl (Imp.int (findI_some (by omega) (by simpa using h1) hx.2).symm)))
    · skip
      try simp only [bl] at h1
      refine W_skip ?_
      refine Fin_block ?_
      refine Fin_then ?_
      refine W_region ?_  -- R6 slices.go:108
      refine WL_step (S_plain (O_add (by omega)) ⟨T1 rfl, C1, trivial⟩ rfl rfl) ?_
      refine WL_mv rfl rfl ?_
      refine WL_nil ?_
      exact Fin_back (k + 1) ⟨by omega, fun j hj => by rcases Nat.lt_or_ge j k with q | q; exact hx.2 j q; rw [show j = k from by omega]; simpa using h1⟩ (by omega) ⟨⟨rfl, _, rfl, (by first | exact Imp.refl | exact Imp.slv | exact Imp.nil | exact Imp.int (by omega) | exact Imp.int (by simp; done) | exact Imp.bool (by simp_all; done))⟩, trivial⟩ ⟨rfl, rfl, rfl, trivial⟩ rfl rfl
  · skip
    try simp only [bl] at h0
    refine W_exit ?_
    refine Fin_then_exit ?_
    refine Fin_then_exit ?_
    refine Fin_block_exit ?_
    refine Fin_then ?_
    refine W_seq ?_
    refine W_region ?_  -- R7 slices.go:113
    refine WL_ac rfl ?_
    refine WL_nil ?_
    refine Fin_then ?_
    refine W_ret ?_
    exact RetC rfl (Res1 rfl (RV.tmp rfl (Imp.int (findI_none (fun j hj => hx.2 j (by omega))).symm)))
set_option maxRecDepth 8000 in
theorem conFuncG (f : FuncId) (caps : List A) (p : List Ty → Bool) (L : List (List Ty)) (hf : CallF Try.prog f) (hp : ∀ y ∈ L, FnC Try.prog f ([A.sl 4 cTy y] ++ caps) (A.bool (p y))) : FnC Try.prog 58 [A.sl 1 cGrp L, A.cl f caps] (A.bool (L.any p)) := by
  refine Fn_of_W Try.func58 rfl rfl fun r w => ?_
  refine W_seq ?_
  refine W_region ?_  -- R0 slices.go:124
  refine WL_ac rfl ?_
  refine WL_nil ?_
  refine Fin_then ?_
  refine W_seq ?_
  refine W_region ?_  -- R1 slices.go:125
  refine WL_mv rfl rfl ?_
  refine WL_mv rfl rfl ?_
  refine WL_step (S_plain (O_call cf78 (idxFuncG _ _ _ _ hf hp) rfl) ⟨T1 rfl, T1 rfl, trivial⟩ rfl rfl) ?_
  refine WL_step (S_plain O_geq ⟨T1 rfl, C1, trivial⟩ rfl rfl) ?_
  refine WL_as rfl rfl ?_
  refine WL_nil ?_
  refine Fin_then ?_
  refine W_ret ?_
  exact RetC rfl (Res1 rfl (RV.tmp rfl (Imp.bool (by rw [← findI_any]))))
set_option maxRecDepth 8000 in
theorem idxFuncF (f : FuncId) (caps : List A) (p : Fld → Bool) (L : List (Fld)) (hf : CallF Try.prog f) (hp : ∀ y ∈ L, FnC Try.prog f ([A.agg (cFld y)] ++ caps) (A.bool (p y))) : FnC Try.prog 92 [A.sl 3 cFld L, A.cl f caps] (A.int (findI p L)) := by
  refine Fn_of_W Try.func92 rfl rfl fun r w => ?_
  refine W_seq ?_
  refine W_region ?_  -- R0 slices.go:107
  refine WL_ac rfl ?_
  refine WL_nil ?_
  refine Fin_then ?_
  refine W_seq ?_
  refine W_seq ?_
  refine W_region ?_  -- R1 slices.go:108
  refine WL_mv rfl rfl ?_
  refine WL_len ts27 rfl rfl fun hl7 => ?_
  refine WL_mc rfl ?_
  refine WL_nil ?_
  refine Fin_then ?_
  refine W_block ?_
  refine W_loopk [0, 1, 7] (T := Nat) (fun k => k ≤ L.length ∧ ∀ j : Nat, j < k → p (idx L (j : Int)) = false) (fun k => [(8, true, A.int (k : Int))]) (fun k => L.length - k) 0 ⟨Nat.zero_le _, fun j h => by omega⟩ ⟨⟨rfl, _, rfl, (by first | exact Imp.refl | exact Imp.slv | exact Imp.nil | exact Imp.int (by omega) | exact Imp.int (by simp; done) | exact Imp.bool (by simp_all; done))⟩, trivial⟩ (fun k hx => ?_)
  have hk := hx.1
  refine W_seq ?_
  refine W_region ?_  -- R2 slices.go:108
  refine WL_step (S_plain O_lss ⟨T1 rfl, T1 rfl, trivial⟩ rfl rfl) ?_
  refine WL_nil ?_
  refine Fin_then ?_
  refine W_seq ?_
  refine W_cond rfl (fun h0 => ?_) (fun h0 => ?_)
  · skip
    try simp only [bl] at h0
    refine W_skip ?_
    refine Fin_then ?_
    refine W_seq ?_
    refine W_block ?_
    refine W_seq ?_
    refine W_region ?_  -- R3 slices.go:108
    refine WL_mv rfl rfl ?_
    refine WL_as rfl rfl ?_
    refine WL_nil ?_
    refine Fin_then ?_
    refine W_seq ?_
    refine W_region ?_  -- R4 slices.go:109
    refine WL_mv rfl rfl ?_
    refine WL_mv rfl rfl ?_
    refine WL_mv rfl rfl ?_
    refine WL_step (S_plain (O_index ts27 (by omega)) ⟨T1 rfl, T1 rfl, trivial⟩ rfl rfl) ?_
    refine WL_step (S_plain (O_loadgw tg33 rfl) ⟨T1 rfl, trivial⟩ rfl rfl) ?_
    refine WL_step (S_plain (O_callcl hf (hp _ (idx_mem (by omega) (by omega))) rfl) ⟨T1 rfl, T1 rfl, trivial⟩ rfl rfl) ?_
    refine WL_nil ?_
    refine Fin_then ?_
    refine W_cond rfl (fun h1 => ?_) (fun h1 => ?_)
    · skip
      try simp only [bl] at h1
      refine W_seq ?_
      refine W_region ?_  -- R5 slices.go:110
      refine WL_mv rfl rfl ?_
      refine WL_as rfl rfl ?_
      refine WL_nil ?_
      refine Fin_then ?_
      refine W_ret ?_
      refine Fin_block_ret ?_
      refine Fin_then_ret ?_
      refine Fin_then_ret ?_
      refine Fin_block_ret ?_
      refine Fin_then_ret ?_
      exact RetC rfl (Res1 rfl (RV.tmp rfl (Imp.int (findI_some (by omega) (by simpa using h1) hx.2).symm)))
    · skip
      try simp only [bl] at h1
      refine W_skip ?_
      refine Fin_block ?_
      refine Fin_then ?_
      refine W_region ?_  -- R6 slices.go:108
      refine WL_step (S_plain (O_add (by omega)) ⟨T1 rfl, C1, trivial⟩ rfl rfl) ?_
      refine WL_mv rfl rfl ?_
      refine WL_nil ?_
      exact Fin_back (k + 1) ⟨by omega, fun j hj => by rcases Nat.lt_or_ge j k with q | q; exact hx.2 j q; rw [show j = k from by omega]; simpa using h1⟩ (by omega) ⟨⟨rfl, _, rfl, (by first | exact Imp.refl | exact Imp.slv | exact Imp.nil | exact Imp.int (by omega) | exact Imp.int (by simp; done) | exact Imp.bool (by simp_all; done))⟩, trivial⟩ ⟨rfl, rfl, rfl, trivial⟩ rfl rfl
  · skip
    try simp only [bl] at h0
    refine W_exit ?_
    refine Fin_then_exit ?_
    refine Fin_then_exit ?_
    refine Fin_block_exit ?_
    refine Fin_then ?_
    refine W_seq ?_
    refine W_region ?_  -- R7 slices.go:113
    refine WL_ac rfl ?_
    refine WL_nil ?_
    refine Fin_then ?_
    refine W_ret ?_
    exact RetC rfl (Res1 rfl (RV.tmp rfl (Imp.int (findI_none (fun j hj => hx.2 j (by omega))).symm)))
set_option maxRecDepth 8000 in
theorem conFuncF (f : FuncId) (caps : List A) (p : Fld → Bool) (L : List (Fld)) (hf : CallF Try.prog f) (hp : ∀ y ∈ L, FnC Try.prog f ([A.agg (cFld y)] ++ caps) (A.bool (p y))) : FnC Try.prog 79 [A.sl 3 cFld L, A.cl f caps] (A.bool (L.any p)) := by
  refine Fn_of_W Try.func79 rfl rfl fun r w => ?_
  refine W_seq ?_
  refine W_region ?_  -- R0 slices.go:124
  refine WL_ac rfl ?_
  refine WL_nil ?_
  refine Fin_then ?_
  refine W_seq ?_
  refine W_region ?_  -- R1 slices.go:125
  refine WL_mv rfl rfl ?_
  refine WL_mv rfl rfl ?_
  refine WL_step (S_plain (O_call cf92 (idxFuncF _ _ _ _ hf hp) rfl) ⟨T1 rfl, T1 rfl, trivial⟩ rfl rfl) ?_
  refine WL_step (S_plain O_geq ⟨T1 rfl, C1, trivial⟩ rfl rfl) ?_
  refine WL_as rfl rfl ?_
  refine WL_nil ?_
  refine Fin_then ?_
  refine W_ret ?_
  exact RetC rfl (Res1 rfl (RV.tmp rfl (Imp.bool (by rw [← findI_any]))))
set_option maxRecDepth 8000 in
theorem impl_rowOk1 (f : Fld) (r0 : Row) : FnC Try.prog 80 [A.agg (cFld f), A.pt (cRow r0)] (A.bool (!fieldOk f r0.lim)) := by
  refine Fn_of_W Try.func80 rfl rfl fun r w => ?_
  refine W_seq ?_
  refine W_region ?_  -- R0 l1_kin.go:86
  refine WL_step (S_plain O_boxg ⟨T1 rfl, trivial⟩ rfl rfl) ?_
  refine WL_ac rfl ?_
  refine WL_nil ?_
  refine Fin_then ?_
  refine W_seq ?_
  refine W_region ?_  -- R1 l1_kin.go:86
  refine WL_step (S_plain (O_loadgw tg33 rfl) ⟨T1 rfl, trivial⟩ rfl rfl) ?_
  refine WL_step (S_plain (O_field tf62_2) ⟨T1 rfl, trivial⟩ rfl rfl) ?_
  refine WL_step (S_plain (O_load ta3) ⟨T1 rfl, trivial⟩ rfl rfl) ?_
  refine WL_step (S_plain (O_call cf64 (impl_fieldOk _ _) rfl) ⟨T1 rfl, T1 rfl, trivial⟩ rfl rfl) ?_
  refine WL_step (S_plain O_not ⟨T1 rfl, trivial⟩ rfl rfl) ?_
  refine WL_as rfl rfl ?_
  refine WL_nil ?_
  refine Fin_then ?_
  refine W_ret ?_
  exact RetC rfl (Res1 rfl (RV.tmp rfl (by first | exact Imp.refl | exact Imp.slv | exact Imp.nil | exact Imp.int (by omega) | exact Imp.int (by simp; done) | exact Imp.bool (by simp_all; done))))
set_option maxRecDepth 8000 in
theorem impl_rowOk (r0 : Row) (n : Int) : FnC Try.prog 60 [A.agg (cRow r0), A.int n] (A.bool (rowOk r0 n)) := by
  refine Fn_of_W Try.func60 rfl rfl fun r w => ?_
  refine W_seq ?_
  refine W_region ?_  -- R0 l1_kin.go:82
  refine WL_step (S_plain O_boxg ⟨T1 rfl, trivial⟩ rfl rfl) ?_
  refine WL_ac rfl ?_
  refine WL_nil ?_
  refine Fin_then ?_
  refine W_seq ?_
  refine W_seq ?_
  refine W_region ?_  -- R1 l1_kin.go:83
  refine WL_step (S_plain (O_field tf62_0) ⟨T1 rfl, trivial⟩ rfl rfl) ?_
  refine WL_step (S_plain (O_field tf29_0) ⟨T1 rfl, trivial⟩ rfl rfl) ?_
  refine WL_step (S_plain (O_load ta3) ⟨T1 rfl, trivial⟩ rfl rfl) ?_
  refine WL_step (S_plain O_neq ⟨T1 rfl, C1, trivial⟩ rfl rfl) ?_
  refine WL_mv rfl rfl ?_
  refine WL_step (S_t1 rfl rfl (fun hc => (O_field tf62_0)) ⟨⟨_, rfl, (by first | exact fun _ _ => rfl | exact fun h _ => h | exact fun _ h => h | exact fun h k => band h k | exact fun h _ => bandl h | exact fun h _ => bandr h)⟩, trivial⟩ rfl rfl rfl) ?_
  refine WL_step (S_t1 rfl rfl (fun hc => (O_field tf29_0)) ⟨⟨_, rfl, (by first | exact fun _ _ => rfl | exact fun h _ => h | exact fun _ h => h | exact fun h k => band h k | exact fun h _ => bandl h | exact fun h _ => bandr h)⟩, trivial⟩ rfl rfl rfl) ?_
  refine WL_step (S_t1 rfl rfl (fun hc => (O_load ta3)) ⟨⟨_, rfl, (by first | exact fun _ _ => rfl | exact fun h _ => h | exact fun _ h => h | exact fun h k => band h k | exact fun h _ => bandl h | exact fun h _ => bandr h)⟩, trivial⟩ rfl rfl rfl) ?_
  refine WL_step (S_t1 rfl rfl (fun hc => O_neq) ⟨⟨_, rfl, (by first | exact fun _ _ => rfl | exact fun h _ => h | exact fun _ h => h | exact fun h k => band h k | exact fun h _ => bandl h | exact fun h _ => bandr h)⟩, C1, trivial⟩ rfl rfl rfl) ?_
  refine WL_step (S_plain O_and ⟨T1 rfl, ⟨_, rfl, (by first | exact fun _ _ => rfl | exact fun h _ => h | exact fun _ h => h | exact fun h k => band h k | exact fun h _ => bandl h | exact fun h _ => bandr h)⟩, trivial⟩ rfl rfl) ?_
  refine WL_mv rfl rfl ?_
  refine WL_step (S_f1 rfl rfl (fun hc => (O_field tf62_0)) ⟨⟨_, rfl, (by first | exact fun _ _ => rfl | exact fun h _ => h | exact fun _ h => h | exact fun h k => band h k | exact fun h _ => bandl h | exact fun h _ => bandr h)⟩, trivial⟩ rfl rfl rfl) ?_
  refine WL_step (S_f1 rfl rfl (fun hc => (O_field tf29_3)) ⟨⟨_, rfl, (by first | exact fun _ _ => rfl | exact fun h _ => h | exact fun _ h => h | exact fun h k => band h k | exact fun h _ => bandl h | exact fun h _ => bandr h)⟩, trivial⟩ rfl rfl rfl) ?_
  refine WL_step (S_f1 rfl rfl (fun hc => (O_load ta27)) ⟨⟨_, rfl, (by first | exact fun _ _ => rfl | exact fun h _ => h | exact fun _ h => h | exact fun h k => band h k | exact fun h _ => bandl h | exact fun h _ => bandr h)⟩, trivial⟩ rfl rfl rfl) ?_
  refine WL_step (S_f1 rfl rfl (fun hc => (O_len ts27)) ⟨⟨_, rfl, (by first | exact fun _ _ => rfl | exact fun h _ => h | exact fun _ h => h | exact fun h k => band h k | exact fun h _ => bandl h | exact fun h _ => bandr h)⟩, trivial⟩ rfl rfl rfl) ?_
  refine WL_step (S_f1 rfl rfl (fun hc => O_gtr) ⟨⟨_, rfl, (by first | exact fun _ _ => rfl | exact fun h _ => h | exact fun _ h => h | exact fun h k => band h k | exact fun h _ => bandl h | exact fun h _ => bandr h)⟩, C1, trivial⟩ rfl rfl rfl) ?_
  refine WL_step (S_plain O_or ⟨T1 rfl, ⟨_, rfl, (by first | exact fun _ _ => rfl | exact fun h _ => h | exact fun _ h => h | exact fun h k => band h k | exact fun h _ => bandl h | exact fun h _ => bandr h)⟩, trivial⟩ rfl rfl) ?_
  refine WL_mv rfl rfl ?_
  refine WL_step (S_f1 rfl rfl (fun hc => (O_field tf62_0)) ⟨⟨_, rfl, (by first | exact fun _ _ => rfl | exact fun h _ => h | exact fun _ h => h | exact fun h k => band h k | exact fun h _ => bandl h | exact fun h _ => bandr h)⟩, trivial⟩ rfl rfl rfl) ?_
  refine WL_step (S_f1 rfl rfl (fun hc => (O_field tf29_0)) ⟨⟨_, rfl, (by first | exact fun _ _ => rfl | exact fun h _ => h | exact fun _ h => h | exact fun h k => band h k | exact fun h _ => bandl h | exact fun h _ => bandr h)⟩, trivial⟩ rfl rfl rfl) ?_
  refine WL_step (S_f1 rfl rfl (fun hc => (O_load ta3)) ⟨⟨_, rfl, (by first | exact fun _ _ => rfl | exact fun h _ => h | exact fun _ h => h | exact fun h k => band h k | exact fun h _ => bandl h | exact fun h _ => bandr h)⟩, trivial⟩ rfl rfl rfl) ?_
  refine WL_step (S_f1 rfl rfl (fun hc => O_eql) ⟨⟨_, rfl, (by first | exact fun _ _ => rfl | exact fun h _ => h | exact fun _ h => h | exact fun h k => band h k | exact fun h _ => bandl h | exact fun h _ => bandr h)⟩, C1, trivial⟩ rfl rfl rfl) ?_
  refine WL_step (S_f1 rfl rfl (fun hc => O_move) ⟨⟨_, rfl, (by first | exact fun _ _ => rfl | exact fun h _ => h | exact fun _ h => h | exact fun h k => band h k | exact fun h _ => bandl h | exact fun h _ => bandr h)⟩, trivial⟩ rfl rfl rfl) ?_
  refine WL_step (S_t rfl rfl (fun hc => (O_field tf62_0)) ⟨⟨_, rfl, (by first | exact fun _ _ => rfl | exact fun h _ => h | exact fun _ h => h | exact fun h k => band h k | exact fun h _ => bandl h | exact fun h _ => bandr h)⟩, trivial⟩ rfl rfl rfl) ?_
  refine WL_step (S_t rfl rfl (fun hc => (O_field tf29_3)) ⟨⟨_, rfl, (by first | exact fun _ _ => rfl | exact fun h _ => h | exact fun _ h => h | exact fun h k => band h k | exact fun h _ => bandl h | exact fun h _ => bandr h)⟩, trivial⟩ rfl rfl rfl) ?_
  refine WL_step (S_t rfl rfl (fun hc => (O_load ta27)) ⟨⟨_, rfl, (by first | exact fun _ _ => rfl | exact fun h _ => h | exact fun _ h => h | exact fun h k => band h k | exact fun h _ => bandl h | exact fun h _ => bandr h)⟩, trivial⟩ rfl rfl rfl) ?_
  refine WL_step (S_t rfl rfl (fun hc => (O_len ts27)) ⟨⟨_, rfl, (by first | exact fun _ _ => rfl | exact fun h _ => h | exact fun _ h => h | exact fun h k => band h k | exact fun h _ => bandl h | exact fun h _ => bandr h)⟩, trivial⟩ rfl rfl rfl) ?_
  refine WL_step (S_t rfl rfl (fun hc => O_neq) ⟨⟨_, rfl, (by first | exact fun _ _ => rfl | exact fun h _ => h | exact fun _ h => h | exact fun h k => band h k | exact fun h _ => bandl h | exact fun h _ => bandr h)⟩, C1, trivial⟩ rfl rfl rfl) ?_
  refine WL_step (S_f1 rfl rfl (fun hc => O_and) ⟨⟨_, rfl, (by first | exact fun _ _ => rfl | exact fun h _ => h | exact fun _ h => h | exact fun h k => band h k | exact fun h _ => bandl h | exact fun h _ => bandr h)⟩, ⟨_, rfl, (by first | exact fun _ _ => rfl | exact fun h _ => h | exact fun _ h => h | exact fun h k => band h k | exact fun h _ => bandl h | exact fun h _ => bandr h)⟩, trivial⟩ rfl rfl rfl) ?_
  refine WL_step (S_plain O_or ⟨T1 rfl, ⟨_, rfl, (by first | exact fun _ _ => rfl | exact fun h _ => h | exact fun _ h => h | exact fun h k => band h k | exact fun h _ => bandl h | exact fun h _ => bandr h)⟩, trivial⟩ rfl rfl) ?_
  refine WL_nil ?_
  refine Fin_then ?_
  refine W_cond rfl (fun h0 => ?_) (fun h0 => ?_)
  · skip
    simp at h0
    refine W_seq ?_
    refine W_region ?_  -- R2 l1_kin.go:84
    refine WL_ac rfl ?_
    refine WL_nil ?_
    refine Fin_then ?_
    refine W_ret ?_
    refine Fin_then_ret ?_
    exact RetC rfl (Res1 rfl (RV.tmp rfl (Imp.bool (by unfold rowOk; grind))))
  · skip
    simp at h0
    refine W_skip ?_
    refine Fin_then ?_
    refine W_seq ?_
    refine W_seq ?_
    refine W_region ?_  -- R3 l1_kin.go:86
    refine WL_step (S_plain (O_field tf62_0) ⟨T1 rfl, trivial⟩ rfl rfl) ?_
    refine WL_step (S_plain (O_field tf29_3) ⟨T1 rfl, trivial⟩ rfl rfl) ?_
    refine WL_step (S_plain (O_load ta27) ⟨T1 rfl, trivial⟩ rfl rfl) ?_
    refine WL_step (S_plain (O_makeFunc (caps := [_]) rfl) ⟨T1 rfl, trivial⟩ rfl rfl) ?_
    refine WL_step (S_plain (O_call cf79 (conFuncF _ _ (fun f => !fieldOk f r0.lim) _ (fun _ _ => by kernel_rfl) (fun y _ => impl_rowOk1 y r0)) rfl) ⟨T1 rfl, T1 rfl, trivial⟩ rfl rfl) ?_
    refine WL_nil ?_
    refine Fin_then ?_
    refine W_cond rfl (fun h1 => ?_) (fun h1 => ?_)
    · skip
      simp at h1
      refine W_seq ?_
      refine W_region ?_  -- R4 l1_kin.go:87
      refine WL_ac rfl ?_
      refine WL_nil ?_
      refine Fin_then ?_
      refine W_ret ?_
      refine Fin_then_ret ?_
      exact RetC rfl (Res1 rfl (RV.tmp rfl (Imp.bool (by unfold rowOk; grind))))
    · skip
      simp at h1
      refine W_skip ?_
      refine Fin_then ?_
      refine W_seq ?_
      refine W_region ?_  -- R5 l1_kin.go:89
      refine WL_step (S_plain (O_field tf62_0) ⟨T1 rfl, trivial⟩ rfl rfl) ?_
      refine WL_step (S_plain (O_field tf29_1) ⟨T1 rfl, trivial⟩ rfl rfl) ?_
      refine WL_step (S_plain (O_load ta3) ⟨T1 rfl, trivial⟩ rfl rfl) ?_
      refine WL_step (S_plain O_geq ⟨T1 rfl, C1, trivial⟩ rfl rfl) ?_
      refine WL_mv rfl rfl ?_
      refine WL_step (S_t1 rfl rfl (fun hc => (O_field tf62_0)) ⟨⟨_, rfl, (by first | exact fun _ _ => rfl | exact fun h _ => h | exact fun _ h => h | exact fun h k => band h k | exact fun h _ => bandl h | exact fun h _ => bandr h)⟩, trivial⟩ rfl rfl rfl) ?_
      refine WL_step (S_t1 rfl rfl (fun hc => (O_field tf29_1)) ⟨⟨_, rfl, (by first | exact fun _ _ => rfl | exact fun h _ => h | exact fun _ h => h | exact fun h k => band h k | exact fun h _ => bandl h | exact fun h _ => bandr h)⟩, trivial⟩ rfl rfl rfl) ?_
      refine WL_step (S_t1 rfl rfl (fun hc => (O_load ta3)) ⟨⟨_, rfl, (by first | exact fun _ _ => rfl | exact fun h _ => h | exact fun _ h => h | exact fun h k => band h k | exact fun h _ => bandl h | exact fun h _ => bandr h)⟩, trivial⟩ rfl rfl rfl) ?_
      refine WL_step (S_t1 rfl rfl (fun hc => O_move) ⟨⟨_, rfl, (by first | exact fun _ _ => rfl | exact fun h _ => h | exact fun _ h => h | exact fun h k => band h k | exact fun h _ => bandl h | exact fun h _ => bandr h)⟩, trivial⟩ rfl rfl rfl) ?_
      refine WL_step (S_t1 rfl rfl (fun hc => O_lss) ⟨⟨_, rfl, (by first | exact fun _ _ => rfl | exact fun h _ => h | exact fun _ h => h | exact fun h k => band h k | exact fun h _ => bandl h | exact fun h _ => bandr h)⟩, ⟨_, rfl, (by first | exact fun _ _ => rfl | exact fun h _ => h | exact fun _ h => h | exact fun h k => band h k | exact fun h _ => bandl h | exact fun h _ => bandr h)⟩, trivial⟩ rfl rfl rfl) ?_
      refine WL_step (S_plain O_and ⟨T1 rfl, ⟨_, rfl, (by first | exact fun _ _ => rfl | exact fun h _ => h | exact fun _ h => h | exact fun h k => band h k | exact fun h _ => bandl h | exact fun h _ => bandr h)⟩, trivial⟩ rfl rfl) ?_
      refine WL_as rfl rfl ?_
      refine WL_nil ?_
      refine Fin_then ?_
      refine W_ret ?_
      exact RetC rfl (Res1 rfl (RV.tmp rfl (Imp.bool (by unfold rowOk; grind))))
set_option maxRecDepth 8000 in
theorem impl_shapeOf (L : List Row) (c : List Int) (r0 : Row) (hc : CanOk c) (hr : RowIn c r0) : FnC Try.prog 81 [kP L c, A.agg (cRow r0)] (A.agg ((shapeV c r0).map A.val)) := by
  have b1 := hr.f0
  have b2 := hr.fl
  have b3 := hr.ty.1
  have b4 := hr.len
  refine Fn_of_W Try.func81 rfl rfl fun r w => ?_
  refine W_seq ?_
  refine W_region ?_  -- R0 l1_kin.go:126
  refine WL_step (S_plain O_boxg ⟨T1 rfl, trivial⟩ rfl rfl) ?_
  refine WL_alloc tz104 rfl fun b4 => ?_
  refine WL_nil ?_
  refine Fin_then ?_
  refine W_seq ?_
  refine W_drawA 19 mix rfl rfl ?_  -- R1 l1_kin.go:127
  refine ChainA_cons (S_plain (O_field tf62_0) ⟨T1 rfl, trivial⟩ rfl rfl) ?_
  refine ChainA_cons (S_plain (O_field tf29_0) ⟨T1 rfl, trivial⟩ rfl rfl) ?_
  refine ChainA_cons (S_plain (O_load ta3) ⟨T1 rfl, trivial⟩ rfl rfl) ?_
  refine ChainA_cons (S_plain O_move ⟨T1 rfl, trivial⟩ rfl rfl) ?_
  refine ChainA_cons (S_plain (O_field tf62_0) ⟨T1 rfl, trivial⟩ rfl rfl) ?_
  refine ChainA_cons (S_plain (O_field tf29_1) ⟨T1 rfl, trivial⟩ rfl rfl) ?_
  refine ChainA_cons (S_plain (O_load ta3) ⟨T1 rfl, trivial⟩ rfl rfl) ?_
  refine ChainA_cons (S_plain (O_field tf62_1) ⟨T1 rfl, trivial⟩ rfl rfl) ?_
  refine ChainA_cons (S_plain (O_load ta3) ⟨T1 rfl, trivial⟩ rfl rfl) ?_
  refine ChainA_cons (S_plain (O_call cf93 (impl_code _ _ _ _ (by assumption) (by omega) (by omega) (by omega)) rfl) ⟨T1 rfl, T1 rfl, T1 rfl, trivial⟩ rfl rfl) ?_
  refine ChainA_cons (S_plain (O_field tf62_0) ⟨T1 rfl, trivial⟩ rfl rfl) ?_
  refine ChainA_cons (S_plain (O_field tf29_2) ⟨T1 rfl, trivial⟩ rfl rfl) ?_
  refine ChainA_cons (S_plain (O_load ta4) ⟨T1 rfl, trivial⟩ rfl rfl) ?_
  refine ChainA_cons (S_plain (O_field tf62_0) ⟨T1 rfl, trivial⟩ rfl rfl) ?_
  refine ChainA_cons (S_plain (O_field tf29_3) ⟨T1 rfl, trivial⟩ rfl rfl) ?_
  refine ChainA_cons (S_plain (O_load ta27) ⟨T1 rfl, trivial⟩ rfl rfl) ?_
  refine ChainA_cons (S_plain (O_len ts27) ⟨T1 rfl, trivial⟩ rfl rfl) ?_
  refine ChainA_cons (S_plain (O_build [(_, _), (_, _), (_, _), (_, _)] tb104 rfl ⟨(CellsOf.one OneV.int), (CellsOf.one OneV.int), (CellsOf.one OneV.bool), (CellsOf.one OneV.int), trivial⟩ rfl) ⟨T1 rfl, T1 rfl, T1 rfl, T1 rfl, trivial⟩ rfl rfl) ?_
  refine ChainA_al tz104 rfl ?_
  refine ChainA_nil ?_
  refine AlK_cons fun b5 => ?_
  refine AlK_nil ?_
  refine WL_store 0 rfl ⟨T1 rfl, T1 rfl, trivial⟩ (CellsOf.agg (by exact ⟨OneV.int, OneV.int, OneV.bool, OneV.int, OneV.int, OneV.int, OneV.bool, OneV.int, OneV.int, OneV.bool, OneV.int, OneV.int, OneV.bool, OneV.int, OneV.int, OneV.bool, trivial⟩)) sz104 (Nat.le_of_ble_eq_true rfl) ?_
  refine WL_nil ?_
  refine Fin_then ?_
  refine W_seq ?_
  refine W_seq ?_
  refine W_region ?_  -- R2 l1_kin.go:128
  refine WL_step (S_plain (O_field tf62_0) ⟨T1 rfl, trivial⟩ rfl rfl) ?_
  refine WL_step (S_plain (O_field tf29_3) ⟨T1 rfl, trivial⟩ rfl rfl) ?_
  refine WL_step (S_plain (O_load ta27) ⟨T1 rfl, trivial⟩ rfl rfl) ?_
  refine WL_len ts27 rfl rfl fun hl29 => ?_
  refine WL_mc rfl ?_
  refine WL_nil ?_
  refine Fin_then ?_
  refine W_block ?_
  refine W_loopp [0, 3, 4, 5, 28, 29] [0] [] [] (T := Nat) (fun k => k ≤ r0.t.fields.length) (fun k => [(30, true, A.int (k : Int))]) (fun k => { own := [(b5, 104, (shapeTo c r0 k).map A.val)], rooms := [], maps := [] }) (fun k => r0.t.fields.length - k) 0 (by omega) ⟨⟨rfl, _, rfl, (by first | exact Imp.refl | exact Imp.slv | exact Imp.nil | exact Imp.int (by omega) | exact Imp.int (by simp; done) | exact Imp.bool (by simp_all; done))⟩, trivial⟩ (.cons (AllImp.eq rfl) OSub.nil) rfl rfl rfl (fun k hx => ?_)
  have b5 := hr.ty.of (k : Int)
  refine W_seq ?_
  refine W_region ?_  -- R3 l1_kin.go:128
  refine WL_step (S_plain O_lss ⟨T1 rfl, T1 rfl, trivial⟩ rfl rfl) ?_
  refine WL_nil ?_
  refine Fin_then ?_
  refine W_seq ?_
  refine W_cond rfl (fun h0 => ?_) (fun h0 => ?_)
  · skip
    try simp only [bl] at h0
    refine W_skip ?_
    refine Fin_then ?_
    refine W_seq ?_
    refine W_block ?_
    refine W_seq ?_
    refine W_region ?_  -- R4 l1_kin.go:128
    refine WL_mv rfl rfl ?_
    refine WL_step (S_plain (O_index ts27 (by omega)) ⟨T1 rfl, T1 rfl, trivial⟩ rfl rfl) ?_
    refine WL_step (S_plain (O_loadgw tg33 rfl) ⟨T1 rfl, trivial⟩ rfl rfl) ?_
    refine WL_alloc tz33 rfl fun b7 => ?_
    refine WL_as rfl rfl ?_
    refine WL_store 0 rfl ⟨T1 rfl, T1 rfl, trivial⟩ (CellsOf.agg (by exact ⟨OneV.int, OneV.int, OneV.bool, trivial⟩)) sz33 (Nat.le_of_ble_eq_true rfl) ?_
    refine WL_nil ?_
    refine Fin_then ?_
    refine W_seq ?_
    refine W_seq ?_
    refine W_region ?_  -- R5 l1_kin.go:129
    refine WL_step (S_plain (O_fieldv tf33_0) ⟨T1 rfl, trivial⟩ rfl rfl) ?_
    refine WL_step (S_plain (O_loado 0 ta3 rfl rfl) ⟨T1 rfl, trivial⟩ rfl rfl) ?_
    refine WL_step (S_plain O_neq ⟨T1 rfl, C1, trivial⟩ rfl rfl) ?_
    refine WL_nil ?_
    refine Fin_then ?_
    refine W_cond rfl (fun h1 => ?_) (fun h1 => ?_)
    · skip
      try simp only [bl] at h1
      refine W_region ?_  -- R6 l1_kin.go:130
      refine WL_mv rfl rfl ?_
      refine WL_step (S_plain (O_fieldv tf33_1) ⟨T1 rfl, trivial⟩ rfl rfl) ?_
      refine WL_step (S_plain (O_loado 0 ta3 rfl rfl) ⟨T1 rfl, trivial⟩ rfl rfl) ?_
      refine WL_step (S_plain (O_field tf62_1) ⟨T1 rfl, trivial⟩ rfl rfl) ?_
      refine WL_step (S_plain (O_load ta3) ⟨T1 rfl, trivial⟩ rfl rfl) ?_
      refine WL_step (S_plain (O_call cf93 (impl_code _ _ _ _ (by assumption) (by omega) (by omega) (by omega)) rfl) ⟨T1 rfl, T1 rfl, T1 rfl, trivial⟩ rfl rfl) ?_
      refine WL_step (S_plain (O_fieldv tf33_1) ⟨T1 rfl, trivial⟩ rfl rfl) ?_
      refine WL_store 0 rfl ⟨T1 rfl, T1 rfl, trivial⟩ (CellsOf.one OneV.int) sz3 (Nat.le_of_ble_eq_true rfl) ?_
      refine WL_nil ?_
      refine Fin_then ?_
      refine W_region ?_  -- R7 l1_kin.go:132
      refine WL_mv rfl rfl ?_
      refine WL_step (S_plain (O_loadog 0 tg33 rfl (Nat.le_of_ble_eq_true rfl)) ⟨T1 rfl, trivial⟩ rfl rfl) ?_
      refine WL_step (S_plain (O_fieldv tf104_4) ⟨T1 rfl, trivial⟩ rfl rfl) ?_
      refine WL_step (S_plain (O_indexarro tar102 (by omega)) ⟨T1 rfl, T1 rfl, trivial⟩ rfl rfl) ?_
      refine WL_store 1 rfl ⟨T1 rfl, T1 rfl, trivial⟩ (CellsOf.agg (by exact ⟨OneV.int, OneV.int, OneV.bool, trivial⟩)) sz33 (by simp [shapeTo_len (c := c) hx hr.len, over]; try omega) ?_
      refine WL_nil ?_
      refine Fin_block ?_
      refine Fin_then ?_
      refine W_region ?_  -- R8 l1_kin.go:128
      refine WL_step (S_plain (O_add (by omega)) ⟨T1 rfl, C1, trivial⟩ rfl rfl) ?_
      refine WL_mv rfl rfl ?_
      refine WL_nil ?_
      exact Fin_backp [1, 2] (k + 1) (by omega) (by omega) ⟨⟨rfl, _, rfl, (by first | exact Imp.refl | exact Imp.slv | exact Imp.nil | exact Imp.int (by omega) | exact Imp.int (by simp; done) | exact Imp.bool (by simp_all; done))⟩, trivial⟩ ⟨rfl, rfl, rfl, rfl, rfl, rfl, trivial⟩ (.cons (AllImp.eq (shape_stepA (by omega) (by omega) (by simp [fldV, codeFld, over, cFld, h1]))) (.cons AllImp.refl OSub.nil)) rfl (List.Sublist.refl _) rfl
    · skip
      try simp only [bl] at h1
      refine W_skip ?_
      refine Fin_then ?_
      refine W_region ?_  -- R7 l1_kin.go:132
      refine WL_mv rfl rfl ?_
      refine WL_step (S_plain (O_loadog 0 tg33 rfl (Nat.le_of_ble_eq_true rfl)) ⟨T1 rfl, trivial⟩ rfl rfl) ?_
      refine WL_step (S_plain (O_fieldv tf104_4) ⟨T1 rfl, trivial⟩ rfl rfl) ?_
      refine WL_step (S_plain (O_indexarro tar102 (by omega)) ⟨T1 rfl, T1 rfl, trivial⟩ rfl rfl) ?_
      refine WL_store 1 rfl ⟨T1 rfl, T1 rfl, trivial⟩ (CellsOf.agg (by exact ⟨OneV.int, OneV.int, OneV.bool, trivial⟩)) sz33 (by simp [shapeTo_len (c := c) hx hr.len, over]; try omega) ?_
      refine WL_nil ?_
      refine Fin_block ?_
      refine Fin_then ?_
      refine W_region ?_  -- R8 l1_kin.go:128
      refine WL_step (S_plain (O_add (by omega)) ⟨T1 rfl, C1, trivial⟩ rfl rfl) ?_
      refine WL_mv rfl rfl ?_
      refine WL_nil ?_
      exact Fin_backp [1, 2] (k + 1) (by omega) (by omega) ⟨⟨rfl, _, rfl, (by first | exact Imp.refl | exact Imp.slv | exact Imp.nil | exact Imp.int (by omega) | exact Imp.int (by simp; done) | exact Imp.bool (by simp_all; done))⟩, trivial⟩ ⟨rfl, rfl, rfl, rfl, rfl, rfl, trivial⟩ (.cons (AllImp.eq (shape_stepA (by omega) (by omega) (by simp [fldV, codeFld, over, cFld, h1]))) (.cons AllImp.refl OSub.nil)) rfl (List.Sublist.refl _) rfl
  · skip
    try simp only [bl] at h0
    refine W_exit ?_
    refine Fin_then_exit ?_
    refine Fin_then_exit ?_
    refine Fin_block_exit ?_
    refine Fin_then ?_
    refine W_seq ?_
    refine W_region ?_  -- R9 l1_kin.go:134
    refine WL_step (S_plain (OpN.post (O_loadog 0 tg104 rfl (by simp [shapeTo_len (c := c) hx hr.len, over]; try omega)) (Imp.agg (l := (shapeV c r0).map A.val) (AllImp.eq (by rw [show k = r0.t.fields.length from by omega, List.drop_zero, List.take_of_length_le (by rw [List.length_map]; exact Nat.le_of_eq (shapeV_len hr.len))]; rfl)))) ⟨T1 rfl, trivial⟩ rfl rfl) ?_
    refine WL_store 1 rfl ⟨T1 rfl, T1 rfl, trivial⟩ (CellsOf.agg AllOne.shape) (by rw [List.length_map, shapeV_len hr.len]; exact sz104) (by rw [List.length_map, shapeV_len hr.len]; exact Nat.le_of_ble_eq_true rfl) ?_
    refine WL_nil ?_
    refine Fin_then ?_
    refine W_ret ?_
    exact RetC rfl (Res1 rfl (RV.cellg 1 rfl tg104 rfl (by rw [over_all (by rw [List.length_map, List.length_map, shapeV_len hr.len]; rfl), List.length_map, shapeV_len hr.len]) (Imp.agg (AllImp.eq (by rw [over_all (by rw [List.length_map, List.length_map, shapeV_len hr.len]; rfl)])))))
end Go.Proofs.Ytilddfgifjejbaa
