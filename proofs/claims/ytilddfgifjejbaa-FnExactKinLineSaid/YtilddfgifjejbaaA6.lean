import Derived.Test.YtilddfgifjejbaaRows
import Derived.Test.YtilddfgifjejbaaCal9
import Derived.Test.YtilddfgifjejbaaPure1
import Derived.Test.YtilddfgifjejbaaPure2
import Derived.Test.YtilddfgifjejbaaPure3
import Derived.Test.YtilddfgifjejbaaA1
import Derived.Test.YtilddfgifjejbaaA5
namespace Go.Proofs.Ytilddfgifjejbaa.A6
open Go Go.RowKit Go.L
theorem mix : Try.prog.follows .mixedOrders = true := by kernel_rfl
theorem cf81 : CallF Try.prog 81 := fun w vs => by kernel_rfl
theorem sz104 : sizeAt Try.prog 104 = some 16 := by kernel_rfl
theorem sz107 : sizeAt Try.prog 107 = some 129 := by kernel_rfl
theorem sz42 : sizeAt Try.prog 42 = some 1 := by kernel_rfl
theorem sz62 : sizeAt Try.prog 62 = some 6 := by kernel_rfl
theorem ta3 : TA Try.prog 3 := by unfold TA; kernel_rfl
theorem ta42 : TA Try.prog 42 := by unfold TA; kernel_rfl
theorem ta59 : TA Try.prog 59 := by unfold TA; kernel_rfl
theorem tar105 : TAr Try.prog 105 8 104 16 := ⟨by kernel_rfl, by kernel_rfl⟩
theorem tb107 : TB Try.prog 107 [.int .i64 0, .int .i64 0, .int .i64 0, .bool false, .int .i64 0, .int .i64 0, .int .i64 0, .bool false, .int .i64 0, .int .i64 0, .bool false, .int .i64 0, .int .i64 0, .bool false, .int .i64 0, .int .i64 0, .bool false, .int .i64 0, .int .i64 0, .bool false, .int .i64 0, .int .i64 0, .int .i64 0, .bool false, .int .i64 0, .int .i64 0, .bool false, .int .i64 0, .int .i64 0, .bool false, .int .i64 0, .int .i64 0, .bool false, .int .i64 0, .int .i64 0, .bool false, .int .i64 0, .int .i64 0, .int .i64 0, .bool false, .int .i64 0, .int .i64 0, .bool false, .int .i64 0, .int .i64 0, .bool false, .int .i64 0, .int .i64 0, .bool false, .int .i64 0, .int .i64 0, .bool false, .int .i64 0, .int .i64 0, .int .i64 0, .bool false, .int .i64 0, .int .i64 0, .bool false, .int .i64 0, .int .i64 0, .bool false, .int .i64 0, .int .i64 0, .bool false, .int .i64 0, .int .i64 0, .bool false, .int .i64 0, .int .i64 0, .int .i64 0, .bool false, .int .i64 0, .int .i64 0, .bool false, .int .i64 0, .int .i64 0, .bool false, .int .i64 0, .int .i64 0, .bool false, .int .i64 0, .int .i64 0, .bool false, .int .i64 0, .int .i64 0, .int .i64 0, .bool false, .int .i64 0, .int .i64 0, .bool false, .int .i64 0, .int .i64 0, .bool false, .int .i64 0, .int .i64 0, .bool false, .int .i64 0, .int .i64 0, .bool false, .int .i64 0, .int .i64 0, .int .i64 0, .bool false, .int .i64 0, .int .i64 0, .bool false, .int .i64 0, .int .i64 0, .bool false, .int .i64 0, .int .i64 0, .bool false, .int .i64 0, .int .i64 0, .bool false, .int .i64 0, .int .i64 0, .int .i64 0, .bool false, .int .i64 0, .int .i64 0, .bool false, .int .i64 0, .int .i64 0, .bool false, .int .i64 0, .int .i64 0, .bool false] [(0, 1), (1, 128)] := ⟨by kernel_rfl, by kernel_rfl⟩
theorem tez42 : TEZ Try.prog 42 3 1 8 [.int .i64 0] := ⟨by kernel_rfl, by kernel_rfl⟩
theorem te42 : TE Try.prog 42 3 1 8 := tez42.te rfl
theorem tf107_1 : TF Try.prog 107 1 1 := by unfold TF; kernel_rfl
theorem tf62_2 : TF Try.prog 62 2 5 := by unfold TF; kernel_rfl
theorem tf66_0 : TF Try.prog 66 0 0 := by unfold TF; kernel_rfl
theorem tf66_1 : TF Try.prog 66 1 1 := by unfold TF; kernel_rfl
theorem tg107 : TG Try.prog 107 129 := ⟨by kernel_rfl, by kernel_rfl⟩
theorem tg62 : TG Try.prog 62 6 := ⟨by kernel_rfl, by kernel_rfl⟩
theorem ts59 : TS Try.prog 59 62 6 := ⟨by kernel_rfl, by kernel_rfl⟩
theorem tz107 : TZ Try.prog 107 [.int .i64 0, .int .i64 0, .int .i64 0, .bool false, .int .i64 0, .int .i64 0, .int .i64 0, .bool false, .int .i64 0, .int .i64 0, .bool false, .int .i64 0, .int .i64 0, .bool false, .int .i64 0, .int .i64 0, .bool false, .int .i64 0, .int .i64 0, .bool false, .int .i64 0, .int .i64 0, .int .i64 0, .bool false, .int .i64 0, .int .i64 0, .bool false, .int .i64 0, .int .i64 0, .bool false, .int .i64 0, .int .i64 0, .bool false, .int .i64 0, .int .i64 0, .bool false, .int .i64 0, .int .i64 0, .int .i64 0, .bool false, .int .i64 0, .int .i64 0, .bool false, .int .i64 0, .int .i64 0, .bool false, .int .i64 0, .int .i64 0, .bool false, .int .i64 0, .int .i64 0, .bool false, .int .i64 0, .int .i64 0, .int .i64 0, .bool false, .int .i64 0, .int .i64 0, .bool false, .int .i64 0, .int .i64 0, .bool false, .int .i64 0, .int .i64 0, .bool false, .int .i64 0, .int .i64 0, .bool false, .int .i64 0, .int .i64 0, .int .i64 0, .bool false, .int .i64 0, .int .i64 0, .bool false, .int .i64 0, .int .i64 0, .bool false, .int .i64 0, .int .i64 0, .bool false, .int .i64 0, .int .i64 0, .bool false, .int .i64 0, .int .i64 0, .int .i64 0, .bool false, .int .i64 0, .int .i64 0, .bool false, .int .i64 0, .int .i64 0, .bool false, .int .i64 0, .int .i64 0, .bool false, .int .i64 0, .int .i64 0, .bool false, .int .i64 0, .int .i64 0, .int .i64 0, .bool false, .int .i64 0, .int .i64 0, .bool false, .int .i64 0, .int .i64 0, .bool false, .int .i64 0, .int .i64 0, .bool false, .int .i64 0, .int .i64 0, .bool false, .int .i64 0, .int .i64 0, .int .i64 0, .bool false, .int .i64 0, .int .i64 0, .bool false, .int .i64 0, .int .i64 0, .bool false, .int .i64 0, .int .i64 0, .bool false] := by unfold TZ; kernel_rfl
theorem tz3 : TZ Try.prog 3 [.int .i64 0] := by unfold TZ; kernel_rfl
theorem tz62 : TZ Try.prog 62 [.int .i64 0, .int .i64 0, .bool false, .slice none 0 0, .int .i64 0, .int .i64 0] := by unfold TZ; kernel_rfl
end Go.Proofs.Ytilddfgifjejbaa.A6
namespace Go.Proofs.Ytilddfgifjejbaa
open Go Go.RowKit Go.L A6
theorem hz3 (w : World) : (zeroValue 3).run Try.prog w = .ok (.int .i64 0) w := by
  have hi : (Try.prog.info? 3).bind (·.zero) = some (.int .i64 0) := by kernel_rfl
  cases h : Try.prog.info? 3 with
  | none => rw [h] at hi; cases hi
  | some i => rw [h] at hi; simp at hi; simp [zeroValue, typeInfo, h, hi]
theorem mt101 : MapT Try.prog 101 107 3 := ⟨by kernel_rfl, Go.Maps.Keyed.of_law (deep_law_gate (by kernel_rfl) (Nat.le_of_ble_eq_true (by kernel_rfl)) (Nat.le_of_ble_eq_true (by kernel_rfl)) (by kernel_rfl) (by kernel_rfl))⟩
theorem kok107 {c : List Int} {R : List Row} (h : Fits kL (keyL c R)) : KeyOk Try.prog 107 (keyV c R) := keyOk_fits (l := kL) (by kernel_rfl) (by kernel_rfl) (by kernel_rfl) (by kernel_rfl) h
set_option maxRecDepth 8000 in
theorem impl_canonize (b : Nat) (G : Kin) (hG : Small G) (h8 : kcnt G ≤ 8) (hR : RowsOk G) (hne : ∀ g ∈ G, g ≠ []) : FnX Try.prog 61 { own := [(b, 66, [A.sl 6 cRow (krows G), A.val (.slice none 0 0)])] } [A.val (.pointer (some ⟨b, 0, none⟩))] (fun _ : Unit => A.any) (fun _ : Unit => { own := [(b, 66, kC (krows G) (canonL G))] }) := by
  have hkr := krows_cnt G
  skip
  refine FnX_of_W Try.func61 rfl rfl fun r w => ?_
  refine W_seq ?_
  refine W_region ?_  -- R0 l1_kin.go:143
  refine WL_makeMap rfl fun m => ?_
  refine WL_roomNil0 3 1 ?_
  refine WL_as rfl rfl ?_
  refine WL_nil ?_
  refine Fin_then ?_
  refine W_seq ?_
  refine W_region ?_  -- R1 l1_kin.go:144
  refine WL_ac rfl ?_
  refine WL_nil ?_
  refine Fin_then ?_
  refine W_block ?_
  refine W_loopp [0, 2] [0] [0] [0] (T := Nat × Value) (fun x => x.1 ≤ G.length) (fun x => [(3, true, A.int (kbeg G (x.1 : Int)))]) (fun x => { own := [(b, 66, [A.sl 6 cRow (krows G), A.slv x.2 1 cInt (cst G x.1).1])], rooms := [(x.2, 3, 1)], maps := [(m, ints (cst G x.1).2)] }) (fun x => G.length - x.1) (0, .slice none 0 0) (by omega) ⟨⟨rfl, _, rfl, (Imp.int (kbeg_zero G))⟩, trivial⟩ (.cons ⟨Imp.refl, slv_nil, trivial⟩ OSub.nil) rfl rfl rfl (fun x hx => ?_)
  have c1 := cst_len G x.1 hx
  have c2 := cst_canOk h8 x.1 hx
  have c3 := kbeg_nonneg G (x.1 : Int)
  have c4 := kbeg_le G (x.1 : Int)
  have c0 := kbeg_all G
  refine W_seq ?_
  refine W_seq ?_
  refine W_region ?_  -- R2 l1_kin.go:144
  refine WL_mv rfl rfl ?_
  refine WL_mv rfl rfl ?_
  refine WL_step (S_plain O_nilCheckv ⟨T1 rfl, trivial⟩ rfl rfl) ?_
  refine WL_step (S_plain (O_fieldv tf66_0) ⟨T1 rfl, trivial⟩ rfl rfl) ?_
  refine WL_step (S_plain (O_loado 0 ta59 rfl rfl) ⟨T1 rfl, trivial⟩ rfl rfl) ?_
  refine WL_len ts59 rfl rfl fun hl17 => ?_
  refine WL_step (S_plain O_lss ⟨T1 rfl, T1 rfl, trivial⟩ rfl rfl) ?_
  refine WL_nil ?_
  refine Fin_then ?_
  refine W_cond rfl (fun h0 => ?_) (fun h0 => ?_)
  · skip
    try simp only [bl] at h0
    have hlt : x.1 < G.length := by rcases Nat.lt_or_ge x.1 G.length with q | q; exact q; rw [show x.1 = G.length from by omega] at h0; omega
    have c5 := grp_end G x.1 hlt
    have hpos : 0 < (idx G (x.1 : Int)).length := List.length_pos_iff.2 (hne _ (idx_mem (by omega) (by omega)))
    have c8 := cst_first h8 hlt
    have c7 : (grows (kbeg G (x.1 : Int)) (idx G (x.1 : Int))).length = (idx G (x.1 : Int)).length := grows_len _ _
    have c6 : (idx (krows G) (kbeg G (x.1 : Int))).lim = kbeg G (x.1 : Int) + ((idx G (x.1 : Int)).length : Int) := by have := krows_idx hlt hpos; simp only [Int.natCast_zero, Int.add_zero] at this; rw [this]
    have hri : ∀ r ∈ grows (kbeg G (x.1 : Int)) (idx G (x.1 : Int)), RowIn (cst G x.1).1 r := fun r hr => by obtain ⟨n, _, q⟩ := hR.grp hlt r hr; obtain ⟨e1, e2⟩ := mem_grows hr; exact ⟨by omega, by omega, hG.rows (grows_sub hlt hr), rowOk_len q⟩
    have hfl : ∀ r ∈ grows (kbeg G (x.1 : Int)) (idx G (x.1 : Int)), r.t.fields.length ≤ 4 := fun r hr => (hri r hr).len
    refine W_skip ?_
    refine Fin_then ?_
    refine W_seq ?_
    refine W_block ?_
    refine W_seq ?_
    refine W_draw 14 mix rfl rfl ?_  -- R4 l1_kin.go:145
    refine Chain_cons (S_plain O_move ⟨T1 rfl, trivial⟩ rfl rfl) ?_
    refine Chain_cons (S_plain O_nilCheckv ⟨T1 rfl, trivial⟩ rfl rfl) ?_
    refine Chain_cons (S_plain (O_fieldv tf66_0) ⟨T1 rfl, trivial⟩ rfl rfl) ?_
    refine Chain_cons (S_plain (O_loado 0 ta59 rfl rfl) ⟨T1 rfl, trivial⟩ rfl rfl) ?_
    refine Chain_cons (S_plain O_move ⟨T1 rfl, trivial⟩ rfl rfl) ?_
    refine Chain_cons (S_plain O_move ⟨T1 rfl, trivial⟩ rfl rfl) ?_
    refine Chain_cons (S_plain O_nilCheckv ⟨T1 rfl, trivial⟩ rfl rfl) ?_
    refine Chain_cons (S_plain (O_fieldv tf66_0) ⟨T1 rfl, trivial⟩ rfl rfl) ?_
    refine Chain_cons (S_plain (O_loado 0 ta59 rfl rfl) ⟨T1 rfl, trivial⟩ rfl rfl) ?_
    refine Chain_cons (S_plain O_move ⟨T1 rfl, trivial⟩ rfl rfl) ?_
    refine Chain_cons (S_plain (O_index ts59 (by omega)) ⟨T1 rfl, T1 rfl, trivial⟩ rfl rfl) ?_
    refine Chain_cons (S_plain (O_field tf62_2) ⟨T1 rfl, trivial⟩ rfl rfl) ?_
    refine Chain_cons (S_plain (O_load ta3) ⟨T1 rfl, trivial⟩ rfl rfl) ?_
    refine Chain_cons (S_plain (OpN.post (O_slice_lh ts59 (by omega)) (show Imp _ (A.sl 6 cRow (grows (kbeg G (x.1 : Int)) (idx G (x.1 : Int)))) from Imp.eq (by rw [c6, krows_slice hlt]))) ⟨T1 rfl, T1 rfl, T1 rfl, trivial⟩ rfl rfl) ?_
    refine Chain_nil ?_
    refine WL_as rfl rfl ?_
    refine WL_nil ?_
    refine Fin_then ?_
    refine W_seq ?_
    refine W_region ?_  -- R5 l1_kin.go:146
    refine WL_mv rfl rfl ?_
    refine WL_len ts59 rfl rfl fun hl42 => ?_
    refine WL_step (S_plain (O_build [(_, _)] tb107 rfl ⟨(CellsOf.one OneV.int), trivial⟩ rfl) ⟨T1 rfl, trivial⟩ rfl rfl) ?_
    refine WL_alloc tz107 rfl fun b5 => ?_
    refine WL_store 0 rfl ⟨T1 rfl, T1 rfl, trivial⟩ (CellsOf.agg (by exact ⟨OneV.int, OneV.int, OneV.int, OneV.bool, OneV.int, OneV.int, OneV.int, OneV.bool, OneV.int, OneV.int, OneV.bool, OneV.int, OneV.int, OneV.bool, OneV.int, OneV.int, OneV.bool, OneV.int, OneV.int, OneV.bool, OneV.int, OneV.int, OneV.int, OneV.bool, OneV.int, OneV.int, OneV.bool, OneV.int, OneV.int, OneV.bool, OneV.int, OneV.int, OneV.bool, OneV.int, OneV.int, OneV.bool, OneV.int, OneV.int, OneV.int, OneV.bool, OneV.int, OneV.int, OneV.bool, OneV.int, OneV.int, OneV.bool, OneV.int, OneV.int, OneV.bool, OneV.int, OneV.int, OneV.bool, OneV.int, OneV.int, OneV.int, OneV.bool, OneV.int, OneV.int, OneV.bool, OneV.int, OneV.int, OneV.bool, OneV.int, OneV.int, OneV.bool, OneV.int, OneV.int, OneV.bool, OneV.int, OneV.int, OneV.int, OneV.bool, OneV.int, OneV.int, OneV.bool, OneV.int, OneV.int, OneV.bool, OneV.int, OneV.int, OneV.bool, OneV.int, OneV.int, OneV.bool, OneV.int, OneV.int, OneV.int, OneV.bool, OneV.int, OneV.int, OneV.bool, OneV.int, OneV.int, OneV.bool, OneV.int, OneV.int, OneV.bool, OneV.int, OneV.int, OneV.bool, OneV.int, OneV.int, OneV.int, OneV.bool, OneV.int, OneV.int, OneV.bool, OneV.int, OneV.int, OneV.bool, OneV.int, OneV.int, OneV.bool, OneV.int, OneV.int, OneV.bool, OneV.int, OneV.int, OneV.int, OneV.bool, OneV.int, OneV.int, OneV.bool, OneV.int, OneV.int, OneV.bool, OneV.int, OneV.int, OneV.bool, trivial⟩)) sz107 (Nat.le_of_ble_eq_true rfl) ?_
    refine WL_nil ?_
    refine Fin_then ?_
    refine W_seq ?_
    refine W_seq ?_
    refine W_region ?_  -- R6 l1_kin.go:147
    refine WL_mv rfl rfl ?_
    refine WL_len ts59 rfl rfl fun hl45 => ?_
    refine WL_mc rfl ?_
    refine WL_nil ?_
    refine Fin_then ?_
    refine W_block ?_
    refine W_loopp [0, 2, 3, 4, 5, 44, 45] [0] [] [] (T := Nat) (fun i => i ≤ (idx G (x.1 : Int)).length) (fun i => [(46, true, A.int (i : Int))]) (fun i => { own := [(b5, 107, (keyTo (cst G x.1).1 (grows (kbeg G (x.1 : Int)) (idx G (x.1 : Int))) i).map A.val)], rooms := [], maps := [] }) (fun i => (idx G (x.1 : Int)).length - i) 0 (by omega) ⟨⟨rfl, _, rfl, (by first | exact Imp.refl | exact Imp.slv | exact Imp.nil | exact Imp.int (by omega) | exact Imp.int (by simp; done) | exact Imp.bool (by simp_all; done))⟩, trivial⟩ (.cons (AllImp.eq rfl) OSub.nil) rfl rfl rfl (fun i hx => ?_)
    refine W_seq ?_
    refine W_region ?_  -- R7 l1_kin.go:147
    refine WL_step (S_plain O_lss ⟨T1 rfl, T1 rfl, trivial⟩ rfl rfl) ?_
    refine WL_nil ?_
    refine Fin_then ?_
    refine W_seq ?_
    refine W_cond rfl (fun h1 => ?_) (fun h1 => ?_)
    · skip
      try simp only [bl] at h1
      refine W_skip ?_
      refine Fin_then ?_
      refine W_seq ?_
      refine W_block ?_
      refine W_seq ?_
      refine W_region ?_  -- R8 l1_kin.go:147
      refine WL_mv rfl rfl ?_
      refine WL_step (S_plain (O_index ts59 (by omega)) ⟨T1 rfl, T1 rfl, trivial⟩ rfl rfl) ?_
      refine WL_step (S_plain (O_loadgw tg62 rfl) ⟨T1 rfl, trivial⟩ rfl rfl) ?_
      refine WL_alloc tz62 rfl fun b7 => ?_
      refine WL_as rfl rfl ?_
      refine WL_store 0 rfl ⟨T1 rfl, T1 rfl, trivial⟩ (CellsOf.agg (by exact ⟨OneV.int, OneV.int, OneV.bool, OneV.sl, OneV.int, OneV.int, trivial⟩)) sz62 (Nat.le_of_ble_eq_true rfl) ?_
      refine WL_nil ?_
      refine Fin_then ?_
      refine W_region ?_  -- R9 l1_kin.go:148
      refine WL_mv rfl rfl ?_
      refine WL_mv rfl rfl ?_
      refine WL_step (S_plain (O_loadog 0 tg62 rfl (Nat.le_of_ble_eq_true rfl)) ⟨T1 rfl, trivial⟩ rfl rfl) ?_
      refine WL_step (S_plain (OpN.pureNw Pure.aggv (O_callL (us := [_, _]) [2] r (List.Mem.head _) cf81 (FnC.fnN Pure.aggv (impl_shapeOf (krows G) (cst G x.1).1 (idx (grows (kbeg G (x.1 : Int)) (idx G (x.1 : Int))) (i : Int)) c2 (hri _ (idx_mem (by omega) (by omega))))) rfl ⟨(Lend.op 0 rfl (by exact ⟨Imp.refl, Imp.slv, trivial⟩)), Lend.refl, trivial⟩)) ⟨T1 rfl, T1 rfl, trivial⟩ rfl rfl) ?_
      refine WL_step (S_plain (O_fieldv tf107_1) ⟨T1 rfl, trivial⟩ rfl rfl) ?_
      refine WL_step (S_plain (O_indexarro tar105 (by omega)) ⟨T1 rfl, T1 rfl, trivial⟩ rfl rfl) ?_
      refine WL_store 1 rfl ⟨T1 rfl, T1 rfl, trivial⟩ (CellsOf.agg AllOne.shape) (by rw [List.length_map, shapeV_len (hfl _ (idx_mem (by omega) (by omega)))]; exact sz104) (by rw [List.length_map, List.length_map, shapeV_len (hfl _ (idx_mem (by omega) (by omega))), keyTo_len hfl (by omega) (by omega)]; omega) ?_
      refine WL_nil ?_
      refine Fin_block ?_
      refine Fin_then ?_
      refine W_region ?_  -- R10 l1_kin.go:147
      refine WL_step (S_plain (O_add (by omega)) ⟨T1 rfl, C1, trivial⟩ rfl rfl) ?_
      refine WL_mv rfl rfl ?_
      refine WL_nil ?_
      exact Fin_backp [1, 2] (i + 1) (by omega) (by omega) ⟨⟨rfl, _, rfl, (by first | exact Imp.refl | exact Imp.slv | exact Imp.nil | exact Imp.int (by omega) | exact Imp.int (by simp; done) | exact Imp.bool (by simp_all; done))⟩, trivial⟩ ⟨rfl, rfl, rfl, rfl, rfl, rfl, rfl, trivial⟩ (.cons (AllImp.eq (key_step hfl (by rw [grows_len]; omega) (by rw [grows_len]; omega))) (.cons AllImp.refl OSub.nil)) rfl (List.Sublist.refl _) rfl
    · skip
      try simp only [bl] at h1
      refine W_exit ?_
      refine Fin_then_exit ?_
      refine Fin_then_exit ?_
      refine Fin_block_exit ?_
      refine Fin_then ?_
      refine W_seq ?_
      refine W_region ?_  -- R11 l1_kin.go:150
      refine WL_mv rfl rfl ?_
      refine WL_step (S_plain (OpN.post (O_loadog 0 tg107 rfl (by simp [keyTo_len hfl (i := i) (by rw [grows_len]; omega) (by rw [grows_len]; omega)]; try omega)) (show Imp _ (A.val (keyV (cst G x.1).1 (grows (kbeg G (x.1 : Int)) (idx G (x.1 : Int))))) from Imp.trans (Imp.agg (l := (keyL (cst G x.1).1 (grows (kbeg G (x.1 : Int)) (idx G (x.1 : Int)))).map A.val) (AllImp.eq (by rw [show i = (grows (kbeg G (x.1 : Int)) (idx G (x.1 : Int))).length from by rw [grows_len]; omega, List.drop_zero, List.take_of_length_le (by rw [List.length_map, keyTo_len hfl (Nat.le_refl _) (by omega)]; exact Nat.le_refl _)]; rfl))) Imp.aggval)) ⟨T1 rfl, trivial⟩ rfl rfl) ?_
      refine WL_lookupI 0 mt101 (fun w => hz3 w) ⟨T1 rfl, T1 rfl, trivial⟩ rfl (fun y hy => by obtain ⟨j, hj, rfl⟩ := (cIn G x.1).ent y hy; exact kok107 (key_fits h8 hR (by omega))) (cIn G x.1).keys (kok107 (key_fits h8 hR (by omega))) rfl ?_
      refine WL_mv rfl rfl ?_
      refine WL_step (S_plain (O_extract rfl) ⟨T1 rfl, trivial⟩ rfl rfl) ?_
      refine WL_step (S_plain (O_extract rfl) ⟨T1 rfl, trivial⟩ rfl rfl) ?_
      refine WL_as rfl rfl ?_
      refine WL_as rfl rfl ?_
      refine WL_nil ?_
      refine Fin_then ?_
      refine W_seq ?_
      refine W_seq ?_
      refine W_region ?_  -- R12 l1_kin.go:151
      refine WL_mv rfl rfl ?_
      refine WL_step (S_plain O_not ⟨T1 rfl, trivial⟩ rfl rfl) ?_
      refine WL_nil ?_
      refine Fin_then ?_
      refine W_cut2 [0, 2, 3, 4] [] [] [0] (T := Unit) (fun _u => True) (fun _u => [(8, true, A.int ((mfind (cst G x.1).2 (keyV (cst G x.1).1 (grows (kbeg G (x.1 : Int)) (idx G (x.1 : Int))))).getD (kbeg G (x.1 : Int))))]) (fun _u => { own := [], rooms := [], maps := [(m, ints (cst G (x.1 + 1)).2)] }) ?_ (fun _u hx => ?_)
      · skip
        refine W_cond rfl (fun h2 => ?_) (fun h2 => ?_)
        · skip
          try simp only [bl] at h2
          refine W_seq ?_
          refine W_region ?_  -- R13 l1_kin.go:152
          refine WL_mv rfl rfl ?_
          refine WL_as rfl rfl ?_
          refine WL_nil ?_
          refine Fin_then ?_
          refine W_region ?_  -- R14 l1_kin.go:153
          refine WL_mv rfl rfl ?_
          refine WL_step (S_plain (OpN.post (O_loadog 0 tg107 rfl (by simp [keyTo_len hfl (i := i) (by rw [grows_len]; omega) (by rw [grows_len]; omega)]; try omega)) (show Imp _ (A.val (keyV (cst G x.1).1 (grows (kbeg G (x.1 : Int)) (idx G (x.1 : Int))))) from Imp.trans (Imp.agg (l := (keyL (cst G x.1).1 (grows (kbeg G (x.1 : Int)) (idx G (x.1 : Int)))).map A.val) (AllImp.eq (by rw [show i = (grows (kbeg G (x.1 : Int)) (idx G (x.1 : Int))).length from by rw [grows_len]; omega, List.drop_zero, List.take_of_length_le (by rw [List.length_map, keyTo_len hfl (Nat.le_refl _) (by omega)]; exact Nat.le_refl _)]; rfl))) Imp.aggval)) ⟨T1 rfl, trivial⟩ rfl rfl) ?_
          refine WL_mv rfl rfl ?_
          refine WL_mapPutI 0 mt101 ⟨T1 rfl, T1 rfl, T1 rfl, trivial⟩ rfl (fun y hy => by obtain ⟨j, hj, rfl⟩ := (cIn G x.1).ent y hy; exact kok107 (key_fits h8 hR (by omega))) (kok107 (key_fits h8 hR (by omega))) (by simpa using h2) ?_
          refine WL_nil ?_
          exact Fin_cut [0, 1] () (by first | trivial | omega) ⟨⟨rfl, _, rfl, (Imp.int (by simp at h2; rw [h2]; rfl))⟩, trivial⟩ ⟨rfl, rfl, rfl, rfl, trivial⟩ (.cons AllImp.refl (.cons AllImp.refl OSub.nil)) rfl (List.Sublist.refl _) (congrArg (fun z => [(m, ints z)]) (cst_no h2))
        · skip
          try simp only [bl] at h2
          refine W_skip ?_
          exact Fin_cut [0, 1] () (by first | trivial | omega) ⟨⟨rfl, _, rfl, (Imp.int (by obtain ⟨a, ha⟩ := Option.isSome_iff_exists.1 h2; rw [ha]; rfl))⟩, trivial⟩ ⟨rfl, rfl, rfl, rfl, trivial⟩ (.cons AllImp.refl (.cons AllImp.refl OSub.nil)) rfl (List.Sublist.refl _) (congrArg (fun z => [(m, ints z)]) (cst_yes h2))
      · skip
        refine W_seq ?_
        refine W_region ?_  -- R15 l1_kin.go:155
        refine WL_mv rfl rfl ?_
        refine WL_len ts59 rfl rfl fun hl71 => ?_
        refine WL_mc rfl ?_
        refine WL_nil ?_
        refine Fin_then ?_
        refine W_block ?_
        refine W_loopp [0, 2, 3, 8, 71] [1] [0] [] (T := Nat × Value) (fun y => y.1 ≤ (idx G (x.1 : Int)).length) (fun y => [(72, true, A.int (y.1 : Int))]) (fun y => { own := [(b, 66, [A.sl 6 cRow (krows G), A.slv y.2 1 cInt ((cst G x.1).1 ++ from_ ((mfind (cst G x.1).2 (keyV (cst G x.1).1 (grows (kbeg G (x.1 : Int)) (idx G (x.1 : Int))))).getD (kbeg G (x.1 : Int))) y.1)])], rooms := [(y.2, 3, 1)], maps := [] }) (fun y => (idx G (x.1 : Int)).length - y.1) (0, x.2) (by omega) ⟨⟨rfl, _, rfl, (by first | exact Imp.refl | exact Imp.slv | exact Imp.nil | exact Imp.int (by omega) | exact Imp.int (by simp; done) | exact Imp.bool (by simp_all; done))⟩, trivial⟩ (.cons ⟨Imp.refl, Imp.eq (by simp [from_]), trivial⟩ OSub.nil) rfl rfl rfl (fun y hx => ?_)
        refine W_seq ?_
        refine W_region ?_  -- R16 l1_kin.go:155
        refine WL_step (S_plain O_lss ⟨T1 rfl, T1 rfl, trivial⟩ rfl rfl) ?_
        refine WL_nil ?_
        refine Fin_then ?_
        refine W_seq ?_
        refine W_cond rfl (fun h3 => ?_) (fun h3 => ?_)
        · skip
          try simp only [bl] at h3
          refine W_skip ?_
          refine Fin_then ?_
          refine W_seq ?_
          refine W_block ?_
          refine W_seq ?_
          refine W_region ?_  -- R17 l1_kin.go:155
          refine WL_mv rfl rfl ?_
          refine WL_as rfl rfl ?_
          refine WL_nil ?_
          refine Fin_then ?_
          refine W_region ?_  -- R18 l1_kin.go:156
          refine WL_mv rfl rfl ?_
          refine WL_mv rfl rfl ?_
          refine WL_step (S_plain O_nilCheckv ⟨T1 rfl, trivial⟩ rfl rfl) ?_
          refine WL_step (S_plain (O_fieldv tf66_1) ⟨T1 rfl, trivial⟩ rfl rfl) ?_
          refine WL_step (S_plain (O_loado 0 ta42 rfl rfl) ⟨T1 rfl, trivial⟩ rfl rfl) ?_
          refine WL_mv rfl rfl ?_
          refine WL_mv rfl rfl ?_
          refine WL_step (S_plain (O_add (by omega)) ⟨T1 rfl, T1 rfl, trivial⟩ rfl rfl) ?_
          refine WL_step (S_plain (O_slice1 (f := cInt) _ te42 rfl rfl (CellsOf.one OneV.int) AllImp.refl) ⟨T1 rfl, trivial⟩ rfl rfl) ?_
          refine WL_append 0 _ te42 ⟨T1 rfl, T1 rfl, trivial⟩ rfl (by decide) (fun _ => rfl) (fun _ => rfl) (fun _ => ⟨OneV.int, trivial⟩) rfl (by simp only [List.length_append, from_length, List.length_cons, List.length_nil]; omega) (by simp only [maxLen, List.length_append, from_length, List.length_cons, List.length_nil]; omega) rfl fun v84 => ?_
          refine WL_step (S_plain O_nilCheckv ⟨T1 rfl, trivial⟩ rfl rfl) ?_
          refine WL_step (S_plain (O_fieldv tf66_1) ⟨T1 rfl, trivial⟩ rfl rfl) ?_
          refine WL_store 0 rfl ⟨T1 rfl, T1 rfl, trivial⟩ (CellsOf.one OneV.slvv) sz42 (Nat.le_of_ble_eq_true rfl) ?_
          refine WL_nil ?_
          refine Fin_block ?_
          refine Fin_then ?_
          refine W_region ?_  -- R19 l1_kin.go:155
          refine WL_step (S_plain (O_add (by omega)) ⟨T1 rfl, C1, trivial⟩ rfl rfl) ?_
          refine WL_mv rfl rfl ?_
          refine WL_nil ?_
          exact Fin_backp [0, 1] (y.1 + 1, v84) (by simp only; omega) (by simp only; omega) ⟨⟨rfl, _, rfl, (by first | exact Imp.refl | exact Imp.slv | exact Imp.nil | exact Imp.int (by omega) | exact Imp.int (by simp; done) | exact Imp.bool (by simp_all; done))⟩, trivial⟩ ⟨rfl, rfl, rfl, rfl, rfl, trivial⟩ (.cons ⟨Imp.refl, Imp.eq (by simp [from_, List.range_succ]), trivial⟩ (.cons AllImp.refl OSub.nil)) rfl (List.Sublist.refl _) rfl
        · skip
          try simp only [bl] at h3
          refine W_exit ?_
          refine Fin_then_exit ?_
          refine Fin_then_exit ?_
          refine Fin_block_exit ?_
          refine Fin_block ?_
          refine Fin_then ?_
          refine W_region ?_  -- R3 l1_kin.go:144
          refine WL_mv rfl rfl ?_
          refine WL_step (S_plain O_nilCheckv ⟨T1 rfl, trivial⟩ rfl rfl) ?_
          refine WL_step (S_plain (O_fieldv tf66_0) ⟨T1 rfl, trivial⟩ rfl rfl) ?_
          refine WL_step (S_plain (O_loado 0 ta59 rfl rfl) ⟨T1 rfl, trivial⟩ rfl rfl) ?_
          refine WL_mv rfl rfl ?_
          refine WL_step (S_plain (O_index ts59 (by omega)) ⟨T1 rfl, T1 rfl, trivial⟩ rfl rfl) ?_
          refine WL_step (S_plain (O_field tf62_2) ⟨T1 rfl, trivial⟩ rfl rfl) ?_
          refine WL_step (S_plain (O_load ta3) ⟨T1 rfl, trivial⟩ rfl rfl) ?_
          refine WL_as rfl rfl ?_
          refine WL_nil ?_
          exact Fin_backp [0] (x.1 + 1, y.2) (by omega) (by omega) ⟨⟨rfl, _, rfl, (Imp.int (c6.trans (kbeg_step hlt).symm))⟩, trivial⟩ ⟨rfl, rfl, trivial⟩ (.cons ⟨Imp.refl, Imp.eq (by rw [show y.1 = (idx G (x.1 : Int)).length from by omega]; rfl), trivial⟩ OSub.nil) rfl (List.Sublist.refl _) rfl
  · skip
    try simp only [bl] at h0
    have hend : x.1 = G.length := by rcases Nat.lt_or_ge x.1 G.length with q | q; (have q1 := grp_end G x.1 q; have q2 := List.length_pos_iff.2 (hne _ (idx_mem (L := G) (n := (x.1 : Int)) (by omega) (by omega))); omega); omega
    refine W_exit ?_
    refine Fin_then_exit ?_
    refine Fin_then_exit ?_
    refine Fin_block_exit ?_
    exact RetXs [0] () rfl (Res0 rfl) (.cons ⟨Imp.refl, Imp.trans Imp.slv (Imp.eq (by unfold canonL; rw [hend])), trivial⟩ .nil) rfl (List.nil_sublist _) (List.nil_sublist _)
end Go.Proofs.Ytilddfgifjejbaa
