import Derived.Test.YtfjggobjijeniaaRows
import Derived.Test.YtfjggobjijeniaaWalk3
import Derived.Test.YtfjggobjijeniaaWalk2
import Derived.Test.YtfjggobjijeniaaPure1
import Derived.Test.YtfjggobjijeniaaPure2
import Derived.Test.YtfjggobjijeniaaPure3
import Derived.Test.YtfjggobjijeniaaA1
import Derived.Test.YtfjggobjijeniaaA5
namespace Go.Proofs.Ytfjggobjijeniaa.A6
open Go Go.RowKit Go.L
theorem mix : Try.prog.follows .mixedOrders = true := by kernel_rfl
theorem cf143 : CallF Try.prog 143 := fun w vs => by kernel_rfl
theorem sz156 : sizeAt Try.prog 156 = some 6 := by kernel_rfl
theorem sz203 : sizeAt Try.prog 203 = some 16 := by kernel_rfl
theorem sz206 : sizeAt Try.prog 206 = some 129 := by kernel_rfl
theorem sz62 : sizeAt Try.prog 62 = some 1 := by kernel_rfl
theorem ta108 : TA Try.prog 108 := by unfold TA; kernel_rfl
theorem ta3 : TA Try.prog 3 := by unfold TA; kernel_rfl
theorem ta62 : TA Try.prog 62 := by unfold TA; kernel_rfl
theorem tar204 : TAr Try.prog 204 8 203 16 := ⟨by kernel_rfl, by kernel_rfl⟩
theorem tb206 : TB Try.prog 206 [.int .i64 0, .int .i64 0, .int .i64 0, .bool false, .int .i64 0, .int .i64 0, .int .i64 0, .bool false, .int .i64 0, .int .i64 0, .bool false, .int .i64 0, .int .i64 0, .bool false, .int .i64 0, .int .i64 0, .bool false, .int .i64 0, .int .i64 0, .bool false, .int .i64 0, .int .i64 0, .int .i64 0, .bool false, .int .i64 0, .int .i64 0, .bool false, .int .i64 0, .int .i64 0, .bool false, .int .i64 0, .int .i64 0, .bool false, .int .i64 0, .int .i64 0, .bool false, .int .i64 0, .int .i64 0, .int .i64 0, .bool false, .int .i64 0, .int .i64 0, .bool false, .int .i64 0, .int .i64 0, .bool false, .int .i64 0, .int .i64 0, .bool false, .int .i64 0, .int .i64 0, .bool false, .int .i64 0, .int .i64 0, .int .i64 0, .bool false, .int .i64 0, .int .i64 0, .bool false, .int .i64 0, .int .i64 0, .bool false, .int .i64 0, .int .i64 0, .bool false, .int .i64 0, .int .i64 0, .bool false, .int .i64 0, .int .i64 0, .int .i64 0, .bool false, .int .i64 0, .int .i64 0, .bool false, .int .i64 0, .int .i64 0, .bool false, .int .i64 0, .int .i64 0, .bool false, .int .i64 0, .int .i64 0, .bool false, .int .i64 0, .int .i64 0, .int .i64 0, .bool false, .int .i64 0, .int .i64 0, .bool false, .int .i64 0, .int .i64 0, .bool false, .int .i64 0, .int .i64 0, .bool false, .int .i64 0, .int .i64 0, .bool false, .int .i64 0, .int .i64 0, .int .i64 0, .bool false, .int .i64 0, .int .i64 0, .bool false, .int .i64 0, .int .i64 0, .bool false, .int .i64 0, .int .i64 0, .bool false, .int .i64 0, .int .i64 0, .bool false, .int .i64 0, .int .i64 0, .int .i64 0, .bool false, .int .i64 0, .int .i64 0, .bool false, .int .i64 0, .int .i64 0, .bool false, .int .i64 0, .int .i64 0, .bool false] [(0, 1), (1, 128)] := ⟨by kernel_rfl, by kernel_rfl⟩
theorem tez62 : TEZ Try.prog 62 3 1 8 [.int .i64 0] := ⟨by kernel_rfl, by kernel_rfl⟩
theorem te62 : TE Try.prog 62 3 1 8 := tez62.te rfl
theorem tf110_0 : TF Try.prog 110 0 0 := by unfold TF; kernel_rfl
theorem tf110_1 : TF Try.prog 110 1 1 := by unfold TF; kernel_rfl
theorem tf156_2 : TF Try.prog 156 2 5 := by unfold TF; kernel_rfl
theorem tf206_1 : TF Try.prog 206 1 1 := by unfold TF; kernel_rfl
theorem tg156 : TG Try.prog 156 6 := ⟨by kernel_rfl, by kernel_rfl⟩
theorem tg206 : TG Try.prog 206 129 := ⟨by kernel_rfl, by kernel_rfl⟩
theorem ts108 : TS Try.prog 108 156 6 := ⟨by kernel_rfl, by kernel_rfl⟩
theorem tz156 : TZ Try.prog 156 [.int .i64 0, .int .i64 0, .bool false, .slice none 0 0, .int .i64 0, .int .i64 0] := by unfold TZ; kernel_rfl
theorem tz206 : TZ Try.prog 206 [.int .i64 0, .int .i64 0, .int .i64 0, .bool false, .int .i64 0, .int .i64 0, .int .i64 0, .bool false, .int .i64 0, .int .i64 0, .bool false, .int .i64 0, .int .i64 0, .bool false, .int .i64 0, .int .i64 0, .bool false, .int .i64 0, .int .i64 0, .bool false, .int .i64 0, .int .i64 0, .int .i64 0, .bool false, .int .i64 0, .int .i64 0, .bool false, .int .i64 0, .int .i64 0, .bool false, .int .i64 0, .int .i64 0, .bool false, .int .i64 0, .int .i64 0, .bool false, .int .i64 0, .int .i64 0, .int .i64 0, .bool false, .int .i64 0, .int .i64 0, .bool false, .int .i64 0, .int .i64 0, .bool false, .int .i64 0, .int .i64 0, .bool false, .int .i64 0, .int .i64 0, .bool false, .int .i64 0, .int .i64 0, .int .i64 0, .bool false, .int .i64 0, .int .i64 0, .bool false, .int .i64 0, .int .i64 0, .bool false, .int .i64 0, .int .i64 0, .bool false, .int .i64 0, .int .i64 0, .bool false, .int .i64 0, .int .i64 0, .int .i64 0, .bool false, .int .i64 0, .int .i64 0, .bool false, .int .i64 0, .int .i64 0, .bool false, .int .i64 0, .int .i64 0, .bool false, .int .i64 0, .int .i64 0, .bool false, .int .i64 0, .int .i64 0, .int .i64 0, .bool false, .int .i64 0, .int .i64 0, .bool false, .int .i64 0, .int .i64 0, .bool false, .int .i64 0, .int .i64 0, .bool false, .int .i64 0, .int .i64 0, .bool false, .int .i64 0, .int .i64 0, .int .i64 0, .bool false, .int .i64 0, .int .i64 0, .bool false, .int .i64 0, .int .i64 0, .bool false, .int .i64 0, .int .i64 0, .bool false, .int .i64 0, .int .i64 0, .bool false, .int .i64 0, .int .i64 0, .int .i64 0, .bool false, .int .i64 0, .int .i64 0, .bool false, .int .i64 0, .int .i64 0, .bool false, .int .i64 0, .int .i64 0, .bool false] := by unfold TZ; kernel_rfl
theorem tz3 : TZ Try.prog 3 [.int .i64 0] := by unfold TZ; kernel_rfl
end Go.Proofs.Ytfjggobjijeniaa.A6
namespace Go.Proofs.Ytfjggobjijeniaa
open Go Go.RowKit Go.L A6
theorem hz3 (w : World) : (zeroValue 3).run Try.prog w = .ok (.int .i64 0) w := by
  have hi : (Try.prog.info? 3).bind (·.zero) = some (.int .i64 0) := by kernel_rfl
  cases h : Try.prog.info? 3 with
  | none => rw [h] at hi; cases hi
  | some i => rw [h] at hi; simp at hi; simp [zeroValue, typeInfo, h, hi]
theorem mt101 : MapT Try.prog 200 206 3 := ⟨by kernel_rfl, Go.Maps.Keyed.of_law (deep_law_gate (by kernel_rfl) (Nat.le_of_ble_eq_true (by kernel_rfl)) (Nat.le_of_ble_eq_true (by kernel_rfl)) (by kernel_rfl) (by kernel_rfl))⟩
theorem kok107 {c : List Int} {R : List Row} (h : Fits kL (keyL c R)) : KeyOk Try.prog 206 (keyV c R) := keyOk_fits (l := kL) (by kernel_rfl) (by kernel_rfl) (by kernel_rfl) (by kernel_rfl) h
set_option maxRecDepth 8000 in
theorem impl_canonize (b : Nat) (G : Kin) (hG : Small G) (h8 : kcnt G ≤ 8) (hR : RowsOk G) (hne : ∀ g ∈ G, g ≠ []) : FnX Try.prog 97 { own := [(b, 110, [A.sl 6 cRow (krows G), A.val (.slice none 0 0)])] } [A.val (.pointer (some ⟨b, 0, none⟩))] (fun _ : Unit => A.any) (fun _ : Unit => { own := [(b, 110, kC (krows G) (canonL G))] }) := by
  have hkr := krows_cnt G
  skip
  refine FnX_of_W Try.func97 rfl rfl fun r w => ?_
  refine W_seq (W_region (WL_makeMap rfl fun m => ?_))
  refine WL_roomNil0 3 1 ?_
  refine WL_as rfl rfl ?_
  refine WL_nil (Fin_then (W_seq (W_region (WL_ac rfl ?_))))
  refine WL_nil (Fin_then (W_block (W_loopp [0, 2] [0] [0] [0] (T := Nat × Value) (fun x => x.1 ≤ G.length) (fun x => [(3, true, A.int (kbeg G (x.1 : Int)))]) (fun x => { own := [(b, 110, [A.sl 6 cRow (krows G), A.slv x.2 1 cInt (cst G x.1).1])], rooms := [(x.2, 3, 1)], maps := [(m, ints (cst G x.1).2)] }) (fun x => G.length - x.1) (0, .slice none 0 0) (by omega) ⟨⟨rfl, _, rfl, (Imp.int (kbeg_zero G))⟩, trivial⟩ (.cons ⟨Imp.refl, slv_nil, trivial⟩ OSub.nil) rfl rfl rfl (fun x hx => ?_))))
  have c1 := cst_len G x.1 hx
  have c2 := cst_canOk h8 x.1 hx
  have c3 := kbeg_nonneg G (x.1 : Int)
  have c4 := kbeg_le G (x.1 : Int)
  have c0 := kbeg_all G
  refine W_seq (W_seq (W_region (WL_mv rfl rfl ?_)))
  refine WL_mv rfl rfl ?_
  refine ws O_nilCheckv ⟨T1 rfl, trivial⟩ ?_
  refine ws (O_fieldv tf110_0) ⟨T1 rfl, trivial⟩ ?_
  refine ws (O_loado 0 ta108 rfl rfl) ⟨T1 rfl, trivial⟩ ?_
  refine WL_len ts108 rfl rfl fun hl17 => ?_
  refine ws O_lss ⟨T1 rfl, T1 rfl, trivial⟩ ?_
  refine WL_nil (Fin_then (W_cond rfl (fun h0 => ?_) (fun h0 => ?_)))
  · skip
    try simp only [bl] at h0
    have hlt : x.1 < G.length := by rcases Nat.lt_or_ge x.1 G.length with q | q; exact q; rw [show x.1 = G.length from by omega] at h0; omega
    have c5 := grp_end G x.1 hlt
    have hpos : 0 < (idx G (x.1 : Int)).length := List.length_pos_iff.2 (hne _ (idx_mem (by omega) (by omega)))
    have c8 := cst_first h8 hlt
    have c7 : (grows (kbeg G (x.1 : Int)) (idx G (x.1 : Int))).length = (idx G (x.1 : Int)).length := grows_len _ _
    have c6 : (idx (krows G) (kbeg G (x.1 : Int))).lim = kbeg G (x.1 : Int) + ((idx G (x.1 : Int)).length : Int) := by have := krows_idx hlt hpos; simp only [Int.natCast_zero, Int.add_zero] at this; rw [this]
    have hri : ∀ r ∈ grows (kbeg G (x.1 : Int)) (idx G (x.1 : Int)), RowIn (cst G x.1).1 r := fun r hr => by obtain ⟨n, _, q⟩ := hR.grp hlt r hr; obtain ⟨e1, e2⟩ := mem_grows hr; exact ⟨by omega, by omega, hG.rows (grows_sub hlt hr), rowOk_len q⟩
    have hfl : ∀ r ∈ grows (kbeg G (x.1 : Int)) (idx G (x.1 : Int)), r.t.fields.length ≤ 4 := fun r hr => (hri r hr).len
    refine W_skip (Fin_then (W_seq (W_block (W_seq (W_draw 14 mix rfl rfl ?_)))))
    refine cs O_move ⟨T1 rfl, trivial⟩ ?_
    refine cs O_nilCheckv ⟨T1 rfl, trivial⟩ ?_
    refine cs (O_fieldv tf110_0) ⟨T1 rfl, trivial⟩ ?_
    refine cs (O_loado 0 ta108 rfl rfl) ⟨T1 rfl, trivial⟩ ?_
    refine cs O_move ⟨T1 rfl, trivial⟩ ?_
    refine cs O_move ⟨T1 rfl, trivial⟩ ?_
    refine cs O_nilCheckv ⟨T1 rfl, trivial⟩ ?_
    refine cs (O_fieldv tf110_0) ⟨T1 rfl, trivial⟩ ?_
    refine cs (O_loado 0 ta108 rfl rfl) ⟨T1 rfl, trivial⟩ ?_
    refine cs O_move ⟨T1 rfl, trivial⟩ ?_
    refine cs (O_index ts108 (by omega)) ⟨T1 rfl, T1 rfl, trivial⟩ ?_
    refine cs (O_field tf156_2) ⟨T1 rfl, trivial⟩ ?_
    refine cs (O_load ta3) ⟨T1 rfl, trivial⟩ ?_
    refine cs (OpN.post (O_slice_lh ts108 (by omega)) (show Imp _ (A.sl 6 cRow (grows (kbeg G (x.1 : Int)) (idx G (x.1 : Int)))) from Imp.eq (by rw [c6, krows_slice hlt]))) ⟨T1 rfl, T1 rfl, T1 rfl, trivial⟩ ?_
    refine Chain_nil ?_
    refine WL_as rfl rfl ?_
    refine WL_nil (Fin_then (W_seq (W_region (WL_mv rfl rfl ?_))))
    refine WL_len ts108 rfl rfl fun hl42 => ?_
    refine ws (O_build [(_, _)] tb206 rfl ⟨(CellsOf.one OneV.int), trivial⟩ rfl) ⟨T1 rfl, trivial⟩ ?_
    refine WL_alloc tz206 rfl fun b5 => ?_
    refine WL_store 0 rfl ⟨T1 rfl, T1 rfl, trivial⟩ (CellsOf.agg (by exact ⟨OneV.int, OneV.int, OneV.int, OneV.bool, OneV.int, OneV.int, OneV.int, OneV.bool, OneV.int, OneV.int, OneV.bool, OneV.int, OneV.int, OneV.bool, OneV.int, OneV.int, OneV.bool, OneV.int, OneV.int, OneV.bool, OneV.int, OneV.int, OneV.int, OneV.bool, OneV.int, OneV.int, OneV.bool, OneV.int, OneV.int, OneV.bool, OneV.int, OneV.int, OneV.bool, OneV.int, OneV.int, OneV.bool, OneV.int, OneV.int, OneV.int, OneV.bool, OneV.int, OneV.int, OneV.bool, OneV.int, OneV.int, OneV.bool, OneV.int, OneV.int, OneV.bool, OneV.int, OneV.int, OneV.bool, OneV.int, OneV.int, OneV.int, OneV.bool, OneV.int, OneV.int, OneV.bool, OneV.int, OneV.int, OneV.bool, OneV.int, OneV.int, OneV.bool, OneV.int, OneV.int, OneV.bool, OneV.int, OneV.int, OneV.int, OneV.bool, OneV.int, OneV.int, OneV.bool, OneV.int, OneV.int, OneV.bool, OneV.int, OneV.int, OneV.bool, OneV.int, OneV.int, OneV.bool, OneV.int, OneV.int, OneV.int, OneV.bool, OneV.int, OneV.int, OneV.bool, OneV.int, OneV.int, OneV.bool, OneV.int, OneV.int, OneV.bool, OneV.int, OneV.int, OneV.bool, OneV.int, OneV.int, OneV.int, OneV.bool, OneV.int, OneV.int, OneV.bool, OneV.int, OneV.int, OneV.bool, OneV.int, OneV.int, OneV.bool, OneV.int, OneV.int, OneV.bool, OneV.int, OneV.int, OneV.int, OneV.bool, OneV.int, OneV.int, OneV.bool, OneV.int, OneV.int, OneV.bool, OneV.int, OneV.int, OneV.bool, trivial⟩)) sz206 (Nat.le_of_ble_eq_true rfl) ?_
    refine WL_nil (Fin_then (W_seq (W_seq (W_region (WL_mv rfl rfl ?_)))))
    refine WL_len ts108 rfl rfl fun hl45 => ?_
    refine WL_mc rfl ?_
    refine WL_nil (Fin_then (W_block (W_loopp [0, 2, 3, 4, 5, 44, 45] [0] [] [] (T := Nat) (fun i => i ≤ (idx G (x.1 : Int)).length) (fun i => [(46, true, A.int (i : Int))]) (fun i => { own := [(b5, 206, (keyTo (cst G x.1).1 (grows (kbeg G (x.1 : Int)) (idx G (x.1 : Int))) i).map A.val)], rooms := [], maps := [] }) (fun i => (idx G (x.1 : Int)).length - i) 0 (by omega) ⟨⟨rfl, _, rfl, (by first | exact Imp.refl | exact Imp.slv | exact Imp.nil | exact Imp.int (by omega) | exact Imp.int (by simp; done) | exact Imp.bool (by simp_all; done))⟩, trivial⟩ (.cons (AllImp.eq rfl) OSub.nil) rfl rfl rfl (fun i hx => ?_))))
    refine W_seq (W_region (ws O_lss ⟨T1 rfl, T1 rfl, trivial⟩ ?_))
    refine WL_nil (Fin_then (W_seq (W_cond rfl (fun h1 => ?_) (fun h1 => ?_))))
    · skip
      try simp only [bl] at h1
      refine W_skip (Fin_then (W_seq (W_block (W_seq (W_region (WL_mv rfl rfl ?_))))))
      refine ws (O_index ts108 (by omega)) ⟨T1 rfl, T1 rfl, trivial⟩ ?_
      refine ws (O_loadgw tg156 rfl) ⟨T1 rfl, trivial⟩ ?_
      refine WL_alloc tz156 rfl fun b7 => ?_
      refine WL_as rfl rfl ?_
      refine WL_store 0 rfl ⟨T1 rfl, T1 rfl, trivial⟩ (CellsOf.agg (by exact ⟨OneV.int, OneV.int, OneV.bool, OneV.sl, OneV.int, OneV.int, trivial⟩)) sz156 (Nat.le_of_ble_eq_true rfl) ?_
      refine WL_nil (Fin_then (W_region (WL_mv rfl rfl ?_)))
      refine WL_mv rfl rfl ?_
      refine ws (O_loadog 0 tg156 rfl (Nat.le_of_ble_eq_true rfl)) ⟨T1 rfl, trivial⟩ ?_
      refine ws (OpN.pureNw Pure.aggv (O_callL (us := [_, _]) [2] r (List.Mem.head _) cf143 (FnC.fnN Pure.aggv (impl_shapeOf (krows G) (cst G x.1).1 (idx (grows (kbeg G (x.1 : Int)) (idx G (x.1 : Int))) (i : Int)) c2 (hri _ (idx_mem (by omega) (by omega))))) rfl ⟨(Lend.op 0 rfl (by exact ⟨Imp.refl, Imp.slv, trivial⟩)), Lend.refl, trivial⟩)) ⟨T1 rfl, T1 rfl, trivial⟩ ?_
      refine ws (O_fieldv tf206_1) ⟨T1 rfl, trivial⟩ ?_
      refine ws (O_indexarro tar204 (by omega)) ⟨T1 rfl, T1 rfl, trivial⟩ ?_
      refine WL_store 1 rfl ⟨T1 rfl, T1 rfl, trivial⟩ (CellsOf.agg AllOne.shape) (by rw [List.length_map, shapeV_len (hfl _ (idx_mem (by omega) (by omega)))]; exact sz203) (by rw [List.length_map, List.length_map, shapeV_len (hfl _ (idx_mem (by omega) (by omega))), keyTo_len hfl (by omega) (by omega)]; omega) ?_
      refine WL_nil (Fin_block (Fin_then (W_region (ws (O_add (by omega)) ⟨T1 rfl, C1, trivial⟩ ?_))))
      refine WL_mv rfl rfl ?_
      exact WL_nil (Fin_backp [1, 2] (i + 1) (by omega) (by omega) ⟨⟨rfl, _, rfl, (by first | exact Imp.refl | exact Imp.slv | exact Imp.nil | exact Imp.int (by omega) | exact Imp.int (by simp; done) | exact Imp.bool (by simp_all; done))⟩, trivial⟩ ⟨rfl, rfl, rfl, rfl, rfl, rfl, rfl, trivial⟩ (.cons (AllImp.eq (key_step hfl (by rw [grows_len]; omega) (by rw [grows_len]; omega))) (.cons AllImp.refl OSub.nil)) rfl (List.Sublist.refl _) rfl)
    try simp only [bl] at h1
    refine W_exit (Fin_then_exit (Fin_then_exit (Fin_block_exit (Fin_then (W_seq (W_region (WL_mv rfl rfl ?_)))))))
    refine ws (OpN.post (O_loadog 0 tg206 rfl (by simp [keyTo_len hfl (i := i) (by rw [grows_len]; omega) (by rw [grows_len]; omega)]; try omega)) (show Imp _ (A.val (keyV (cst G x.1).1 (grows (kbeg G (x.1 : Int)) (idx G (x.1 : Int))))) from Imp.trans (Imp.agg (l := (keyL (cst G x.1).1 (grows (kbeg G (x.1 : Int)) (idx G (x.1 : Int)))).map A.val) (AllImp.eq (by rw [show i = (grows (kbeg G (x.1 : Int)) (idx G (x.1 : Int))).length from by rw [grows_len]; omega, List.drop_zero, List.take_of_length_le (by rw [List.length_map, keyTo_len hfl (Nat.le_refl _) (by omega)]; exact Nat.le_refl _)]; rfl))) Imp.aggval)) ⟨T1 rfl, trivial⟩ ?_
    refine WL_lookupI 0 mt101 (fun w => hz3 w) ⟨T1 rfl, T1 rfl, trivial⟩ rfl (fun y hy => by obtain ⟨j, hj, rfl⟩ := (cIn G x.1).ent y hy; exact kok107 (key_fits h8 hR (by omega))) (cIn G x.1).keys (kok107 (key_fits h8 hR (by omega))) rfl ?_
    refine WL_mv rfl rfl ?_
    refine ws (O_extract rfl) ⟨T1 rfl, trivial⟩ ?_
    refine ws (O_extract rfl) ⟨T1 rfl, trivial⟩ ?_
    refine WL_as rfl rfl ?_
    refine WL_as rfl rfl ?_
    refine WL_nil (Fin_then (W_seq (W_seq (W_region (WL_mv rfl rfl ?_)))))
    refine ws O_not ⟨T1 rfl, trivial⟩ ?_
    refine WL_nil (Fin_then (W_cut2 [0, 2, 3, 4] [] [] [0] (T := Unit) (fun _u => True) (fun _u => [(8, true, A.int ((mfind (cst G x.1).2 (keyV (cst G x.1).1 (grows (kbeg G (x.1 : Int)) (idx G (x.1 : Int))))).getD (kbeg G (x.1 : Int))))]) (fun _u => { own := [], rooms := [], maps := [(m, ints (cst G (x.1 + 1)).2)] }) ?_ (fun _u hx => ?_)))
    · skip
      refine W_cond rfl (fun h2 => ?_) (fun h2 => ?_)
      · skip
        try simp only [bl] at h2
        refine W_seq (W_region (WL_mv rfl rfl ?_))
        refine WL_as rfl rfl ?_
        refine WL_nil (Fin_then (W_region (WL_mv rfl rfl ?_)))
        refine ws (OpN.post (O_loadog 0 tg206 rfl (by simp [keyTo_len hfl (i := i) (by rw [grows_len]; omega) (by rw [grows_len]; omega)]; try omega)) (show Imp _ (A.val (keyV (cst G x.1).1 (grows (kbeg G (x.1 : Int)) (idx G (x.1 : Int))))) from Imp.trans (Imp.agg (l := (keyL (cst G x.1).1 (grows (kbeg G (x.1 : Int)) (idx G (x.1 : Int)))).map A.val) (AllImp.eq (by rw [show i = (grows (kbeg G (x.1 : Int)) (idx G (x.1 : Int))).length from by rw [grows_len]; omega, List.drop_zero, List.take_of_length_le (by rw [List.length_map, keyTo_len hfl (Nat.le_refl _) (by omega)]; exact Nat.le_refl _)]; rfl))) Imp.aggval)) ⟨T1 rfl, trivial⟩ ?_
        refine WL_mv rfl rfl ?_
        refine WL_mapPutI 0 mt101 ⟨T1 rfl, T1 rfl, T1 rfl, trivial⟩ rfl (fun y hy => by obtain ⟨j, hj, rfl⟩ := (cIn G x.1).ent y hy; exact kok107 (key_fits h8 hR (by omega))) (kok107 (key_fits h8 hR (by omega))) (by simpa using h2) ?_
        exact WL_nil (Fin_cut [0, 1] () (by first | trivial | omega) ⟨⟨rfl, _, rfl, (Imp.int (by simp at h2; rw [h2]; rfl))⟩, trivial⟩ ⟨rfl, rfl, rfl, rfl, trivial⟩ (.cons AllImp.refl (.cons AllImp.refl OSub.nil)) rfl (List.Sublist.refl _) (congrArg (fun z => [(m, ints z)]) (cst_no h2)))
      try simp only [bl] at h2
      exact W_skip (Fin_cut [0, 1] () (by first | trivial | omega) ⟨⟨rfl, _, rfl, (Imp.int (by obtain ⟨a, ha⟩ := Option.isSome_iff_exists.1 h2; rw [ha]; rfl))⟩, trivial⟩ ⟨rfl, rfl, rfl, rfl, trivial⟩ (.cons AllImp.refl (.cons AllImp.refl OSub.nil)) rfl (List.Sublist.refl _) (congrArg (fun z => [(m, ints z)]) (cst_yes h2)))
    refine W_seq (W_region (WL_mv rfl rfl ?_))
    refine WL_len ts108 rfl rfl fun hl71 => ?_
    refine WL_mc rfl ?_
    refine WL_nil (Fin_then (W_block (W_loopp [0, 2, 3, 8, 71] [1] [0] [] (T := Nat × Value) (fun y => y.1 ≤ (idx G (x.1 : Int)).length) (fun y => [(72, true, A.int (y.1 : Int))]) (fun y => { own := [(b, 110, [A.sl 6 cRow (krows G), A.slv y.2 1 cInt ((cst G x.1).1 ++ from_ ((mfind (cst G x.1).2 (keyV (cst G x.1).1 (grows (kbeg G (x.1 : Int)) (idx G (x.1 : Int))))).getD (kbeg G (x.1 : Int))) y.1)])], rooms := [(y.2, 3, 1)], maps := [] }) (fun y => (idx G (x.1 : Int)).length - y.1) (0, x.2) (by omega) ⟨⟨rfl, _, rfl, (by first | exact Imp.refl | exact Imp.slv | exact Imp.nil | exact Imp.int (by omega) | exact Imp.int (by simp; done) | exact Imp.bool (by simp_all; done))⟩, trivial⟩ (.cons ⟨Imp.refl, Imp.eq (by simp [from_]), trivial⟩ OSub.nil) rfl rfl rfl (fun y hx => ?_))))
    refine W_seq (W_region (ws O_lss ⟨T1 rfl, T1 rfl, trivial⟩ ?_))
    refine WL_nil (Fin_then (W_seq (W_cond rfl (fun h3 => ?_) (fun h3 => ?_))))
    · skip
      try simp only [bl] at h3
      refine W_skip (Fin_then (W_seq (W_block (W_seq (W_region (WL_mv rfl rfl ?_))))))
      refine WL_as rfl rfl ?_
      refine WL_nil (Fin_then (W_region (WL_mv rfl rfl ?_)))
      refine WL_mv rfl rfl ?_
      refine ws O_nilCheckv ⟨T1 rfl, trivial⟩ ?_
      refine ws (O_fieldv tf110_1) ⟨T1 rfl, trivial⟩ ?_
      refine ws (O_loado 0 ta62 rfl rfl) ⟨T1 rfl, trivial⟩ ?_
      refine WL_mv rfl rfl ?_
      refine WL_mv rfl rfl ?_
      refine ws (O_add (by omega)) ⟨T1 rfl, T1 rfl, trivial⟩ ?_
      refine ws (O_slice1 (f := cInt) _ te62 rfl rfl (CellsOf.one OneV.int) AllImp.refl) ⟨T1 rfl, trivial⟩ ?_
      refine WL_append 0 _ te62 ⟨T1 rfl, T1 rfl, trivial⟩ rfl (by decide) (fun _ => rfl) (fun _ => rfl) (fun _ => ⟨OneV.int, trivial⟩) rfl (by simp only [List.length_append, from_length, List.length_cons, List.length_nil]; omega) (by simp only [maxLen, List.length_append, from_length, List.length_cons, List.length_nil]; omega) rfl fun v84 => ?_
      refine ws O_nilCheckv ⟨T1 rfl, trivial⟩ ?_
      refine ws (O_fieldv tf110_1) ⟨T1 rfl, trivial⟩ ?_
      refine WL_store 0 rfl ⟨T1 rfl, T1 rfl, trivial⟩ (CellsOf.one OneV.slvv) sz62 (Nat.le_of_ble_eq_true rfl) ?_
      refine WL_nil (Fin_block (Fin_then (W_region (ws (O_add (by omega)) ⟨T1 rfl, C1, trivial⟩ ?_))))
      refine WL_mv rfl rfl ?_
      exact WL_nil (Fin_backp [0, 1] (y.1 + 1, v84) (by simp only; omega) (by simp only; omega) ⟨⟨rfl, _, rfl, (by first | exact Imp.refl | exact Imp.slv | exact Imp.nil | exact Imp.int (by omega) | exact Imp.int (by simp; done) | exact Imp.bool (by simp_all; done))⟩, trivial⟩ ⟨rfl, rfl, rfl, rfl, rfl, trivial⟩ (.cons ⟨Imp.refl, Imp.eq (by simp [from_, List.range_succ]), trivial⟩ (.cons AllImp.refl OSub.nil)) rfl (List.Sublist.refl _) rfl)
    try simp only [bl] at h3
    refine W_exit (Fin_then_exit (Fin_then_exit (Fin_block_exit (Fin_block (Fin_then (W_region (WL_mv rfl rfl ?_)))))))
    refine ws O_nilCheckv ⟨T1 rfl, trivial⟩ ?_
    refine ws (O_fieldv tf110_0) ⟨T1 rfl, trivial⟩ ?_
    refine ws (O_loado 0 ta108 rfl rfl) ⟨T1 rfl, trivial⟩ ?_
    refine WL_mv rfl rfl ?_
    refine ws (O_index ts108 (by omega)) ⟨T1 rfl, T1 rfl, trivial⟩ ?_
    refine ws (O_field tf156_2) ⟨T1 rfl, trivial⟩ ?_
    refine ws (O_load ta3) ⟨T1 rfl, trivial⟩ ?_
    refine WL_as rfl rfl ?_
    exact WL_nil (Fin_backp [0] (x.1 + 1, y.2) (by omega) (by omega) ⟨⟨rfl, _, rfl, (Imp.int (c6.trans (kbeg_step hlt).symm))⟩, trivial⟩ ⟨rfl, rfl, trivial⟩ (.cons ⟨Imp.refl, Imp.eq (by rw [show y.1 = (idx G (x.1 : Int)).length from by omega]; rfl), trivial⟩ OSub.nil) rfl (List.Sublist.refl _) rfl)
  try simp only [bl] at h0
  have hend : x.1 = G.length := by rcases Nat.lt_or_ge x.1 G.length with q | q; (have q1 := grp_end G x.1 q; have q2 := List.length_pos_iff.2 (hne _ (idx_mem (L := G) (n := (x.1 : Int)) (by omega) (by omega))); omega); omega
  exact W_exit (Fin_then_exit (Fin_then_exit (Fin_block_exit (RetXs [0] () rfl (Res0 rfl) (.cons ⟨Imp.refl, Imp.trans Imp.slv (Imp.eq (by unfold canonL; rw [hend])), trivial⟩ .nil) rfl (List.nil_sublist _) (List.nil_sublist _)))))
end Go.Proofs.Ytfjggobjijeniaa
