import Derived.Test.YtfjggobjijeniaaRows
import Derived.Test.YtfjggobjijeniaaWalk3
import Derived.Test.YtfjggobjijeniaaWalk2
import Derived.Test.YtfjggobjijeniaaPure6
import Derived.Test.YtfjggobjijeniaaPure7
import Derived.Test.YtfjggobjijeniaaPure8
import Derived.Test.YtfjggobjijeniaaA1
import Derived.Test.YtfjggobjijeniaaA2
import Derived.Test.YtfjggobjijeniaaA3
import Derived.Test.YtfjggobjijeniaaA4
import Derived.Test.YtfjggobjijeniaaA8
import Derived.Test.YtfjggobjijeniaaA16
namespace Go.Proofs.Ytfjggobjijeniaa.A17
open Go Go.RowKit Go.L
theorem mix : Try.prog.follows .mixedOrders = true := by kernel_rfl
theorem cf159 : CallF Try.prog 159 := fun w vs => by kernel_rfl
theorem cf165 : CallF Try.prog 165 := fun w vs => by kernel_rfl
theorem cf21 : CallF Try.prog 21 := fun w vs => by kernel_rfl
theorem cf22 : CallF Try.prog 22 := fun w vs => by kernel_rfl
theorem cf23 : CallF Try.prog 23 := fun w vs => by kernel_rfl
theorem cf24 : CallF Try.prog 24 := fun w vs => by kernel_rfl
theorem cf25 : CallF Try.prog 25 := fun w vs => by kernel_rfl
theorem sz53 : sizeAt Try.prog 53 = some 3 := by kernel_rfl
theorem ta50 : TA Try.prog 50 := by unfold TA; kernel_rfl
theorem ta62 : TA Try.prog 62 := by unfold TA; kernel_rfl
theorem tez50 : TEZ Try.prog 50 37 3 24 [.int .i64 0, .int .i64 0, .bool false] := ⟨by kernel_rfl, by kernel_rfl⟩
theorem te50 : TE Try.prog 50 37 3 24 := tez50.te rfl
theorem tez62 : TEZ Try.prog 62 3 1 8 [.int .i64 0] := ⟨by kernel_rfl, by kernel_rfl⟩
theorem te62 : TE Try.prog 62 3 1 8 := tez62.te rfl
theorem tg47 : TG Try.prog 47 3 := ⟨by kernel_rfl, by kernel_rfl⟩
theorem tg53 : TG Try.prog 53 3 := ⟨by kernel_rfl, by kernel_rfl⟩
theorem ts225 : TS Try.prog 225 50 1 := ⟨by kernel_rfl, by kernel_rfl⟩
theorem ts231 : TS Try.prog 231 62 1 := ⟨by kernel_rfl, by kernel_rfl⟩
theorem ts50 : TS Try.prog 50 37 3 := ⟨by kernel_rfl, by kernel_rfl⟩
theorem ts62 : TS Try.prog 62 3 1 := ⟨by kernel_rfl, by kernel_rfl⟩
theorem tz53 : TZ Try.prog 53 [.slice none 0 0, .slice none 0 0, .slice none 0 0] := by unfold TZ; kernel_rfl
theorem ub4 : Try.prog.underlying 4 = some .bool := by kernel_rfl
end Go.Proofs.Ytfjggobjijeniaa.A17
namespace Go.Proofs.Ytfjggobjijeniaa
open Go Go.RowKit Go.L A17
set_option maxRecDepth 8000 in
theorem law_ProgOk (p : Prg) (hr : ∀ g ∈ p.types, ∀ t ∈ g, TyOk t) : FnC Try.prog 5 [A.agg (cProg p)] (A.bool true) := by
  refine Fn_of_W Try.func5 rfl rfl fun r w => ?_
  refine W_seq (W_region (ws O_boxg ⟨T1 rfl, trivial⟩ ?_))
  refine WL_ac rfl ?_
  refine WL_nil (Fin_then (W_seq (W_region (WL_ac rfl ?_))))
  refine WL_nil (Fin_then (W_seq (W_region (ws (O_loadgw tg47 rfl) ⟨T1 rfl, trivial⟩ ?_))))
  refine WL_mv rfl rfl ?_
  refine ws (O_call cf21 (laws_szProg _ _ (by omega) (by omega)) rfl) ⟨T1 rfl, T1 rfl, trivial⟩ ?_
  refine WL_as rfl rfl ?_
  refine WL_nil (Fin_then (W_seq (W_seq (W_region (WL_mv rfl rfl ?_)))))
  refine ws O_lss ⟨T1 rfl, C1, trivial⟩ ?_
  refine WL_nil (Fin_then (W_cond rfl (fun h0 => ?_) (fun h0 => ?_)))
  · skip
    simp only [decide_eq_true_eq, decide_eq_false_iff_not] at h0
    refine W_seq (W_region (WL_ac rfl ?_))
    exact WL_nil (Fin_then (W_ret (Fin_then_ret (RetC rfl (Res1 rfl (RV.tmp rfl (by first | exact Imp.refl | exact Imp.slv | exact Imp.nil | exact Imp.int (by omega) | exact Imp.int (by simp; done) | exact Imp.bool (by simp_all; done))))))))
  simp only [decide_eq_true_eq, decide_eq_false_iff_not] at h0
  have hn0 : neg1 (1048576 - (bProg p : Int)) = 1048576 - (bProg p : Int) := by unfold neg1 at *; split at h0 <;> grind
  rw [hn0] at h0
  have hbp : bProg p ≤ 1048576 := by omega
  have hup : bProg p = bKin p.types + p.glob.length + bFuns p.funs := rfl
  have hb : bKin p.types ≤ 1048576 := by omega
  have hG := small_of hb hr
  refine W_skip (Fin_then (W_seq (W_region (ws (O_loadgw tg47 rfl) ⟨T1 rfl, trivial⟩ ?_))))
  refine ws (O_call cf23 (FnN.fnC (laws_toProg _ (by omega))) rfl) ⟨T1 rfl, trivial⟩ ?_
  refine ws (O_call cf22 (spec_ProgOk _ (by assumption)) rfl) ⟨T1 rfl, trivial⟩ ?_
  refine WL_as rfl rfl ?_
  refine WL_nil (Fin_then (W_seq (W_region (ws (O_loadgw tg47 rfl) ⟨T1 rfl, trivial⟩ ?_))))
  refine ws (O_call cf23 (FnN.fnC (laws_toProg _ (by omega))) rfl) ⟨T1 rfl, trivial⟩ ?_
  refine WL_alloc tz53 rfl fun b5 => ?_
  refine WL_store 0 rfl ⟨T1 rfl, T1 rfl, trivial⟩ (CellsOf.agg (by exact ⟨OneV.sl, OneV.sl, OneV.sl, trivial⟩)) sz53 (Nat.le_of_ble_eq_true rfl) ?_
  refine WL_nil (Fin_then (W_seq (W_region (ws (O_loadog 0 tg53 rfl (Nat.le_of_ble_eq_true rfl)) ⟨T1 rfl, trivial⟩ ?_))))
  refine ws (O_call cf24 (impl_ProgOk _ (by assumption)) rfl) ⟨T1 rfl, trivial⟩ ?_
  refine WL_as rfl rfl ?_
  refine WL_nil (Fin_then (W_seq (W_seq (W_region (WL_mv rfl rfl ?_)))))
  refine WL_mv rfl rfl ?_
  refine ws (O_neb ub4) ⟨T1 rfl, T1 rfl, trivial⟩ ?_
  refine WL_nil (Fin_then (W_cond rfl (fun h1 => ?_) (fun h1 => ?_)))
  · skip
    exfalso; simp at h1
  refine W_skip (Fin_then (W_seq (W_seq (W_draw 5 mix rfl rfl ?_))))
  refine cs (O_loadog 0 tg53 rfl (Nat.le_of_ble_eq_true rfl)) ⟨T1 rfl, trivial⟩ ?_
  refine cs (O_loadgw tg47 rfl) ⟨T1 rfl, trivial⟩ ?_
  refine cs (O_call cf23 (FnN.fnC (laws_toProg _ (by omega))) rfl) ⟨T1 rfl, trivial⟩ ?_
  refine cs (O_call cf25 (laws_eqProg _ _) rfl) ⟨T1 rfl, T1 rfl, trivial⟩ ?_
  refine cs O_not ⟨T1 rfl, trivial⟩ ?_
  refine Chain_nil ?_
  refine WL_nil (Fin_then (W_cond rfl (fun h2 => ?_) (fun h2 => ?_)))
  · skip
    exfalso; simp at h2
  refine W_skip (Fin_then (W_seq (W_region (WL_ac rfl ?_))))
  exact WL_nil (Fin_then (W_ret (RetC rfl (Res1 rfl (RV.tmp rfl (by first | exact Imp.refl | exact Imp.slv | exact Imp.nil | exact Imp.int (by omega) | exact Imp.int (by simp; done) | exact Imp.bool (by simp_all; done)))))))
set_option maxRecDepth 8000 in
theorem growF (n : Int) (h0 : 0 ≤ n) (h1 : n ≤ 1099511627776) : FnX Try.prog 159 {} [A.val (.slice none 0 0), A.int n] (fun v : Value => A.slv v 3 cFld []) (fun v : Value => { rooms := [(v, 37, 3)] }) := by
  refine FnX_of_W Try.func159 rfl rfl fun r w => ?_
  refine W_seq (W_region (WL_ac rfl ?_))
  refine WL_nil (Fin_then (W_seq (W_seq (W_region (WL_mv rfl rfl ?_)))))
  refine WL_roomNil0 37 3 ?_
  refine ws O_lss ⟨T1 rfl, C1, trivial⟩ ?_
  refine WL_nil (Fin_then (W_cond rfl (fun h0 => ?_) (fun h0 => ?_)))
  · skip
    try simp only [bl] at h0
    exfalso; omega
  try simp only [bl] at h0
  refine W_skip (Fin_then (W_seq (W_seq (W_region (WL_mv rfl rfl ?_)))))
  refine WL_mv rfl rfl ?_
  refine ws (O_capv ts50) ⟨T1 rfl, trivial⟩ ?_
  refine WL_mv rfl rfl ?_
  refine ws (O_lenv ts50) ⟨T1 rfl, trivial⟩ ?_
  refine ws (O_sub (by omega)) ⟨T1 rfl, T1 rfl, trivial⟩ ?_
  refine ws (O_sub (by omega)) ⟨T1 rfl, T1 rfl, trivial⟩ ?_
  refine WL_as rfl rfl ?_
  refine WL_nil (Fin_then (W_seq (W_region (WL_mv rfl rfl ?_))))
  refine ws O_gtr ⟨T1 rfl, C1, trivial⟩ ?_
  refine WL_nil (Fin_then (W_cut2 [] [] [0] [] (T := Value) (fun v => True) (fun v => [(0, true, A.slv v 3 cFld [])]) (fun v => { own := [], rooms := [(v, 37, 3)], maps := [] }) ?_ (fun v hx => ?_)))
  · skip
    refine W_cond rfl (fun h1 => ?_) (fun h1 => ?_)
    · skip
      try simp only [bl] at h1
      refine W_region (WL_mv rfl rfl ?_)
      refine WL_mv rfl rfl ?_
      refine ws (O_capv ts50) ⟨T1 rfl, trivial⟩ ?_
      refine ws (O_slice0n ts50) ⟨T1 rfl, T1 rfl, trivial⟩ ?_
      refine WL_mv rfl rfl ?_
      refine WL_growZ te50 (by kernel_rfl) (by decide) ⟨T1 rfl, T1 rfl, trivial⟩ (by omega) (by omega) (by simp only [maxLen]; omega) rfl fun b22 cap22 hcap22 => ?_
      refine WL_mv rfl rfl ?_
      refine ws (O_lenv ts50) ⟨T1 rfl, trivial⟩ ?_
      refine ws (O_slice0v ts50) ⟨T1 rfl, T1 rfl, trivial⟩ ?_
      refine WL_imp 25 rfl (slv_room (f := cFld) (k := 3) hcap22) ?_
      refine WL_as rfl rfl ?_
      exact WL_nil (Fin_cut [] (.slice (some ⟨b22, 0, none⟩) 0 cap22) (by first | trivial | omega) ⟨⟨rfl, _, rfl, (by first | exact Imp.refl | exact Imp.slv | exact Imp.nil | exact Imp.int (by omega) | exact Imp.int (by simp; done) | exact Imp.bool (by simp_all; done))⟩, trivial⟩ trivial OSub.nil rfl (.cons_cons _ (.cons _ (.refl _))) rfl)
    try simp only [bl] at h1
    exact W_skip (Fin_cut [] (.slice none 0 0) (by first | trivial | omega) ⟨⟨rfl, _, rfl, slv_nil⟩, trivial⟩ trivial OSub.nil rfl (List.Sublist.refl _) rfl)
  refine W_seq (W_region (WL_mv rfl rfl ?_))
  refine WL_as rfl rfl ?_
  exact WL_nil (Fin_then (W_ret (RetXs [] v rfl (Res1 rfl (RV.tmp rfl Imp.refl)) OSub.refl rfl (List.Sublist.refl _) (List.Sublist.refl _))))
set_option maxRecDepth 8000 in
theorem concatF (L : List (List Fld)) (hs : L.flatten.length ≤ 1099511627776) (hl : L.length ≤ 1048576) : FnX Try.prog 120 {} [A.sl 1 cFlds L] (fun v : Value => A.slv v 3 cFld L.flatten) (fun v : Value => { rooms := [(v, 37, 3)] }) := by
  refine FnX_of_W Try.func120 rfl rfl fun r w => ?_
  refine W_seq (W_region (WL_ac rfl ?_))
  refine WL_nil (Fin_then (W_seq (W_region (WL_ac rfl ?_))))
  refine WL_nil (Fin_then (W_seq (W_seq (W_region (WL_mv rfl rfl ?_)))))
  refine WL_len ts225 rfl rfl fun hl10 => ?_
  refine WL_mc rfl ?_
  refine WL_nil (Fin_then (W_block (W_loopk [0, 9, 10] (T := Nat) (fun k => k ≤ L.length) (fun k => [(3, true, A.int ((L.take k).flatten.length : Int)), (11, true, A.int (k : Int))]) (fun k => L.length - k) 0 (by omega) ⟨⟨rfl, _, rfl, (by first | exact Imp.refl | exact Imp.slv | exact Imp.nil | exact Imp.int (by omega) | exact Imp.int (by simp; done) | exact Imp.bool (by simp_all; done))⟩, ⟨rfl, _, rfl, (by first | exact Imp.refl | exact Imp.slv | exact Imp.nil | exact Imp.int (by omega) | exact Imp.int (by simp; done) | exact Imp.bool (by simp_all; done))⟩, trivial⟩ (fun k hx => ?_))))
  have hf1 := flat_take_le L k
  have hf2 := fun h : k < L.length => flat_take_step L k h
  refine W_seq (W_region (ws O_lss ⟨T1 rfl, T1 rfl, trivial⟩ ?_))
  refine WL_nil (Fin_then (W_seq (W_cond rfl (fun h0 => ?_) (fun h0 => ?_))))
  · skip
    try simp only [bl] at h0
    have hf3 := hf2 (by omega)
    have hf5 := flat_take_le L (k + 1)
    refine W_skip (Fin_then (W_seq (W_block (W_seq (W_region (ws (O_index ts225 (by omega)) ⟨T1 rfl, T1 rfl, trivial⟩ ?_))))))
    refine ws (O_load ta50) ⟨T1 rfl, trivial⟩ ?_
    refine WL_as rfl rfl ?_
    refine WL_nil (Fin_then (W_seq (W_region (WL_mv rfl rfl ?_))))
    refine WL_mv rfl rfl ?_
    refine WL_len ts50 rfl rfl fun hl17 => ?_
    refine ws (O_add (by omega)) ⟨T1 rfl, T1 rfl, trivial⟩ ?_
    refine WL_as rfl rfl ?_
    refine WL_nil (Fin_then (W_seq (W_region (WL_mv rfl rfl ?_))))
    refine ws O_lss ⟨T1 rfl, C1, trivial⟩ ?_
    refine WL_nil (Fin_then (W_cond rfl (fun h1 => ?_) (fun h1 => ?_)))
    · skip
      try simp only [bl] at h1
      exfalso; omega
    try simp only [bl] at h1
    refine W_skip (Fin_block (Fin_then (W_region (ws (O_add (by omega)) ⟨T1 rfl, C1, trivial⟩ ?_))))
    refine WL_mv rfl rfl ?_
    refine WL_nil ?_
    have hf3 := hf2 (by omega)
    exact Fin_back (k + 1) (by omega) (by omega) ⟨⟨rfl, _, rfl, (Imp.int (by omega))⟩, ⟨rfl, _, rfl, (by first | exact Imp.refl | exact Imp.slv | exact Imp.nil | exact Imp.int (by omega) | exact Imp.int (by simp; done) | exact Imp.bool (by simp_all; done))⟩, trivial⟩ ⟨rfl, rfl, rfl, trivial⟩ rfl rfl
  try simp only [bl] at h0
  refine W_exit (Fin_then_exit (Fin_then_exit (Fin_block_exit (Fin_then (W_seq (W_region (WL_mv rfl rfl ?_)))))))
  refine WL_callX [] [] [] cf159 (growF _ (by omega) (by omega)) rfl ⟨C1, T1 rfl, trivial⟩ OSub.nil rfl rfl rfl rfl fun x24 => ?_
  refine WL_as rfl rfl ?_
  refine WL_nil (Fin_then (W_seq (W_seq (W_region (WL_mv rfl rfl ?_)))))
  refine WL_len ts225 rfl rfl fun hl26 => ?_
  refine WL_mc rfl ?_
  refine WL_nil (Fin_then (W_block (W_loopp [25, 26] [] [0] [] (T := Nat × Value) (fun x => x.1 ≤ L.length) (fun x => [(6, true, A.slv x.2 3 cFld (L.take x.1).flatten), (27, true, A.int (x.1 : Int))]) (fun x => { own := [], rooms := [(x.2, 37, 3)], maps := [] }) (fun x => L.length - x.1) (0, x24) (by omega) ⟨⟨rfl, _, rfl, (Imp.eq (by simp))⟩, ⟨rfl, _, rfl, (by first | exact Imp.refl | exact Imp.slv | exact Imp.nil | exact Imp.int (by omega) | exact Imp.int (by simp; done) | exact Imp.bool (by simp_all; done))⟩, trivial⟩ OSub.nil rfl rfl rfl (fun x hx => ?_))))
  have hf1 := flat_take_le L x.1
  have hf2 := fun h : x.1 < L.length => flat_take_step L x.1 h
  have hf4 := fun h : x.1 < L.length => flat_take_le L (x.1 + 1)
  refine W_seq (W_region (ws O_lss ⟨T1 rfl, T1 rfl, trivial⟩ ?_))
  refine WL_nil (Fin_then (W_seq (W_cond rfl (fun h2 => ?_) (fun h2 => ?_))))
  · skip
    try simp only [bl] at h2
    have hf3 := hf2 (by omega)
    have hf5 := hf4 (by omega)
    refine W_skip (Fin_then (W_seq (W_block (W_seq (W_region (ws (O_index ts225 (by omega)) ⟨T1 rfl, T1 rfl, trivial⟩ ?_))))))
    refine ws (O_load ta50) ⟨T1 rfl, trivial⟩ ?_
    refine WL_as rfl rfl ?_
    refine WL_nil (Fin_then (W_region (WL_mv rfl rfl ?_)))
    refine WL_mv rfl rfl ?_
    refine WL_append 0 _ te50 ⟨T1 rfl, T1 rfl, trivial⟩ rfl (by decide) (fun _ => rfl) (fun _ => rfl) (fun _ => ⟨OneV.int, OneV.int, OneV.bool, trivial⟩) rfl (by omega) (by simp only [maxLen]; omega) rfl fun v33 => ?_
    refine WL_as rfl rfl ?_
    refine WL_nil (Fin_block (Fin_then (W_region (ws (O_add (by omega)) ⟨T1 rfl, C1, trivial⟩ ?_))))
    refine WL_mv rfl rfl ?_
    exact WL_nil (Fin_backp [] (x.1 + 1, v33) (by omega) (by omega) ⟨⟨rfl, _, rfl, (Imp.eq (by rw [take_snoc (by omega : x.1 < _), List.flatten_append]; simp))⟩, ⟨rfl, _, rfl, (by first | exact Imp.refl | exact Imp.slv | exact Imp.nil | exact Imp.int (by omega) | exact Imp.int (by simp; done) | exact Imp.bool (by simp_all; done))⟩, trivial⟩ ⟨rfl, rfl, trivial⟩ OSub.nil rfl (List.Sublist.refl _) rfl)
  try simp only [bl] at h2
  have hxl : x.1 = L.length := by omega
  refine W_exit (Fin_then_exit (Fin_then_exit (Fin_block_exit (Fin_then (W_seq (W_region (WL_mv rfl rfl ?_)))))))
  refine WL_as rfl rfl ?_
  exact WL_nil (Fin_then (W_ret (RetXs [] x.2 rfl (Res1 rfl (RV.tmp rfl (Imp.eq (by rw [hxl, List.take_length])))) OSub.refl rfl (List.Sublist.refl _) (List.Sublist.refl _))))
set_option maxRecDepth 8000 in
theorem growI (n : Int) (h0 : 0 ≤ n) (h1 : n ≤ 1099511627776) : FnX Try.prog 165 {} [A.val (.slice none 0 0), A.int n] (fun v : Value => A.slv v 1 cInt []) (fun v : Value => { rooms := [(v, 3, 1)] }) := by
  refine FnX_of_W Try.func165 rfl rfl fun r w => ?_
  refine W_seq (W_region (WL_ac rfl ?_))
  refine WL_nil (Fin_then (W_seq (W_seq (W_region (WL_mv rfl rfl ?_)))))
  refine WL_roomNil0 3 1 ?_
  refine ws O_lss ⟨T1 rfl, C1, trivial⟩ ?_
  refine WL_nil (Fin_then (W_cond rfl (fun h0 => ?_) (fun h0 => ?_)))
  · skip
    try simp only [bl] at h0
    exfalso; omega
  try simp only [bl] at h0
  refine W_skip (Fin_then (W_seq (W_seq (W_region (WL_mv rfl rfl ?_)))))
  refine WL_mv rfl rfl ?_
  refine ws (O_capv ts62) ⟨T1 rfl, trivial⟩ ?_
  refine WL_mv rfl rfl ?_
  refine ws (O_lenv ts62) ⟨T1 rfl, trivial⟩ ?_
  refine ws (O_sub (by omega)) ⟨T1 rfl, T1 rfl, trivial⟩ ?_
  refine ws (O_sub (by omega)) ⟨T1 rfl, T1 rfl, trivial⟩ ?_
  refine WL_as rfl rfl ?_
  refine WL_nil (Fin_then (W_seq (W_region (WL_mv rfl rfl ?_))))
  refine ws O_gtr ⟨T1 rfl, C1, trivial⟩ ?_
  refine WL_nil (Fin_then (W_cut2 [] [] [0] [] (T := Value) (fun v => True) (fun v => [(0, true, A.slv v 1 cInt [])]) (fun v => { own := [], rooms := [(v, 3, 1)], maps := [] }) ?_ (fun v hx => ?_)))
  · skip
    refine W_cond rfl (fun h1 => ?_) (fun h1 => ?_)
    · skip
      try simp only [bl] at h1
      refine W_region (WL_mv rfl rfl ?_)
      refine WL_mv rfl rfl ?_
      refine ws (O_capv ts62) ⟨T1 rfl, trivial⟩ ?_
      refine ws (O_slice0n ts62) ⟨T1 rfl, T1 rfl, trivial⟩ ?_
      refine WL_mv rfl rfl ?_
      refine WL_growZ te62 (by kernel_rfl) (by decide) ⟨T1 rfl, T1 rfl, trivial⟩ (by omega) (by omega) (by simp only [maxLen]; omega) rfl fun b22 cap22 hcap22 => ?_
      refine WL_mv rfl rfl ?_
      refine ws (O_lenv ts62) ⟨T1 rfl, trivial⟩ ?_
      refine ws (O_slice0v ts62) ⟨T1 rfl, T1 rfl, trivial⟩ ?_
      refine WL_imp 25 rfl (slv_room (f := cInt) (k := 1) hcap22) ?_
      refine WL_as rfl rfl ?_
      exact WL_nil (Fin_cut [] (.slice (some ⟨b22, 0, none⟩) 0 cap22) (by first | trivial | omega) ⟨⟨rfl, _, rfl, (by first | exact Imp.refl | exact Imp.slv | exact Imp.nil | exact Imp.int (by omega) | exact Imp.int (by simp; done) | exact Imp.bool (by simp_all; done))⟩, trivial⟩ trivial OSub.nil rfl (.cons_cons _ (.cons _ (.refl _))) rfl)
    try simp only [bl] at h1
    exact W_skip (Fin_cut [] (.slice none 0 0) (by first | trivial | omega) ⟨⟨rfl, _, rfl, slv_nil⟩, trivial⟩ trivial OSub.nil rfl (List.Sublist.refl _) rfl)
  refine W_seq (W_region (WL_mv rfl rfl ?_))
  refine WL_as rfl rfl ?_
  exact WL_nil (Fin_then (W_ret (RetXs [] v rfl (Res1 rfl (RV.tmp rfl Imp.refl)) OSub.refl rfl (List.Sublist.refl _) (List.Sublist.refl _))))
set_option maxRecDepth 8000 in
theorem concatI (L : List (List Int)) (hs : L.flatten.length ≤ 1099511627776) (hl : L.length ≤ 1048576) : FnX Try.prog 131 {} [A.sl 1 cInts L] (fun v : Value => A.slv v 1 cInt L.flatten) (fun v : Value => { rooms := [(v, 3, 1)] }) := by
  refine FnX_of_W Try.func131 rfl rfl fun r w => ?_
  refine W_seq (W_region (WL_ac rfl ?_))
  refine WL_nil (Fin_then (W_seq (W_region (WL_ac rfl ?_))))
  refine WL_nil (Fin_then (W_seq (W_seq (W_region (WL_mv rfl rfl ?_)))))
  refine WL_len ts231 rfl rfl fun hl10 => ?_
  refine WL_mc rfl ?_
  refine WL_nil (Fin_then (W_block (W_loopk [0, 9, 10] (T := Nat) (fun k => k ≤ L.length) (fun k => [(3, true, A.int ((L.take k).flatten.length : Int)), (11, true, A.int (k : Int))]) (fun k => L.length - k) 0 (by omega) ⟨⟨rfl, _, rfl, (by first | exact Imp.refl | exact Imp.slv | exact Imp.nil | exact Imp.int (by omega) | exact Imp.int (by simp; done) | exact Imp.bool (by simp_all; done))⟩, ⟨rfl, _, rfl, (by first | exact Imp.refl | exact Imp.slv | exact Imp.nil | exact Imp.int (by omega) | exact Imp.int (by simp; done) | exact Imp.bool (by simp_all; done))⟩, trivial⟩ (fun k hx => ?_))))
  have hf1 := flat_take_le L k
  have hf2 := fun h : k < L.length => flat_take_step L k h
  refine W_seq (W_region (ws O_lss ⟨T1 rfl, T1 rfl, trivial⟩ ?_))
  refine WL_nil (Fin_then (W_seq (W_cond rfl (fun h0 => ?_) (fun h0 => ?_))))
  · skip
    try simp only [bl] at h0
    have hf3 := hf2 (by omega)
    have hf5 := flat_take_le L (k + 1)
    refine W_skip (Fin_then (W_seq (W_block (W_seq (W_region (ws (O_index ts231 (by omega)) ⟨T1 rfl, T1 rfl, trivial⟩ ?_))))))
    refine ws (O_load ta62) ⟨T1 rfl, trivial⟩ ?_
    refine WL_as rfl rfl ?_
    refine WL_nil (Fin_then (W_seq (W_region (WL_mv rfl rfl ?_))))
    refine WL_mv rfl rfl ?_
    refine WL_len ts62 rfl rfl fun hl17 => ?_
    refine ws (O_add (by omega)) ⟨T1 rfl, T1 rfl, trivial⟩ ?_
    refine WL_as rfl rfl ?_
    refine WL_nil (Fin_then (W_seq (W_region (WL_mv rfl rfl ?_))))
    refine ws O_lss ⟨T1 rfl, C1, trivial⟩ ?_
    refine WL_nil (Fin_then (W_cond rfl (fun h1 => ?_) (fun h1 => ?_)))
    · skip
      try simp only [bl] at h1
      exfalso; omega
    try simp only [bl] at h1
    refine W_skip (Fin_block (Fin_then (W_region (ws (O_add (by omega)) ⟨T1 rfl, C1, trivial⟩ ?_))))
    refine WL_mv rfl rfl ?_
    refine WL_nil ?_
    have hf3 := hf2 (by omega)
    exact Fin_back (k + 1) (by omega) (by omega) ⟨⟨rfl, _, rfl, (Imp.int (by omega))⟩, ⟨rfl, _, rfl, (by first | exact Imp.refl | exact Imp.slv | exact Imp.nil | exact Imp.int (by omega) | exact Imp.int (by simp; done) | exact Imp.bool (by simp_all; done))⟩, trivial⟩ ⟨rfl, rfl, rfl, trivial⟩ rfl rfl
  try simp only [bl] at h0
  refine W_exit (Fin_then_exit (Fin_then_exit (Fin_block_exit (Fin_then (W_seq (W_region (WL_mv rfl rfl ?_)))))))
  refine WL_callX [] [] [] cf165 (growI _ (by omega) (by omega)) rfl ⟨C1, T1 rfl, trivial⟩ OSub.nil rfl rfl rfl rfl fun x24 => ?_
  refine WL_as rfl rfl ?_
  refine WL_nil (Fin_then (W_seq (W_seq (W_region (WL_mv rfl rfl ?_)))))
  refine WL_len ts231 rfl rfl fun hl26 => ?_
  refine WL_mc rfl ?_
  refine WL_nil (Fin_then (W_block (W_loopp [25, 26] [] [0] [] (T := Nat × Value) (fun x => x.1 ≤ L.length) (fun x => [(6, true, A.slv x.2 1 cInt (L.take x.1).flatten), (27, true, A.int (x.1 : Int))]) (fun x => { own := [], rooms := [(x.2, 3, 1)], maps := [] }) (fun x => L.length - x.1) (0, x24) (by omega) ⟨⟨rfl, _, rfl, (Imp.eq (by simp))⟩, ⟨rfl, _, rfl, (by first | exact Imp.refl | exact Imp.slv | exact Imp.nil | exact Imp.int (by omega) | exact Imp.int (by simp; done) | exact Imp.bool (by simp_all; done))⟩, trivial⟩ OSub.nil rfl rfl rfl (fun x hx => ?_))))
  have hf1 := flat_take_le L x.1
  have hf2 := fun h : x.1 < L.length => flat_take_step L x.1 h
  have hf4 := fun h : x.1 < L.length => flat_take_le L (x.1 + 1)
  refine W_seq (W_region (ws O_lss ⟨T1 rfl, T1 rfl, trivial⟩ ?_))
  refine WL_nil (Fin_then (W_seq (W_cond rfl (fun h2 => ?_) (fun h2 => ?_))))
  · skip
    try simp only [bl] at h2
    have hf3 := hf2 (by omega)
    have hf5 := hf4 (by omega)
    refine W_skip (Fin_then (W_seq (W_block (W_seq (W_region (ws (O_index ts231 (by omega)) ⟨T1 rfl, T1 rfl, trivial⟩ ?_))))))
    refine ws (O_load ta62) ⟨T1 rfl, trivial⟩ ?_
    refine WL_as rfl rfl ?_
    refine WL_nil (Fin_then (W_region (WL_mv rfl rfl ?_)))
    refine WL_mv rfl rfl ?_
    refine WL_append 0 _ te62 ⟨T1 rfl, T1 rfl, trivial⟩ rfl (by decide) (fun _ => rfl) (fun _ => rfl) (fun _ => ⟨OneV.int, trivial⟩) rfl (by omega) (by simp only [maxLen]; omega) rfl fun v33 => ?_
    refine WL_as rfl rfl ?_
    refine WL_nil (Fin_block (Fin_then (W_region (ws (O_add (by omega)) ⟨T1 rfl, C1, trivial⟩ ?_))))
    refine WL_mv rfl rfl ?_
    exact WL_nil (Fin_backp [] (x.1 + 1, v33) (by omega) (by omega) ⟨⟨rfl, _, rfl, (Imp.eq (by rw [take_snoc (by omega : x.1 < _), List.flatten_append]; simp))⟩, ⟨rfl, _, rfl, (by first | exact Imp.refl | exact Imp.slv | exact Imp.nil | exact Imp.int (by omega) | exact Imp.int (by simp; done) | exact Imp.bool (by simp_all; done))⟩, trivial⟩ ⟨rfl, rfl, trivial⟩ OSub.nil rfl (List.Sublist.refl _) rfl)
  try simp only [bl] at h2
  have hxl : x.1 = L.length := by omega
  refine W_exit (Fin_then_exit (Fin_then_exit (Fin_block_exit (Fin_then (W_seq (W_region (WL_mv rfl rfl ?_)))))))
  refine WL_as rfl rfl ?_
  exact WL_nil (Fin_then (W_ret (RetXs [] x.2 rfl (Res1 rfl (RV.tmp rfl (Imp.eq (by rw [hxl, List.take_length])))) OSub.refl rfl (List.Sublist.refl _) (List.Sublist.refl _))))
end Go.Proofs.Ytfjggobjijeniaa
