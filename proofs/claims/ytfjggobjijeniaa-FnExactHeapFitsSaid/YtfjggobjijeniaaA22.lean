import Derived.Test.YtfjggobjijeniaaRows
import Derived.Test.YtfjggobjijeniaaWalk3
import Derived.Test.YtfjggobjijeniaaWalk2
import Derived.Test.YtfjggobjijeniaaPure6
import Derived.Test.YtfjggobjijeniaaPure7
import Derived.Test.YtfjggobjijeniaaPure8
import Derived.Test.YtfjggobjijeniaaPure9
import Derived.Test.YtfjggobjijeniaaPure10
import Derived.Test.YtfjggobjijeniaaPure11
import Derived.Test.YtfjggobjijeniaaA1
import Derived.Test.YtfjggobjijeniaaA2
import Derived.Test.YtfjggobjijeniaaA4
import Derived.Test.YtfjggobjijeniaaA5
import Derived.Test.YtfjggobjijeniaaA7
import Derived.Test.YtfjggobjijeniaaA8
import Derived.Test.YtfjggobjijeniaaA13
import Derived.Test.YtfjggobjijeniaaA17
import Derived.Test.YtfjggobjijeniaaA20
import Derived.Test.YtfjggobjijeniaaA21
namespace Go.Proofs.Ytfjggobjijeniaa.A22
open Go Go.RowKit Go.L
theorem mix : Try.prog.follows .mixedOrders = true := by kernel_rfl
theorem cf163 : CallF Try.prog 163 := fun w vs => by kernel_rfl
theorem cf164 : CallF Try.prog 164 := fun w vs => by kernel_rfl
theorem sz35 : sizeAt Try.prog 35 = some 2 := by kernel_rfl
theorem sz37 : sizeAt Try.prog 37 = some 3 := by kernel_rfl
theorem sz62 : sizeAt Try.prog 62 = some 1 := by kernel_rfl
theorem sz84 : sizeAt Try.prog 84 = some 1 := by kernel_rfl
theorem sz86 : sizeAt Try.prog 86 = some 2 := by kernel_rfl
theorem ta137 : TA Try.prog 137 := by unfold TA; kernel_rfl
theorem ta3 : TA Try.prog 3 := by unfold TA; kernel_rfl
theorem ta62 : TA Try.prog 62 := by unfold TA; kernel_rfl
theorem ta84 : TA Try.prog 84 := by unfold TA; kernel_rfl
theorem ta88 : TA Try.prog 88 := by unfold TA; kernel_rfl
theorem tb86 : TB Try.prog 86 [.int .i64 0, .slice none 0 0] [(0, 1), (1, 1)] := ⟨by kernel_rfl, by kernel_rfl⟩
theorem tez62 : TEZ Try.prog 62 3 1 8 [.int .i64 0] := ⟨by kernel_rfl, by kernel_rfl⟩
theorem te62 : TE Try.prog 62 3 1 8 := tez62.te rfl
theorem tez84 : TEZ Try.prog 84 35 2 16 [.int .i64 0, .int .i64 0] := ⟨by kernel_rfl, by kernel_rfl⟩
theorem te84 : TE Try.prog 84 35 2 16 := tez84.te rfl
theorem tf139_0 : TF Try.prog 139 0 0 := by unfold TF; kernel_rfl
theorem tf139_1 : TF Try.prog 139 1 1 := by unfold TF; kernel_rfl
theorem tf139_2 : TF Try.prog 139 2 6 := by unfold TF; kernel_rfl
theorem tf139_3 : TF Try.prog 139 3 7 := by unfold TF; kernel_rfl
theorem tf67_0 : TF Try.prog 67 0 0 := by unfold TF; kernel_rfl
theorem tf86_1 : TF Try.prog 86 1 1 := by unfold TF; kernel_rfl
theorem tg35 : TG Try.prog 35 2 := ⟨by kernel_rfl, by kernel_rfl⟩
theorem tg37 : TG Try.prog 37 3 := ⟨by kernel_rfl, by kernel_rfl⟩
theorem tg86 : TG Try.prog 86 2 := ⟨by kernel_rfl, by kernel_rfl⟩
theorem ts50 : TS Try.prog 50 37 3 := ⟨by kernel_rfl, by kernel_rfl⟩
theorem ts62 : TS Try.prog 62 3 1 := ⟨by kernel_rfl, by kernel_rfl⟩
theorem tz35 : TZ Try.prog 35 [.int .i64 0, .int .i64 0] := by unfold TZ; kernel_rfl
theorem tz37 : TZ Try.prog 37 [.int .i64 0, .int .i64 0, .bool false] := by unfold TZ; kernel_rfl
theorem tz86 : TZ Try.prog 86 [.int .i64 0, .slice none 0 0] := by unfold TZ; kernel_rfl
end Go.Proofs.Ytfjggobjijeniaa.A22
namespace Go.Proofs.Ytfjggobjijeniaa
open Go Go.RowKit Go.L A22
set_option maxRecDepth 8000 in
theorem impl_parse (b m : Nat) (v : Value) (G : Kin) (hK : KG G) (h : Hp) (hW : WOk h.words) (S : List Int) (a e : Int) (h0 : 0 ≤ a) (he : e ≤ h.words.length) (hl : h.words.length ≤ 160) (hS : ∀ s ∈ S, 0 ≤ s ∧ s < a) (hSl : (S.length : Int) ≤ a) : FnX Try.prog 129 { own := [(b, 139, [kP (krows G) (canonL G), A.sl 1 cInt h.words, A.int h.old, A.int h.oldAt, A.int h.youngAt, A.sl 1 cInt h.log, A.slv v 1 cInt S, A.val (.map (some m))])], rooms := [(v, 3, 1)], maps := [(m, thE G.flatten h.words S)] } [A.val (.pointer (some ⟨b, 0, none⟩)), A.int a, A.int e] (fun x : Bool × List Int × Value => A.st (x.1 = ((hpart G.flatten h.words a e).2 && (hpart G.flatten h.words a e).1.all (decOk G.flatten h.words)) ∧ (x.1 = true → x.2.1 = S ++ (hpart G.flatten h.words a e).1)) (A.bool x.1)) (fun x : Bool × List Int × Value => { own := [(b, 139, [kP (krows G) (canonL G), A.sl 1 cInt h.words, A.int h.old, A.int h.oldAt, A.int h.youngAt, A.sl 1 cInt h.log, A.slv x.2.2 1 cInt x.2.1, A.val (.map (some m))])], rooms := [(x.2.2, 3, 1)], maps := [(m, thE G.flatten h.words x.2.1)] }) := by
  refine FnX_of_W Try.func129 rfl rfl fun r w => ?_
  refine W_seq (W_region (WL_ac rfl ?_))
  refine WL_nil (Fin_then (W_seq (W_block (W_loopp [0, 2] [0] [0] [0] (T := Int × List Int × Value) (fun x => a ≤ x.1 ∧ hpart G.flatten h.words a e = (x.2.1 ++ (hpart G.flatten h.words x.1 e).1, (hpart G.flatten h.words x.1 e).2) ∧ x.2.1.all (decOk G.flatten h.words) = true ∧ (∀ s ∈ x.2.1, a ≤ s ∧ s < x.1) ∧ (x.2.1.length : Int) ≤ x.1 - a) (fun x => [(1, true, A.int x.1)]) (fun x => { own := [(b, 139, [kP (krows G) (canonL G), A.sl 1 cInt h.words, A.int h.old, A.int h.oldAt, A.int h.youngAt, A.sl 1 cInt h.log, A.slv x.2.2 1 cInt (S ++ x.2.1), A.val (.map (some m))])], rooms := [(x.2.2, 3, 1)], maps := [(m, thE G.flatten h.words (S ++ x.2.1))] }) (fun x => (e - x.1).toNat) (a, [], v) ⟨Int.le_refl _, rfl, rfl, by simp, by simp⟩ ⟨⟨rfl, _, rfl, (by first | exact Imp.refl | exact Imp.slv | exact Imp.nil | exact Imp.int (by omega) | exact Imp.int (by simp; done) | exact Imp.bool (by simp_all; done))⟩, trivial⟩ (.cons (AllImp.eq (by simp only [List.append_nil])) OSub.nil) rfl (by simp only [List.append_nil]; rfl) rfl (fun x hx => ?_)))))
  have hx1 := hx.1
  have hx2 := hx.2.1
  have hx3 := hx.2.2.1
  have hx4 := hx.2.2.2.1
  have hx5 := hx.2.2.2.2
  have hwr := hW.at x.1
  refine W_seq (W_seq (W_region (WL_mv rfl rfl ?_)))
  refine WL_mv rfl rfl ?_
  refine ws O_lss ⟨T1 rfl, T1 rfl, trivial⟩ ?_
  refine WL_nil (Fin_then (W_cond rfl (fun h0 => ?_) (fun h0 => ?_)))
  · skip
    try simp only [bl] at h0
    refine W_skip (Fin_then (W_block (W_seq (W_region (WL_mv rfl rfl ?_)))))
    refine ws O_nilCheckv ⟨T1 rfl, trivial⟩ ?_
    refine ws (O_fieldv tf139_1) ⟨T1 rfl, trivial⟩ ?_
    refine ws (O_fieldv tf67_0) ⟨T1 rfl, trivial⟩ ?_
    refine ws (O_loado 0 ta62 rfl rfl) ⟨T1 rfl, trivial⟩ ?_
    refine WL_mv rfl rfl ?_
    refine ws (O_index ts62 (by omega)) ⟨T1 rfl, T1 rfl, trivial⟩ ?_
    refine ws (O_load ta3) ⟨T1 rfl, trivial⟩ ?_
    refine WL_as rfl rfl ?_
    refine WL_nil (Fin_then (W_seq (W_seq (W_region (WL_mv rfl rfl ?_)))))
    refine ws O_lss ⟨T1 rfl, C1, trivial⟩ ?_
    refine WL_nil (Fin_then (W_cond rfl (fun h1 => ?_) (fun h1 => ?_)))
    · skip
      try simp only [bl] at h1
      refine W_seq (W_region (WL_ac rfl ?_))
      refine WL_nil (Fin_then (W_ret (Fin_then_ret (Fin_block_ret (Fin_then_ret (Fin_block_ret (Fin_then_ret ?_)))))))
      have hbad := hpart_bad (T := G.flatten) (W := h.words) (a := x.1) (b := e) (by omega) (.inl (hlen_neg (by omega)))
      exact RetXs [0] (false, S ++ x.2.1, x.2.2) rfl (Res1 rfl (RV.tmp rfl (Imp.st ⟨hp_fail hx2 hbad, fun q => by cases q⟩))) (.cons AllImp.refl .nil) rfl (List.Sublist.refl _) (List.Sublist.refl _)
    try simp only [bl] at h1
    have hh := hfields_hlen hK (w := (idx h.words x.1)) (by omega)
    refine W_skip (Fin_then (W_seq (W_region (WL_mv rfl rfl ?_))))
    refine ws (O_quo (by omega) (by omega) (by omega)) ⟨T1 rfl, C1, trivial⟩ ?_
    refine WL_mv rfl rfl ?_
    refine ws (O_rem (by omega) (by omega)) ⟨T1 rfl, C1, trivial⟩ ?_
    refine WL_as rfl rfl ?_
    refine WL_as rfl rfl ?_
    refine WL_nil (Fin_then (W_seq (W_region (WL_mv rfl rfl ?_))))
    refine ws O_nilCheckv ⟨T1 rfl, trivial⟩ ?_
    refine ws (O_fieldv tf139_0) ⟨T1 rfl, trivial⟩ ?_
    refine ws (O_loado 0 ta88 rfl rfl) ⟨T1 rfl, trivial⟩ ?_
    refine WL_mv rfl rfl ?_
    refine WL_mv rfl rfl ?_
    refine ws (O_call cf163 (impl_fieldsOf G hK _ _ (by omega)) rfl) ⟨T1 rfl, T1 rfl, T1 rfl, trivial⟩ ?_
    refine WL_mv rfl rfl ?_
    refine ws (O_extract rfl) ⟨T1 rfl, trivial⟩ ?_
    refine ws (O_extract rfl) ⟨T1 rfl, trivial⟩ ?_
    refine WL_as rfl rfl ?_
    refine WL_as rfl rfl ?_
    refine WL_nil (Fin_then (W_seq (W_seq (W_region (WL_mv rfl rfl ?_)))))
    refine ws O_not ⟨T1 rfl, trivial⟩ ?_
    refine WL_mv rfl rfl ?_
    refine wf1 rfl rfl (fun hc => O_move) ⟨tg rfl, trivial⟩ ?_
    refine wf1 rfl rfl (fun hc => (O_add (by (try simp only [bl] at hc); omega))) ⟨tg rfl, C1, trivial⟩ ?_
    refine wf1 rfl rfl (fun hc => O_move) ⟨tg rfl, trivial⟩ ?_
    refine wf1 rfl rfl (fun hc => (O_add (by (try simp only [bl] at hc); omega))) ⟨tg rfl, tg rfl, trivial⟩ ?_
    refine wf1 rfl rfl (fun hc => O_move) ⟨tg rfl, trivial⟩ ?_
    refine wf1 rfl rfl (fun hc => O_gtr) ⟨tg rfl, tg rfl, trivial⟩ ?_
    refine ws O_or ⟨T1 rfl, tg rfl, trivial⟩ ?_
    refine WL_nil (Fin_then (W_cond rfl (fun h2 => ?_) (fun h2 => ?_)))
    · skip
      try simp only [bl] at h2
      refine W_seq (W_region (WL_ac rfl ?_))
      refine WL_nil (Fin_then (W_ret (Fin_then_ret (Fin_block_ret (Fin_then_ret (Fin_block_ret (Fin_then_ret ?_)))))))
      have hbad := hpart_bad (T := G.flatten) (W := h.words) (a := x.1) (b := e) (by omega) (bad_or hh (by grind))
      exact RetXs [0] (false, S ++ x.2.1, x.2.2) rfl (Res1 rfl (RV.tmp rfl (Imp.st ⟨hp_fail hx2 hbad, fun q => by cases q⟩))) (.cons AllImp.refl .nil) rfl (List.Sublist.refl _) (List.Sublist.refl _)
    try simp only [bl] at h2
    have hlen_eq := hh.2 (by grind)
    have hnb : ¬ (hlen G.flatten (idx h.words x.1) < 0 ∨ e < x.1 + 1 + hlen G.flatten (idx h.words x.1)) := by rw [hlen_eq]; omega
    have hfl := hfields_len (G := G) (t := (idx h.words x.1) / 16) (many := (idx h.words x.1) % 16) (by grind) (by omega)
    have hfa := fun i : Nat => hfields_at (G := G) (t := (idx h.words x.1) / 16) (many := (idx h.words x.1) % 16) (i := i) (by grind)
    refine W_skip (Fin_then (W_seq (W_region (WL_mv rfl rfl ?_))))
    refine ws (O_build [(_, _)] tb86 rfl ⟨(CellsOf.one OneV.int), trivial⟩ rfl) ⟨T1 rfl, trivial⟩ ?_
    refine WL_alloc tz86 rfl fun b12 => ?_
    refine WL_store 0 rfl ⟨T1 rfl, T1 rfl, trivial⟩ (CellsOf.agg (by exact ⟨OneV.int, OneV.slv, trivial⟩)) sz86 (Nat.le_of_ble_eq_true rfl) ?_
    refine WL_nil (Fin_then (W_seq (W_seq (W_region (WL_mv rfl rfl ?_)))))
    refine WL_roomNil0 35 2 ?_
    refine WL_len ts50 rfl rfl fun hl57 => ?_
    refine WL_mc rfl ?_
    refine WL_nil (Fin_then (W_block (W_loopp [0, 1, 2, 9, 12, 56, 57] [0] [0] [] (T := Nat × Value) (fun y => y.1 ≤ (hfields G ((idx h.words x.1) / 16) ((idx h.words x.1) % 16)).1.length ∧ ∀ i : Nat, i < y.1 → (wordVal (fldAt (idx G.flatten ((idx h.words x.1) / 16)) i) (idx h.words (x.1 + 1 + (i : Int)))).2 = true) (fun y => [(58, true, A.int (y.1 : Int))]) (fun y => { own := [(b12, 86, [A.int ((idx h.words x.1) / 16), A.slv y.2 2 cVal ((List.range y.1).map fun i : Nat => wval (fldAt (idx G.flatten ((idx h.words x.1) / 16)) i) (idx h.words (x.1 + 1 + i)))])], rooms := [(y.2, 35, 2)], maps := [] }) (fun y => (hfields G ((idx h.words x.1) / 16) ((idx h.words x.1) % 16)).1.length - y.1) (0, .slice none 0 0) ⟨Nat.zero_le _, fun i hi => by omega⟩ ⟨⟨rfl, _, rfl, (by first | exact Imp.refl | exact Imp.slv | exact Imp.nil | exact Imp.int (by omega) | exact Imp.int (by simp; done) | exact Imp.bool (by simp_all; done))⟩, trivial⟩ (.cons ⟨Imp.refl, slv_nil, trivial⟩ OSub.nil) rfl rfl rfl (fun y hx => ?_))))
    have hyl := hx.1
    have hy2 := hx.2
    refine W_seq (W_region (ws O_lss ⟨T1 rfl, T1 rfl, trivial⟩ ?_))
    refine WL_nil (Fin_then (W_seq (W_cond rfl (fun h3 => ?_) (fun h3 => ?_))))
    · skip
      try simp only [bl] at h3
      have hfy := hfa y.1 (by omega)
      refine W_skip (Fin_then (W_seq (W_block (W_seq (W_region (WL_mv rfl rfl ?_))))))
      refine ws (O_index ts50 (by omega)) ⟨T1 rfl, T1 rfl, trivial⟩ ?_
      refine ws (O_loadgw tg37 rfl) ⟨T1 rfl, trivial⟩ ?_
      refine WL_alloc tz37 rfl fun b14 => ?_
      refine WL_as rfl rfl ?_
      refine WL_store 0 rfl ⟨T1 rfl, T1 rfl, trivial⟩ (CellsOf.agg (by exact ⟨OneV.int, OneV.int, OneV.bool, trivial⟩)) sz37 (Nat.le_of_ble_eq_true rfl) ?_
      refine WL_nil (Fin_then (W_seq (W_drawAL 17 [15] mix rfl rfl (by kernel_rfl) rfl ?_)))
      refine ChainA_cons (S_plain (O_loadog 0 tg37 rfl (Nat.le_of_ble_eq_true rfl)) ⟨T1 rfl, trivial⟩ rfl rfl) ?_
      refine ChainA_cons (S_plain O_move ⟨T1 rfl, trivial⟩ rfl rfl) ?_
      refine ChainA_cons (S_plain O_nilCheckv ⟨T1 rfl, trivial⟩ rfl rfl) ?_
      refine ChainA_cons (S_plain (O_fieldv tf139_1) ⟨T1 rfl, trivial⟩ rfl rfl) ?_
      refine ChainA_cons (S_plain (O_fieldv tf67_0) ⟨T1 rfl, trivial⟩ rfl rfl) ?_
      refine ChainA_cons (S_plain (O_loado 2 ta62 rfl rfl) ⟨T1 rfl, trivial⟩ rfl rfl) ?_
      refine ChainA_cons (S_plain O_move ⟨T1 rfl, trivial⟩ rfl rfl) ?_
      refine ChainA_cons (S_plain (O_add (by omega)) ⟨T1 rfl, C1, trivial⟩ rfl rfl) ?_
      refine ChainA_cons (S_plain O_move ⟨T1 rfl, trivial⟩ rfl rfl) ?_
      refine ChainA_cons (S_plain (O_add (by omega)) ⟨T1 rfl, T1 rfl, trivial⟩ rfl rfl) ?_
      refine ChainA_cons (S_plain (O_index ts62 (by omega)) ⟨T1 rfl, T1 rfl, trivial⟩ rfl rfl) ?_
      refine ChainA_cons (S_plain (O_load ta3) ⟨T1 rfl, trivial⟩ rfl rfl) ?_
      refine ChainA_cons (S_plain (O_call cf164 (impl_WordVal _ _ (hW.at (x.1 + 1 + (y.1 : Int)))) rfl) ⟨T1 rfl, T1 rfl, trivial⟩ rfl rfl) ?_
      refine ChainA_cons (S_plain O_move ⟨T1 rfl, trivial⟩ rfl rfl) ?_
      refine ChainA_cons (S_plain (O_extract rfl) ⟨T1 rfl, trivial⟩ rfl rfl) ?_
      refine ChainA_cons (S_plain (O_extract rfl) ⟨T1 rfl, trivial⟩ rfl rfl) ?_
      refine ChainA_al tz35 rfl ?_
      refine ChainA_nil ?_
      refine AlK_cons fun b15 => ?_
      refine AlK_nil ?_
      refine WL_store 0 rfl ⟨T1 rfl, T1 rfl, trivial⟩ (CellsOf.agg (by exact ⟨OneV.int, OneV.int, trivial⟩)) sz35 (Nat.le_of_ble_eq_true rfl) ?_
      refine WL_as rfl rfl ?_
      refine WL_nil (Fin_nop (Fin_then (W_seq (W_seq (W_region (WL_mv rfl rfl ?_))))))
      refine ws O_not ⟨T1 rfl, trivial⟩ ?_
      refine WL_nil (Fin_then (W_cond rfl (fun h4 => ?_) (fun h4 => ?_)))
      · skip
        try simp only [bl] at h4
        refine W_seq (W_region (WL_ac rfl ?_))
        refine WL_nil (Fin_then (W_ret (Fin_then_ret (Fin_block_ret (Fin_then_ret (Fin_then_ret (Fin_block_ret (Fin_then_ret (Fin_block_ret (Fin_then_ret (Fin_block_ret (Fin_then_ret ?_))))))))))))
        have hdec : decOk G.flatten h.words x.1 = false := allN_false y.1 (by omega) (by rw [← hfy]; simpa using h4)
        exact RetXs [3] (false, S ++ x.2.1, x.2.2) rfl (Res1 rfl (RV.tmp rfl (Imp.st ⟨hp_dec hx2 (by omega) hnb hdec, fun q => by cases q⟩))) (.cons AllImp.refl .nil) rfl (.cons _ (.refl _)) (List.Sublist.refl _)
      try simp only [bl] at h4
      refine W_skip (Fin_then (W_region (ws (O_fieldv tf86_1) ⟨T1 rfl, trivial⟩ ?_)))
      refine ws (O_loado 2 ta84 rfl rfl) ⟨T1 rfl, trivial⟩ ?_
      refine ws (O_loadog 0 tg35 rfl (Nat.le_of_ble_eq_true rfl)) ⟨T1 rfl, trivial⟩ ?_
      refine ws (O_slice1 (f := cVal) (wordVal (idx (hfields G ((idx h.words x.1) / 16) ((idx h.words x.1) % 16)).1 (y.1 : Int)) (idx h.words (x.1 + 1 + (y.1 : Int)))).1 te84 rfl rfl (CellsOf.agg (by exact ⟨OneV.int, OneV.int, trivial⟩)) AllImp.refl) ⟨T1 rfl, trivial⟩ ?_
      refine WL_append 0 _ te84 ⟨T1 rfl, T1 rfl, trivial⟩ rfl (by decide) (fun _ => rfl) (fun _ => rfl) (fun _ => ⟨OneV.int, OneV.int, trivial⟩) rfl (by simp only [List.length_map, List.length_range, List.length_cons, List.length_nil]; omega) (by simp only [maxLen, List.length_map, List.length_range, List.length_cons, List.length_nil]; omega) rfl fun v85 => ?_
      refine ws (O_fieldv tf86_1) ⟨T1 rfl, trivial⟩ ?_
      refine WL_store 2 rfl ⟨T1 rfl, T1 rfl, trivial⟩ (CellsOf.one OneV.slvv) sz84 (Nat.le_of_ble_eq_true rfl) ?_
      refine WL_nil (Fin_block (Fin_then (W_region (ws (O_add (by omega)) ⟨T1 rfl, C1, trivial⟩ ?_))))
      refine WL_mv rfl rfl ?_
      refine WL_nil ?_
      have hwy : (wordVal (fldAt (idx G.flatten ((idx h.words x.1) / 16)) (y.1 : Int)) (idx h.words (x.1 + 1 + (y.1 : Int)))).2 = true := by rw [← hfy]; simpa using h4
      exact Fin_backp [2, 3] (y.1 + 1, v85) ⟨by simp only; omega, fun i hi => by rcases Nat.lt_or_ge i y.1 with q | q; exact hy2 i q; rw [show i = y.1 from by simp only at hi; omega]; exact hwy⟩ (by simp only; omega) ⟨⟨rfl, _, rfl, (by first | exact Imp.refl | exact Imp.slv | exact Imp.nil | exact Imp.int (by omega) | exact Imp.int (by simp; done) | exact Imp.bool (by simp_all; done))⟩, trivial⟩ ⟨rfl, rfl, rfl, rfl, rfl, rfl, rfl, trivial⟩ (.cons ⟨Imp.refl, Imp.eq (by rw [range_snoc, hfy, wordVal_fst hwy]), trivial⟩ (.cons AllImp.refl OSub.nil)) rfl (List.Sublist.refl _) rfl
    try simp only [bl] at h3
    have hy1 : y.1 = ((idx h.words x.1) % 16).toNat := by omega
    have hdec : decOk G.flatten h.words x.1 = true := allN_true (fun i hi => hy2 i (by omega))
    have hSD : ∀ s ∈ S ++ x.2.1, 0 ≤ s ∧ s < x.1 := fun s hs => by rcases List.mem_append.1 hs with q | q; (have := hS s q; omega); (have := hx4 s q; omega)
    refine W_exit (Fin_then_exit (Fin_then_exit (Fin_block_exit (Fin_then (W_seq (W_region (WL_mv rfl rfl ?_)))))))
    refine WL_mv rfl rfl ?_
    refine ws O_nilCheckv ⟨T1 rfl, trivial⟩ ?_
    refine ws (O_fieldv tf139_2) ⟨T1 rfl, trivial⟩ ?_
    refine ws (O_loado 1 ta62 rfl rfl) ⟨T1 rfl, trivial⟩ ?_
    refine WL_mv rfl rfl ?_
    refine ws (O_slice1 (f := cInt) _ te62 rfl rfl (CellsOf.one OneV.int) AllImp.refl) ⟨T1 rfl, trivial⟩ ?_
    refine WL_append 1 _ te62 ⟨T1 rfl, T1 rfl, trivial⟩ rfl (by decide) (fun _ => rfl) (fun _ => rfl) (fun _ => ⟨OneV.int, trivial⟩) rfl (by simp only [List.length_append, List.length_cons, List.length_nil]; omega) (by simp only [maxLen, List.length_append, List.length_cons, List.length_nil]; omega) rfl fun v95 => ?_
    refine ws O_nilCheckv ⟨T1 rfl, trivial⟩ ?_
    refine ws (O_fieldv tf139_2) ⟨T1 rfl, trivial⟩ ?_
    refine WL_store 1 rfl ⟨T1 rfl, T1 rfl, trivial⟩ (CellsOf.one OneV.slvv) sz62 (Nat.le_of_ble_eq_true rfl) ?_
    refine WL_nil (Fin_then (W_seq (W_draw 6 mix rfl rfl ?_)))
    refine cs O_move ⟨T1 rfl, trivial⟩ ?_
    refine cs O_nilCheckv ⟨T1 rfl, trivial⟩ ?_
    refine cs (O_fieldv tf139_3) ⟨T1 rfl, trivial⟩ ?_
    refine cs (O_loado 1 ta137 rfl rfl) ⟨T1 rfl, trivial⟩ ?_
    refine cs O_move ⟨T1 rfl, trivial⟩ ?_
    refine cs (O_loadog 0 tg86 rfl (Nat.le_of_ble_eq_true rfl)) ⟨T1 rfl, trivial⟩ ?_
    refine Chain_nil ?_
    refine WL_imp 103 rfl (show Imp _ (A.agg (cThing (thingAt G.flatten h.words x.1))) from Imp.agg ⟨Imp.refl, Imp.trans Imp.slv (Imp.eq (by rw [hy1]; rfl)), trivial⟩) ?_
    refine WL_mapPut 0 mtThg ⟨T1 rfl, T1 rfl, T1 rfl, trivial⟩ rfl (thE_ok fun s hs => by have := hSD s hs; unfold inI; omega) (kokInt (n := x.1) (by unfold inI; omega)) (thE_new fun s hs => by have := hSD s hs; omega) ?_
    refine WL_nil (Fin_then (W_region (WL_mv rfl rfl ?_)))
    refine WL_mv rfl rfl ?_
    refine ws (O_add (by omega)) ⟨C1, T1 rfl, trivial⟩ ?_
    refine ws (O_add (by omega)) ⟨T1 rfl, T1 rfl, trivial⟩ ?_
    refine WL_as rfl rfl ?_
    refine WL_nil (Fin_block ?_)
    have hst := hpart_step (T := G.flatten) (W := h.words) (a := x.1) (b := e) (by omega) hnb
    exact Fin_backp [1] (x.1 + 1 + hlen G.flatten (idx h.words x.1), x.2.1 ++ [x.1], v95) ⟨by simp only; omega, by rw [hx2, hst]; simp, by simp only [List.all_append, hx3]; simp [hdec], fun s hs => by rcases List.mem_append.1 hs with q | q; (have := hx4 s q; simp only; omega); (rw [List.mem_singleton.1 q]; simp only; omega), by simp only [List.length_append, List.length_cons, List.length_nil]; omega⟩ (by simp only; omega) ⟨⟨rfl, _, rfl, (Imp.int (by simp only; omega))⟩, trivial⟩ ⟨rfl, rfl, trivial⟩ (.cons ⟨Imp.refl, Imp.refl, Imp.refl, Imp.refl, Imp.refl, Imp.refl, Imp.eq (by simp only [List.append_assoc]), Imp.refl, trivial⟩ OSub.nil) rfl (.cons _ (List.Sublist.refl _)) (congrArg (fun z => [(m, z)]) (by simp only [← List.append_assoc]; rw [thE_snoc]; rfl))
  try simp only [bl] at h0
  refine W_exit (Fin_then_exit (Fin_then_exit (Fin_block_exit (Fin_then (W_seq (W_region (WL_ac rfl ?_)))))))
  refine WL_nil (Fin_then (W_ret ?_))
  have hend := hp_end hx2 (by omega) hx3
  exact RetXs [0] (true, S ++ x.2.1, x.2.2) rfl (Res1 rfl (RV.tmp rfl (Imp.st ⟨hend.1, fun _ => by rw [hend.2]⟩))) (.cons AllImp.refl .nil) rfl (List.Sublist.refl _) (List.Sublist.refl _)
end Go.Proofs.Ytfjggobjijeniaa
