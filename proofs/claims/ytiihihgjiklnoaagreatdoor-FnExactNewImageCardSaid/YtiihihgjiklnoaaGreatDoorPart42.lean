/- Part 42 of the proof: the texts NiH, NiL, NiN. -/
import Derived.Test.YtiihihgjiklnoaaGreatDoorPart24
import Derived.Test.YtiihihgjiklnoaaGreatDoorPart39
import Derived.Test.YtiihihgjiklnoaaGreatDoorPart41
/- The laws' check of the marks of an image. Written by gen_nh.py. -/
namespace Go.Proofs.YtiihihgjiklnoaaGreatDoor
set_option maxRecDepth 20000
open Go Go.RowKit
section
variable {G : World → Prop}
set_option maxHeartbeats 1000000 in
theorem heldIntS_m (_hst : Stable G) (lo : Nat) (l : List Int) (k : Int) (hn : l.length ≤ 1048576) (hk : 0 ≤ k ∧ k ≤ 1000000000000000) : Ct Tryz.prog G 34 [.sl lo 1 (intR (mkL mkInt nxInt k l)), .int .i64 k] (fun _ => .int .i64 (kL nxInt k l)) := by
  refine ct_enter Tryz.func34 rfl Tryz.ntmps34 rfl rfl fun w0 _ hG => ?_
  have hrl : (intR (mkL mkInt nxInt k l)).length = l.length := by simp [intR, mkL_len]
  have hget := fun i (h : i < l.length) => mkL_get (mk := mkInt) (nx := nxInt) (k := k) h
  have hgr : ∀ i (h : i < l.length), (intR (mkL mkInt nxInt k l))[i]? = some [.int .i64 (kL nxInt k (l.take i))] := fun i h => by
    simp only [intR, List.getElem?_map, hget i h]; rfl
  generalize intR (mkL mkInt nxInt k l) = rows at hrl hgr ⊢
  repeat' (first | refine W_ ?_ | refine c_ (fun hc => ?_) (fun hc => ?_) | refine g_ (fun hg => ?_) (fun hg => ?_))
  apply aw_loopk (X := Nat) [0] (fun x => [(5, .int .i64 (x : Int)), (1, .int .i64 (kL nxInt k (l.take x)))]) (fun _ => []) (fun x => x ≤ l.length) (fun x => l.length - x) 0 (Nat.zero_le _)
  exact kp_; exact nw_
  · exact .refl _
  intro i hi
  try dsimp only
  have hq := kL_take (k := k) (i := i) hn (nxInt_in l) hi
  by_cases hlt : i < l.length
  · have hrow := hgr i hlt
    have hks : kL nxInt k (l.take (i + 1)) = kL nxInt k (l.take i) + 1 := kL_snoc hlt
    generalize kL nxInt k (l.take i) = q at hq hrow hks ⊢
    have hi0 : ¬ (q) ≠ (q) := fun h => h rfl
    repeat' (first | refine V_ ?_ | ((with_reducible apply o_call); rfl; kernel_rfl; (repeat (first | exact Args.nil | ((with_reducible apply Args.cons); rfl; exact .same _))); exact hG; exact _hst; (first | fail)) | ((with_reducible apply d_call); rfl; kernel_rfl; (repeat (first | exact Args.nil | ((with_reducible apply Args.cons); rfl; exact .same _))); exact hG; exact _hst; (first | fail)) | refine c_ (fun hc => ?_) (fun hc => ?_) | refine g_ (fun hg => ?_) (fun hg => ?_))
    all_goals first
      | exact aq_round (i + 1) (by omega) (by omega) (.of _ (Weak.envCons rfl (Weak.envCons (lk_int rfl (by rw [hks])) Weak.envNil)) od_ pk_)
      | (exfalso; simp_all; done)
  · obtain rfl : i = l.length := by omega
    rw [List.take_length]
    repeat' (first | refine W_ ?_ | refine c_ (fun hc => ?_) (fun hc => ?_) | refine g_ (fun hg => ?_) (fun hg => ?_))
    exact r1_
set_option maxHeartbeats 1000000 in
theorem heldValueS_m (hst : Stable G) (lo : Nat) (l : List TValue) (k : Int) (hn : l.length ≤ 1048576) (hk : 0 ≤ k ∧ k ≤ 1000000000000000) : Ct Tryz.prog G 156 [.sl lo 3 ((mkL mkValue nxValue k l).map (TValue.tw lo)), .int .i64 k] (fun _ => .int .i64 (kL nxValue k l)) := by
  refine ct_enter Tryz.func156 rfl Tryz.ntmps156 rfl rfl fun w0 _ hG => ?_
  have hrl : ((mkL mkValue nxValue k l).map (TValue.tw lo)).length = l.length := by simp [mkL_len]
  have hget := fun i (h : i < l.length) => mkL_get (mk := mkValue) (nx := nxValue) (k := k) h
  have hgr : ∀ i (h : i < l.length), ((mkL mkValue nxValue k l).map (TValue.tw lo))[i]? = some [.int .i64 (kL nxValue k (l.take i)), .int .i64 (kL nxValue k (l.take i) + 1), .str (markB (kL nxValue k (l.take i) + 1 + 1))] := fun i h => by
    simp only [List.getElem?_map, hget i h]; rfl
  generalize (mkL mkValue nxValue k l).map (TValue.tw lo) = rows at hrl hgr ⊢
  repeat' (first | refine W_ ?_ | refine c_ (fun hc => ?_) (fun hc => ?_) | refine g_ (fun hg => ?_) (fun hg => ?_))
  apply aw_loopk (X := Nat) [0] (fun x => [(5, .int .i64 (x : Int)), (1, .int .i64 (kL nxValue k (l.take x)))]) (fun _ => []) (fun x => x ≤ l.length) (fun x => l.length - x) 0 (Nat.zero_le _)
  exact kp_; exact nw_
  · exact .refl _
  intro i hi
  try dsimp only
  have hq := kL_take (k := k) (i := i) hn (nxValue_in l) hi
  by_cases hlt : i < l.length
  · have hrow := hgr i hlt
    have hks : kL nxValue k (l.take (i + 1)) = kL nxValue k (l.take i) + 1 + 1 + 1 := kL_snoc hlt
    generalize kL nxValue k (l.take i) = q at hq hrow hks ⊢
    have hi0 : ¬ (q) ≠ (q) := fun h => h rfl
    have hi1 : ¬ (q + 1) ≠ (q + 1) := fun h => h rfl
    have hs2 : ¬ markB (q + 1 + 1) ≠ markB (q + 1 + 1) := fun h => h rfl
    have hm2 := markText_ct (G := G) (q + 1 + 1) (by omega) (by omega)
    repeat' (first | refine V_ ?_ | refine e_call hG hst (hm2) ?_ | refine e_calld hG hst (hm2) ?_ | refine c_ (fun hc => ?_) (fun hc => ?_) | refine g_ (fun hg => ?_) (fun hg => ?_))
    all_goals first
      | exact aq_round (i + 1) (by omega) (by omega) (.of _ (Weak.envCons rfl (Weak.envCons (lk_int rfl (by rw [hks])) Weak.envNil)) od_ pk_)
      | (exfalso; simp_all; done)
  · obtain rfl : i = l.length := by omega
    rw [List.take_length]
    repeat' (first | refine W_ ?_ | refine c_ (fun hc => ?_) (fun hc => ?_) | refine g_ (fun hg => ?_) (fun hg => ?_))
    exact r1_
set_option maxHeartbeats 1000000 in
theorem heldClosureS_m (hst : Stable G) (lo : Nat) (l : List TClosure) (k : Int) (hn : l.length ≤ 1048576) (hk : 0 ≤ k ∧ k ≤ 1000000000000000) : Ct Tryz.prog G 74 [.sl lo 6 ((mkL mkClosure nxClosure k l).map (TClosure.tw lo)), .int .i64 k] (fun _ => .int .i64 (kL nxClosure k l)) := by
  refine ct_enter Tryz.func74 rfl Tryz.ntmps74 rfl rfl fun w0 _ hG => ?_
  have hrl : ((mkL mkClosure nxClosure k l).map (TClosure.tw lo)).length = l.length := by simp [mkL_len]
  have hget := fun i (h : i < l.length) => mkL_get (mk := mkClosure) (nx := nxClosure) (k := k) h
  have hgr : ∀ i (h : i < l.length), ((mkL mkClosure nxClosure k l).map (TClosure.tw lo))[i]? = some [.int .i64 (kL nxClosure k (l.take i)), .int .i64 (kL nxClosure k (l.take i) + 1), .int .i64 (kL nxClosure k (l.take i) + 1 + 1), .int .i64 (kL nxClosure k (l.take i) + 1 + 1 + 1), .int .i64 (kL nxClosure k (l.take i) + 1 + 1 + 1 + 1), .str (markB (kL nxClosure k (l.take i) + 1 + 1 + 1 + 1 + 1))] := fun i h => by
    simp only [List.getElem?_map, hget i h]; rfl
  generalize (mkL mkClosure nxClosure k l).map (TClosure.tw lo) = rows at hrl hgr ⊢
  repeat' (first | refine W_ ?_ | refine c_ (fun hc => ?_) (fun hc => ?_) | refine g_ (fun hg => ?_) (fun hg => ?_))
  apply aw_loopk (X := Nat) [0] (fun x => [(5, .int .i64 (x : Int)), (1, .int .i64 (kL nxClosure k (l.take x)))]) (fun _ => []) (fun x => x ≤ l.length) (fun x => l.length - x) 0 (Nat.zero_le _)
  exact kp_; exact nw_
  · exact .refl _
  intro i hi
  try dsimp only
  have hq := kL_take (k := k) (i := i) hn (nxClosure_in l) hi
  by_cases hlt : i < l.length
  · have hrow := hgr i hlt
    have hks : kL nxClosure k (l.take (i + 1)) = kL nxClosure k (l.take i) + 1 + 1 + 1 + 1 + 1 + 1 := kL_snoc hlt
    generalize kL nxClosure k (l.take i) = q at hq hrow hks ⊢
    have hi0 : ¬ (q) ≠ (q) := fun h => h rfl
    have hi1 : ¬ (q + 1) ≠ (q + 1) := fun h => h rfl
    have hi2 : ¬ (q + 1 + 1) ≠ (q + 1 + 1) := fun h => h rfl
    have hi3 : ¬ (q + 1 + 1 + 1) ≠ (q + 1 + 1 + 1) := fun h => h rfl
    have hi4 : ¬ (q + 1 + 1 + 1 + 1) ≠ (q + 1 + 1 + 1 + 1) := fun h => h rfl
    have hs5 : ¬ markB (q + 1 + 1 + 1 + 1 + 1) ≠ markB (q + 1 + 1 + 1 + 1 + 1) := fun h => h rfl
    have hm5 := markText_ct (G := G) (q + 1 + 1 + 1 + 1 + 1) (by omega) (by omega)
    repeat' (first | refine V_ ?_ | refine e_call hG hst (hm5) ?_ | refine e_calld hG hst (hm5) ?_ | refine c_ (fun hc => ?_) (fun hc => ?_) | refine g_ (fun hg => ?_) (fun hg => ?_))
    all_goals first
      | exact aq_round (i + 1) (by omega) (by omega) (.of _ (Weak.envCons rfl (Weak.envCons (lk_int rfl (by rw [hks])) Weak.envNil)) od_ pk_)
      | (exfalso; simp_all; done)
  · obtain rfl : i = l.length := by omega
    rw [List.take_length]
    repeat' (first | refine W_ ?_ | refine c_ (fun hc => ?_) (fun hc => ?_) | refine g_ (fun hg => ?_) (fun hg => ?_))
    exact r1_
set_option maxHeartbeats 1000000 in
theorem heldProcessS_m (_hst : Stable G) (lo : Nat) (l : List TProcess) (k : Int) (hn : l.length ≤ 1048576) (hk : 0 ≤ k ∧ k ≤ 1000000000000000) : Ct Tryz.prog G 76 [.sl lo 2 ((mkL mkProcess nxProcess k l).map (TProcess.tw lo)), .int .i64 k] (fun _ => .int .i64 (kL nxProcess k l)) := by
  refine ct_enter Tryz.func76 rfl Tryz.ntmps76 rfl rfl fun w0 _ hG => ?_
  have hrl : ((mkL mkProcess nxProcess k l).map (TProcess.tw lo)).length = l.length := by simp [mkL_len]
  have hget := fun i (h : i < l.length) => mkL_get (mk := mkProcess) (nx := nxProcess) (k := k) h
  have hgr : ∀ i (h : i < l.length), ((mkL mkProcess nxProcess k l).map (TProcess.tw lo))[i]? = some [.int .i64 (kL nxProcess k (l.take i)), .bool (decide ((kL nxProcess k (l.take i) + 1).tmod 3 = 0))] := fun i h => by
    simp only [List.getElem?_map, hget i h]; rfl
  generalize (mkL mkProcess nxProcess k l).map (TProcess.tw lo) = rows at hrl hgr ⊢
  repeat' (first | refine W_ ?_ | refine c_ (fun hc => ?_) (fun hc => ?_) | refine g_ (fun hg => ?_) (fun hg => ?_))
  apply aw_loopk (X := Nat) [0] (fun x => [(5, .int .i64 (x : Int)), (1, .int .i64 (kL nxProcess k (l.take x)))]) (fun _ => []) (fun x => x ≤ l.length) (fun x => l.length - x) 0 (Nat.zero_le _)
  exact kp_; exact nw_
  · exact .refl _
  intro i hi
  try dsimp only
  have hq := kL_take (k := k) (i := i) hn (nxProcess_in l) hi
  by_cases hlt : i < l.length
  · have hrow := hgr i hlt
    have hks : kL nxProcess k (l.take (i + 1)) = kL nxProcess k (l.take i) + 1 + 1 := kL_snoc hlt
    generalize kL nxProcess k (l.take i) = q at hq hrow hks ⊢
    have hi0 : ¬ (q) ≠ (q) := fun h => h rfl
    have hb1 : (decide ((q + 1).tmod 3 = 0) != decide ((q + 1).tmod 3 = 0)) = false := by simp
    repeat' (first | refine V_ ?_ | ((with_reducible apply o_call); rfl; kernel_rfl; (repeat (first | exact Args.nil | ((with_reducible apply Args.cons); rfl; exact .same _))); exact hG; exact _hst; (first | fail)) | ((with_reducible apply d_call); rfl; kernel_rfl; (repeat (first | exact Args.nil | ((with_reducible apply Args.cons); rfl; exact .same _))); exact hG; exact _hst; (first | fail)) | refine c_ (fun hc => ?_) (fun hc => ?_) | refine g_ (fun hg => ?_) (fun hg => ?_))
    all_goals first
      | exact aq_round (i + 1) (by omega) (by omega) (.of _ (Weak.envCons rfl (Weak.envCons (lk_int rfl (by rw [hks])) Weak.envNil)) od_ pk_)
      | (exfalso; simp_all; done)
  · obtain rfl : i = l.length := by omega
    rw [List.take_length]
    repeat' (first | refine W_ ?_ | refine c_ (fun hc => ?_) (fun hc => ?_) | refine g_ (fun hg => ?_) (fun hg => ?_))
    exact r1_
set_option maxHeartbeats 2000000 in
theorem heldObjectS_m (hst : Stable G) (lo : Nat) (l : List TObject) (k : Int) (hn : l.length ≤ 1048576 ∧ ∀ y ∈ l, TObject.small 1048576 y) (hk : 0 ≤ k ∧ k ≤ 100000000000000) : Ct Tryz.prog G 155 [.sl lo 4 ((mkL mkObject nxObject k l).map (TObject.tw lo)), .int .i64 k] (fun _ => .int .i64 (kL nxObject k l)) := by
  refine ct_enter Tryz.func155 rfl Tryz.ntmps155 rfl rfl fun w0 _ hG => ?_
  obtain ⟨hn, hsm⟩ := hn
  have hrl : ((mkL mkObject nxObject k l).map (TObject.tw lo)).length = l.length := by simp [mkL_len]
  have hgr : ∀ i (h : i < l.length), ((mkL mkObject nxObject k l).map (TObject.tw lo))[i]? = some ((mkObject (kL nxObject k (l.take i)) l[i]).tw lo) := fun i h => by
    simp only [List.getElem?_map, mkL_get (mk := mkObject) (nx := nxObject) (k := k) h]; rfl
  generalize (mkL mkObject nxObject k l).map (TObject.tw lo) = rows at hrl hgr ⊢
  repeat' (first | refine W_ ?_ | refine c_ (fun hc => ?_) (fun hc => ?_) | refine g_ (fun hg => ?_) (fun hg => ?_))
  apply aw_loopk (X := Nat) [0] (fun x => [(5, .int .i64 (x : Int)), (1, .int .i64 (kL nxObject k (l.take x)))]) (fun _ => []) (fun x => x ≤ l.length) (fun x => l.length - x) 0 (Nat.zero_le _)
  exact kp_; exact nw_
  · exact .refl _
  intro i hi
  try dsimp only
  have hq := kL_take (k := k) (i := i) hn (nxObject_in hsm) hi
  by_cases hlt : i < l.length
  · have hrow := hgr i hlt
    have hks := kL_snoc (nx := nxObject) (k := k) hlt
    have hb := hsm _ (List.getElem_mem hlt)
    generalize kL nxObject k (l.take i) = q at hq hrow hks ⊢
    generalize l[i] = x at hrow hks hb
    replace hrow : rows[i]? = some [.int .i64 (q), .int .i64 (q + 1), .sl lo 3 ((mkL mkValue nxValue (q + 1 + 1) x.fields).map (TValue.tw lo)), .sl lo 1 (intR (mkL mkInt nxInt (kL nxValue (q + 1 + 1) x.fields) x.numbers))] := hrow
    have hln0 : x.fields.length ≤ 1048576 := hb.1.1
    have hinr0 := kL_in (nx := nxValue) (l := x.fields) (k := q + 1 + 1) (nxValue_in _)
    have hin0 := heldValueS_m hst lo x.fields (q + 1 + 1) hb.1.1 (by omega)
    have hln1 : x.numbers.length ≤ 1048576 := hb.2
    have hinr1 := kL_in (nx := nxInt) (l := x.numbers) (k := kL nxValue (q + 1 + 1) x.fields) (nxInt_in _)
    have hin1 := heldIntS_m hst lo x.numbers (kL nxValue (q + 1 + 1) x.fields) hb.2 (by omega)
    have hks2 : kL nxObject k (l.take (i + 1)) = kL nxInt (kL nxValue (q + 1 + 1) x.fields) x.numbers := hks
    have hi0 : ¬ (q) ≠ (q) := fun h => h rfl
    have hi1 : ¬ (q + 1) ≠ (q + 1) := fun h => h rfl
    repeat' (first | refine V_ ?_ | refine e_call hG hst (hin0) ?_ | refine e_call hG hst (hin1) ?_ | refine e_calld hG hst (hin0) ?_ | refine e_calld hG hst (hin1) ?_ | refine c_ (fun hc => ?_) (fun hc => ?_) | refine g_ (fun hg => ?_) (fun hg => ?_))
    all_goals first
      | exact aq_round (i + 1) (by omega) (by omega) (.of _ (Weak.envCons rfl (Weak.envCons (lk_int rfl (by rw [hks2])) Weak.envNil)) od_ pk_)
      | (exfalso; simp_all; done)
      | (exfalso; omega)
  · obtain rfl : i = l.length := by omega
    rw [List.take_length]
    repeat' (first | refine W_ ?_ | refine c_ (fun hc => ?_) (fun hc => ?_) | refine g_ (fun hg => ?_) (fun hg => ?_))
    exact r1_
set_option maxHeartbeats 2000000 in
theorem heldContextS_m (hst : Stable G) (lo : Nat) (l : List TContext) (k : Int) (hn : l.length ≤ 1048576 ∧ ∀ y ∈ l, TContext.small 1048576 y) (hk : 0 ≤ k ∧ k ≤ 100000000000000) : Ct Tryz.prog G 75 [.sl lo 14 ((mkL mkContext nxContext k l).map (TContext.tw lo)), .int .i64 k] (fun _ => .int .i64 (kL nxContext k l)) := by
  refine ct_enter Tryz.func75 rfl Tryz.ntmps75 rfl rfl fun w0 _ hG => ?_
  obtain ⟨hn, hsm⟩ := hn
  have hrl : ((mkL mkContext nxContext k l).map (TContext.tw lo)).length = l.length := by simp [mkL_len]
  have hgr : ∀ i (h : i < l.length), ((mkL mkContext nxContext k l).map (TContext.tw lo))[i]? = some ((mkContext (kL nxContext k (l.take i)) l[i]).tw lo) := fun i h => by
    simp only [List.getElem?_map, mkL_get (mk := mkContext) (nx := nxContext) (k := k) h]; rfl
  generalize (mkL mkContext nxContext k l).map (TContext.tw lo) = rows at hrl hgr ⊢
  repeat' (first | refine W_ ?_ | refine c_ (fun hc => ?_) (fun hc => ?_) | refine g_ (fun hg => ?_) (fun hg => ?_))
  apply aw_loopk (X := Nat) [0] (fun x => [(5, .int .i64 (x : Int)), (1, .int .i64 (kL nxContext k (l.take x)))]) (fun _ => []) (fun x => x ≤ l.length) (fun x => l.length - x) 0 (Nat.zero_le _)
  exact kp_; exact nw_
  · exact .refl _
  intro i hi
  try dsimp only
  have hq := kL_take (k := k) (i := i) hn (nxContext_in hsm) hi
  by_cases hlt : i < l.length
  · have hrow := hgr i hlt
    have hks := kL_snoc (nx := nxContext) (k := k) hlt
    have hb := hsm _ (List.getElem_mem hlt)
    generalize kL nxContext k (l.take i) = q at hq hrow hks ⊢
    generalize l[i] = x at hrow hks hb
    replace hrow : rows[i]? = some [.int .i64 (q), .int .i64 (q + 1), .int .i64 (q + 1 + 1), .int .i64 (q + 1 + 1 + 1), .int .i64 (q + 1 + 1 + 1 + 1), .int .i64 (q + 1 + 1 + 1 + 1 + 1), .int .i64 (q + 1 + 1 + 1 + 1 + 1 + 1), .int .i64 (q + 1 + 1 + 1 + 1 + 1 + 1 + 1), .str (markB (q + 1 + 1 + 1 + 1 + 1 + 1 + 1 + 1)), .sl lo 3 ((mkL mkValue nxValue (q + 1 + 1 + 1 + 1 + 1 + 1 + 1 + 1 + 1) x.slots).map (TValue.tw lo)), .sl lo 3 ((mkL mkValue nxValue (kL nxValue (q + 1 + 1 + 1 + 1 + 1 + 1 + 1 + 1 + 1) x.slots) x.stack).map (TValue.tw lo)), .sl lo 3 ((mkL mkValue nxValue (kL nxValue (kL nxValue (q + 1 + 1 + 1 + 1 + 1 + 1 + 1 + 1 + 1) x.slots) x.stack) x.values).map (TValue.tw lo)), .int .i64 (kL nxValue (kL nxValue (kL nxValue (q + 1 + 1 + 1 + 1 + 1 + 1 + 1 + 1 + 1) x.slots) x.stack) x.values), .bool (decide ((kL nxValue (kL nxValue (kL nxValue (q + 1 + 1 + 1 + 1 + 1 + 1 + 1 + 1 + 1) x.slots) x.stack) x.values + 1).tmod 3 = 0))] := hrow
    have hln0 : x.slots.length ≤ 1048576 := hb.2.1.1
    have hinr0 := kL_in (nx := nxValue) (l := x.slots) (k := q + 1 + 1 + 1 + 1 + 1 + 1 + 1 + 1 + 1) (nxValue_in _)
    have hin0 := heldValueS_m hst lo x.slots (q + 1 + 1 + 1 + 1 + 1 + 1 + 1 + 1 + 1) hb.2.1.1 (by omega)
    have hln1 : x.stack.length ≤ 1048576 := hb.2.2.1.1
    have hinr1 := kL_in (nx := nxValue) (l := x.stack) (k := kL nxValue (q + 1 + 1 + 1 + 1 + 1 + 1 + 1 + 1 + 1) x.slots) (nxValue_in _)
    have hin1 := heldValueS_m hst lo x.stack (kL nxValue (q + 1 + 1 + 1 + 1 + 1 + 1 + 1 + 1 + 1) x.slots) hb.2.2.1.1 (by omega)
    have hln2 : x.values.length ≤ 1048576 := hb.2.2.2.1
    have hinr2 := kL_in (nx := nxValue) (l := x.values) (k := kL nxValue (kL nxValue (q + 1 + 1 + 1 + 1 + 1 + 1 + 1 + 1 + 1) x.slots) x.stack) (nxValue_in _)
    have hin2 := heldValueS_m hst lo x.values (kL nxValue (kL nxValue (q + 1 + 1 + 1 + 1 + 1 + 1 + 1 + 1 + 1) x.slots) x.stack) hb.2.2.2.1 (by omega)
    have hi20 : ¬ (kL nxValue (kL nxValue (kL nxValue (q + 1 + 1 + 1 + 1 + 1 + 1 + 1 + 1 + 1) x.slots) x.stack) x.values) ≠ (kL nxValue (kL nxValue (kL nxValue (q + 1 + 1 + 1 + 1 + 1 + 1 + 1 + 1 + 1) x.slots) x.stack) x.values) := fun h => h rfl
    have hb21 : (decide ((kL nxValue (kL nxValue (kL nxValue (q + 1 + 1 + 1 + 1 + 1 + 1 + 1 + 1 + 1) x.slots) x.stack) x.values + 1).tmod 3 = 0) != decide ((kL nxValue (kL nxValue (kL nxValue (q + 1 + 1 + 1 + 1 + 1 + 1 + 1 + 1 + 1) x.slots) x.stack) x.values + 1).tmod 3 = 0)) = false := by simp
    have hks2 : kL nxContext k (l.take (i + 1)) = kL nxValue (kL nxValue (kL nxValue (q + 1 + 1 + 1 + 1 + 1 + 1 + 1 + 1 + 1) x.slots) x.stack) x.values + 1 + 1 := hks
    have hi0 : ¬ (q) ≠ (q) := fun h => h rfl
    have hi1 : ¬ (q + 1) ≠ (q + 1) := fun h => h rfl
    have hi2 : ¬ (q + 1 + 1) ≠ (q + 1 + 1) := fun h => h rfl
    have hi3 : ¬ (q + 1 + 1 + 1) ≠ (q + 1 + 1 + 1) := fun h => h rfl
    have hi4 : ¬ (q + 1 + 1 + 1 + 1) ≠ (q + 1 + 1 + 1 + 1) := fun h => h rfl
    have hi5 : ¬ (q + 1 + 1 + 1 + 1 + 1) ≠ (q + 1 + 1 + 1 + 1 + 1) := fun h => h rfl
    have hi6 : ¬ (q + 1 + 1 + 1 + 1 + 1 + 1) ≠ (q + 1 + 1 + 1 + 1 + 1 + 1) := fun h => h rfl
    have hi7 : ¬ (q + 1 + 1 + 1 + 1 + 1 + 1 + 1) ≠ (q + 1 + 1 + 1 + 1 + 1 + 1 + 1) := fun h => h rfl
    have hs8 : ¬ markB (q + 1 + 1 + 1 + 1 + 1 + 1 + 1 + 1) ≠ markB (q + 1 + 1 + 1 + 1 + 1 + 1 + 1 + 1) := fun h => h rfl
    have hm8 := markText_ct (G := G) (q + 1 + 1 + 1 + 1 + 1 + 1 + 1 + 1) (by omega) (by omega)
    repeat' (first | refine V_ ?_ | refine e_call hG hst (hm8) ?_ | refine e_call hG hst (hin0) ?_ | refine e_call hG hst (hin1) ?_ | refine e_call hG hst (hin2) ?_ | refine e_calld hG hst (hm8) ?_ | refine e_calld hG hst (hin0) ?_ | refine e_calld hG hst (hin1) ?_ | refine e_calld hG hst (hin2) ?_ | refine c_ (fun hc => ?_) (fun hc => ?_) | refine g_ (fun hg => ?_) (fun hg => ?_))
    all_goals first
      | exact aq_round (i + 1) (by omega) (by omega) (.of _ (Weak.envCons rfl (Weak.envCons (lk_int rfl (by rw [hks2])) Weak.envNil)) od_ pk_)
      | (exfalso; simp_all; done)
      | (exfalso; omega)
  · obtain rfl : i = l.length := by omega
    rw [List.take_length]
    repeat' (first | refine W_ ?_ | refine c_ (fun hc => ?_) (fun hc => ?_) | refine g_ (fun hg => ?_) (fun hg => ?_))
    exact r1_
theorem heldStore_m (hst : Stable G) (lo : Nat) (x : TStore) (hb : x.small 1048576) (k : Int) (hk : 0 ≤ k ∧ k ≤ 60000000000000) : Ct Tryz.prog G 73 [.agg ((mkStore k x).tw lo), .int .i64 k] (fun _ => .int .i64 (nxStore k x)) := by
  refine ct_enter Tryz.func73 rfl Tryz.ntmps73 rfl rfl fun w0 _ hG => ?_
  have h1 := kL_take (k := k) (i := x.classes.length) hb.1.1 (nxClassInfo_in hb.1.2) (Nat.le_refl _)
  have h2 := kL_take (k := kL nxClassInfo k x.classes) (i := x.objects.length) hb.2.1.1 (nxObject_in hb.2.1.2) (Nat.le_refl _)
  have h3 := kL_take (k := kL nxObject (kL nxClassInfo k x.classes) x.objects) (i := x.output.length) hb.2.2.1 (nxString_in x.output) (Nat.le_refl _)
  rw [List.take_length] at h1 h2 h3
  have c1 := heldClassInfoS_m hst lo x.classes k hb.1 (by omega)
  have c2 := heldObjectS_m hst lo x.objects (kL nxClassInfo k x.classes) hb.2.1 (by omega)
  have c3 := heldStringS_m hst lo x.output (kL nxObject (kL nxClassInfo k x.classes) x.objects) hb.2.2.1 (by omega)
  unfold TStore.tw mkStore nxStore
  dsimp only
  repeat' (first | refine W_ ?_ | refine e_box ?_ | refine e_call hG hst (c1) ?_ | refine e_call hG hst (c2) ?_ | refine e_call hG hst (c3) ?_ | refine c_ (fun hc => ?_) (fun hc => ?_) | refine g_ (fun hg => ?_) (fun hg => ?_))
  exact r1_
set_option maxHeartbeats 1000000 in
theorem heldImage_m (hst : Stable G) (lo : Nat) (x : TImage) (hb : x.small 1048576) (k : Int) (hk : 0 ≤ k ∧ k ≤ 50000000000000) : Ct Tryz.prog G 20 [.agg ((mkImage k x).tw lo), .int .i64 k] (fun _ => .int .i64 (nxImage k x)) := by
  refine ct_enter Tryz.func20 rfl Tryz.ntmps20 rfl rfl fun w0 _ hG => ?_
  have h1 := nxCodeBase_in hb.1 k
  have h2 := nxStore_in hb.2.1 (nxCodeBase k x.base)
  have c1 := heldCodeBase_m hst lo x.base hb.1 k (by omega)
  have c2 := heldStore_m hst lo x.store hb.2.1 (nxCodeBase k x.base) (by omega)
  unfold nxImage TImage.tw mkImage
  dsimp only
  generalize mkCodeBase k x.base = u1 at c1 ⊢
  generalize mkStore (nxCodeBase k x.base) x.store = u2 at c2 ⊢
  generalize nxStore (nxCodeBase k x.base) x.store = q2 at h2 c2 ⊢
  generalize nxCodeBase k x.base = q1 at h1 h2 c1 c2 ⊢
  have h3 := kL_take (k := q2) (i := x.blocks.length) hb.2.2.1.1 (nxClosure_in x.blocks) (Nat.le_refl _)
  rw [List.take_length] at h3
  have c3 := heldClosureS_m hst lo x.blocks q2 hb.2.2.1.1 (by omega)
  generalize kL nxClosure q2 x.blocks = q3 at h3 c3 ⊢
  have h4 := kL_take (k := q3) (i := x.contexts.length) hb.2.2.2.1.1 (nxContext_in hb.2.2.2.1.2) (Nat.le_refl _)
  rw [List.take_length] at h4
  have c4 := heldContextS_m hst lo x.contexts q3 hb.2.2.2.1 (by omega)
  generalize kL nxContext q3 x.contexts = q4 at h4 c4 ⊢
  have h5 := kL_take (k := q4) (i := x.processes.length) hb.2.2.2.2.1.1 (nxProcess_in x.processes) (Nat.le_refl _)
  rw [List.take_length] at h5
  have c5 := heldProcessS_m hst lo x.processes q4 hb.2.2.2.2.1.1 (by omega)
  generalize kL nxProcess q4 x.processes = q5 at h5 c5 ⊢
  have h6 := kL_take (k := q5) (i := x.ready.length) hb.2.2.2.2.2.1 (nxInt_in x.ready) (Nat.le_refl _)
  rw [List.take_length] at h6
  have c6 := heldIntS_m hst lo x.ready q5 hb.2.2.2.2.2.1 (by omega)
  unfold TCodeBase.tw at c1
  unfold TStore.tw at c2
  repeat' (first | refine W_ ?_ | refine e_box ?_ | refine e_call hG hst (c1) ?_ | refine e_call hG hst (c2) ?_ | refine e_call hG hst (c3) ?_ | refine e_call hG hst (c4) ?_ | refine e_call hG hst (c5) ?_ | refine e_call hG hst (c6) ?_ | refine c_ (fun hc => ?_) (fun hc => ?_) | refine g_ (fun hg => ?_) (fun hg => ?_))
  exact r1_
end
end Go.Proofs.YtiihihgjiklnoaaGreatDoor
/- The law FnExactNewImage, walked (under way). -/
namespace Go.Proofs.YtiihihgjiklnoaaGreatDoor
set_option maxRecDepth 20000
set_option maxHeartbeats 2000000
open Go Go.RowKit
set_option maxRecDepth 4000 in
set_option maxHeartbeats 4000000 in
theorem fnExactNewImage_ct (x : TCodeBase) (hb : x.small 9223372036854775807) (q : Int) : Ct Tryz.prog GL 3 [.agg (x.tw 0), .int .i64 q] (fun _ => .bool true) := by
  have hst := GL_st
  have hto := fun hx => toCodeBase_ct hst 0 x hx
  have htw := fun hx => toCodeBase_own hst 0 x hx
  refine ct_enter Tryz.func3 rfl Tryz.ntmps3 rfl rfl fun w0 _ hG => ?_
  have hsp := fun hx => specNewImage_ctm w0.heap.size x hx q
  have him := fun (hx : x.small 1048576) => implNewImage_ctm 0 x hx q
  have him2 := fun (hx : x.small 1048576) => implNewImage_ctm w0.heap.size x hx q
  have heq := fun hx => eqCodeBase_ct hst 0 w0.heap.size x hx
  have hmk := fun (hx : x.small 1048576) y hy => markCodeBase_own hst x y hy hx 1 (by omega)
  have hsm : x.small 1048576 → (imgB x q).small 1048576 := fun h => imgB_small h q
  have hvw : ∀ {objs : Objs} {y : CbP}, cbI x y → (∀ o ∈ cbO x y, o ∈ objs) → View objs (.agg (cbC x y)) (.agg (x.tw 0)) := fun h1 h2 => view_cb h1 h2
  have hnk := fun hx => nxCodeBase_in (x := x) hx 1
  generalize imgB x q = sx at hsp him him2 hsm
  generalize okI x q = vb at hsp him him2
  have hnew := im_new2 sx vb
  have hvs : ∀ {objs : Objs} {y : ImgPl}, imI sx y → (∀ o ∈ imO sx y, o ∈ objs) → View objs (.agg (imC sx y)) (.agg (sx.tw 0)) := fun h1 h2 => view_im h1 h2
  unfold TCodeBase.tw at hto htw hsp heq hvw him him2 ⊢
  unfold imC at hsp him him2 hnew hvs
  repeat' (first | refine H_ 3 ?_ | refine e_box ?_ | ((with_reducible apply o_callM); rfl; kernel_rfl; (repeat (first | exact ArgsM.nil | ((with_reducible apply ArgsM.cons); rfl))); exact hG; exact szCodeBase_ct hst _ x _ (by omega) hb; exact .nil _; intro y hy; refine al_app0 ?_) | refine c_ (fun hc => ?_) (fun hc => ?_) | refine g_ (fun hg => ?_) (fun hg => ?_))
  refine ⟨?_⟩
  by_cases hneg : y < 0
  · repeat' (first | refine W_ ?_ | refine c_ (fun hc => ?_) (fun hc => ?_) | refine g_ (fun hg => ?_) (fun hg => ?_))
    exact r1_
  have hx := hy.2.2 (by omega)
  replace hto := hto hx
  replace htw := htw hx
  replace hsp := hsp hx
  replace him := him hx
  replace him2 := him2 hx
  replace heq := heq hx
  replace hnk := hnk hx
  replace hmk := hmk hx
  replace hsm := hsm hx
  have hqs := eqImage_ct hst 0 0 sx hsm
  clear hb hy
  repeat' (first | refine H_ 6 ?_ | (refine e_alloc ?_; intro ss bb) | refine e_storep ?_ | refine e_call hG hst (hto) ?_ | ((with_reducible apply o_callM); rfl; kernel_rfl; (repeat (first | exact ArgsM.nil | ((with_reducible apply ArgsM.cons); rfl))); exact hG; exact hsp; exact .nil _; intro ys hys) | refine c_ (fun hc => ?_) (fun hc => ?_) | refine g_ (fun hg => ?_) (fun hg => ?_))
  refine ⟨?_⟩
  generalize ss = s4; generalize bb = b4
  repeat' (first | refine H_ 7 ?_ | ((with_reducible apply o_callM); rfl; kernel_rfl; (repeat (first | exact ArgsM.nil | ((with_reducible apply ArgsM.cons); rfl))); exact hG; exact htw; exact .nil _; intro y hy) | (refine e_alloc ?_; intro ss bb) | refine e_storep ?_ | refine c_ (fun hc => ?_) (fun hc => ?_) | refine g_ (fun hg => ?_) (fun hg => ?_))
  refine ⟨?_⟩
  generalize ss = s5; generalize bb = b5
  have hl1 := hmk y hy
  clear hmk
  unfold cbC at hl1 hvw
  repeat' (first | refine H_ 8 ?_ | (refine e_alloc ?_; intro ss bb) | refine e_storep ?_ | ((with_reducible apply o_callOV); rfl; kernel_rfl; exact hG; exact hst; exact him; (repeat (first | exact Args.nil | ((with_reducible apply Args.cons); rfl; first | (with_reducible exact View.same _) | exact hvw hy (fun o h => List.mem_cons_of_mem _ (List.mem_append_left _ h))))); exact hnew; intro yi hyi) | refine c_ (fun hc => ?_) (fun hc => ?_) | refine g_ (fun hg => ?_) (fun hg => ?_))
  refine ⟨?_⟩
  generalize ss = s7; generalize bb = b7
  refine aw_pick (pick_box3 _ _ _ _ _ _) ?_
  repeat' (first | refine HV_ 10 ?_ | ((with_reducible apply o_callV); rfl; kernel_rfl; exact hG; exact hst; exact hqs; ((with_reducible apply Args.cons); rfl; exact hvs hyi fun o h => List.mem_cons_of_mem _ (List.mem_cons_of_mem _ (List.mem_cons_of_mem _ (List.mem_append_left _ h)))); ((with_reducible apply Args.cons); rfl; exact hvs hys fun o h => List.mem_cons_of_mem _ (List.mem_cons_of_mem _ (List.mem_cons_of_mem _ (List.mem_append_right _ (List.mem_append_right _ (List.mem_append_left _ h)))))); exact .nil) | refine c_ (fun hc => ?_) (fun hc => ?_) | refine g_ (fun hg => ?_) (fun hg => ?_))
  all_goals first
    | (exfalso; simp at hc; done)
    | skip
  refine ⟨?_⟩
  repeat' (first | refine HV_ 13 ?_ | refine e_calld hG hst (hto) ?_ | ((with_reducible apply d_callV); rfl; kernel_rfl; exact hG; exact hst; exact heq; (repeat (first | exact Args.nil | ((with_reducible apply Args.cons); rfl; (first | (with_reducible exact View.same _) | exact hvw hy fun o h => List.mem_cons_of_mem _ (List.mem_cons_of_mem _ (List.mem_cons_of_mem _ (List.mem_append_right _ (List.mem_append_left _ h))))))))) | refine c_ (fun hc => ?_) (fun hc => ?_) | refine g_ (fun hg => ?_) (fun hg => ?_))
  all_goals first
    | (exfalso; simp at hc; done)
    | skip
  refine ⟨?_⟩
  repeat' (first | refine W_ ?_ | refine c_ (fun hc => ?_) (fun hc => ?_) | refine g_ (fun hg => ?_) (fun hg => ?_))
  refine ao_pick (.perm (perm_m _ _ _ _ (cbO x y) _)) ?_
  repeat' (first | refine HV_ 16 ?_ | ((with_reducible apply o_callM); rfl; kernel_rfl; (repeat (first | exact ArgsM.nil | ((with_reducible apply ArgsM.cons); rfl))); exact hG; exact hl1; exact .app _ _; rintro ⟨⟩ -; refine al_pick (.perm (perm_m _ _ _ _ _ _).symm) ?_) | ((with_reducible apply o_callV); rfl; kernel_rfl; exact hG; exact hst; exact hqs; ((with_reducible apply Args.cons); rfl; exact hvs hyi fun o h => List.mem_cons_of_mem _ (List.mem_cons_of_mem _ (List.mem_cons_of_mem _ (List.mem_append_left _ h)))); ((with_reducible apply Args.cons); rfl; exact hvs hys fun o h => List.mem_cons_of_mem _ (List.mem_cons_of_mem _ (List.mem_cons_of_mem _ (List.mem_append_right _ (List.mem_append_right _ (List.mem_append_left _ h)))))); exact .nil) | refine c_ (fun hc => ?_) (fun hc => ?_) | refine g_ (fun hg => ?_) (fun hg => ?_))
  all_goals first
    | (exfalso; simp at hc; done)
    | skip
  refine ⟨?_⟩
  have hl2 := markImage_own hst sx yi hyi hsm 1 (by omega)
  unfold imC at hl2
  repeat' (first | refine W_ ?_ | refine c_ (fun hc => ?_) (fun hc => ?_) | refine g_ (fun hg => ?_) (fun hg => ?_))
  refine ao_pick (.perm (perm_n _ _ _ (imO sx yi) _)) ?_
  repeat' (first | refine H_ 18 ?_ | ((with_reducible apply o_callM); rfl; kernel_rfl; (repeat (first | exact ArgsM.nil | ((with_reducible apply ArgsM.cons); rfl))); exact hG; exact hl2; exact .app _ _; rintro ⟨⟩ -; refine al_pick (.perm (perm_n _ _ _ _ _).symm) ?_) | refine c_ (fun hc => ?_) (fun hc => ?_) | refine g_ (fun hg => ?_) (fun hg => ?_))
  refine ⟨?_⟩
  have hhd := heldImage_m hst 0 sx hsm 1 (by omega)
  have hkS := nxImage_in (x := sx) hsm 1
  have hvm : ∀ {objs : Objs}, (∀ o ∈ imO (mkImage 1 sx) yi, o ∈ objs) → View objs (.agg (imC sx yi)) (.agg ((mkImage 1 sx).tw 0)) := fun h => view_imm hyi h
  unfold imC at hvm
  generalize nxImage 1 sx = kq at hhd hkS ⊢
  repeat' (first | refine H_ 24 ?_ | ((with_reducible apply o_callV); rfl; kernel_rfl; exact hG; exact hst; exact hhd; ((with_reducible apply Args.cons); rfl; exact hvm fun o h => List.mem_cons_of_mem _ (List.mem_cons_of_mem _ (List.mem_cons_of_mem _ (List.mem_append_left _ h)))); ((with_reducible apply Args.cons); rfl; exact View.same _); exact Args.nil) | refine c_ (fun hc => ?_) (fun hc => ?_) | refine g_ (fun hg => ?_) (fun hg => ?_))
  all_goals first
    | (exfalso; simp at hc; done)
    | skip
  refine ⟨?_⟩
  repeat' (first | refine H_ 25 ?_ | (refine e_alloc ?_; intro ss bb) | refine e_storep ?_ | refine e_call hG hst (hto) ?_ | ((with_reducible apply o_callOV); rfl; kernel_rfl; exact hG; exact hst; exact him2; ((repeat (first | exact Args.nil | ((with_reducible apply Args.cons); rfl; (first | with_reducible exact View.same _ | ((with_reducible apply View.msAll); (repeat (first | with_reducible exact mh | with_reducible refine mt ?_)); (first | with_reducible assumption | exact bytR_length _ | exact intR_length _ | exact strR_length _ | exact List.length_map _ | assumption | rfl)) | ((with_reducible apply view_code); (repeat (first | with_reducible exact mh | with_reducible refine mt ?_)); (first | with_reducible assumption | exact bytR_length _ | exact intR_length _ | exact strR_length _ | exact List.length_map _ | assumption | rfl)) | ((with_reducible apply View.cut); exact View.cp0 _ _; rfl)))))); exact hnew; intro yj hyj) | refine c_ (fun hc => ?_) (fun hc => ?_) | refine g_ (fun hg => ?_) (fun hg => ?_))
  refine ⟨?_⟩
  generalize ss = s9; generalize bb = b9
  refine aw_pick (pick_box4 _ _ _ _ _ _) ?_
  repeat' (first | refine HV_ 28 ?_ | ((with_reducible apply o_callV); rfl; kernel_rfl; exact hG; exact hst; exact hqs; ((with_reducible apply Args.cons); rfl; exact hvs hyj fun o h => List.mem_cons_of_mem _ (List.mem_cons_of_mem _ (List.mem_cons_of_mem _ (List.mem_cons_of_mem _ (List.mem_append_left _ h))))); ((with_reducible apply Args.cons); rfl; exact hvs hys fun o h => List.mem_cons_of_mem _ (List.mem_cons_of_mem _ (List.mem_cons_of_mem _ (List.mem_cons_of_mem _ (List.mem_append_right _ (List.mem_append_right _ (List.mem_append_right _ (List.mem_append_left _ h)))))))); exact .nil) | refine c_ (fun hc => ?_) (fun hc => ?_) | refine g_ (fun hg => ?_) (fun hg => ?_))
  all_goals first
    | (exfalso; simp at hc; done)
    | skip
  refine ⟨?_⟩
  repeat' (first | refine W_ ?_ | ((with_reducible apply o_callV); rfl; kernel_rfl; exact hG; exact hst; exact hhd; ((with_reducible apply Args.cons); rfl; exact hvm fun o h => List.mem_cons_of_mem _ (List.mem_cons_of_mem _ (List.mem_cons_of_mem _ (List.mem_cons_of_mem _ (List.mem_append_right _ (List.mem_append_left _ h)))))); ((with_reducible apply Args.cons); rfl; exact View.same _); exact Args.nil) | refine c_ (fun hc => ?_) (fun hc => ?_) | refine g_ (fun hg => ?_) (fun hg => ?_))
  all_goals first
    | (exact r1_)
    | (exfalso; simp at hc; done)
end Go.Proofs.YtiihihgjiklnoaaGreatDoor
/- The law FnExactNewImage, with its arguments as the row's datum gives them. -/
namespace Go.Proofs.YtiihihgjiklnoaaGreatDoor
open Go Go.RowKit
theorem fnExactNewImage_any (w : World) (t : PT) (x : TCodeBase) (hat : TCodeBaseAt t x) (hsee : Seen w (· < w.heap.size) t) (hx : x.sane) (q : Int) (_ : i64 q) (hm : MaxL w) : Calls Tryz.prog 3 #[.agg t.cells.toArray, .int .i64 q] w fun e w' => e = .returned (.bool true) ∧ Below w.heap.size w w' := by
  have h0 : 0 < w.heap.size := by
    obtain ⟨m, hm⟩ := hm
    have := World.block_lt_of_cell? w _ hm
    omega
  have hok := tv_ok w _ _ hsee
  have hsm := codeBase_small hat hsee hx
  rw [codeBase_tvs hat] at hok
  refine (fnExactNewImage_ct x hsm q w _ h0 hm rfl ?_).mono ?_
  · intro i t v h1 h2
    match i, h1, h2 with
    | 0, h1, h2 =>
      cases h1; cases h2
      exact .agg _ _ hok.2.1 (by simpa using hok.1) (fun i t v ht hv => hok.2.2 i t v ht (by simpa using hv))
    | 1, h1, h2 =>
      cases h1; cases h2
      first
        | exact .int _ _
        | exact .int
        | constructor
  · rintro e w' ⟨v, rfl, hb, hr⟩
    have := (hr 0 (Nat.zero_le _)).bool_inv
    subst this
    exact ⟨rfl, hb⟩
end Go.Proofs.YtiihihgjiklnoaaGreatDoor
