/- Part 39 of the proof: the texts MkH, IvW, ShL, ShN, NiV. -/
import Derived.Test.YtiihihgjiklnoaaGreatDoorPart17
import Derived.Test.YtiihihgjiklnoaaGreatDoorPart21
import Derived.Test.YtiihihgjiklnoaaGreatDoorPart36
import Derived.Test.YtiihihgjiklnoaaGreatDoorPart38
import Derived.Test.YtiihihgjiklnoaaGreatDoorPart18
import Derived.Test.YtiihihgjiklnoaaGreatDoorPart24
import Derived.Test.YtiihihgjiklnoaaGreatDoorPart26
/- The laws' check of their marks. Written by gen_mk.py. -/
namespace Go.Proofs.YtiihihgjiklnoaaGreatDoor
set_option maxRecDepth 20000
open Go Go.RowKit
section
variable {G : World → Prop}
set_option maxHeartbeats 1000000 in
theorem heldStringS_m (hst : Stable G) (lo : Nat) (l : List ByteArray) (k : Int) (hn : l.length ≤ 1048576) (hk : 0 ≤ k ∧ k ≤ 1000000000000000) : Ct Tryz.prog G 29 [.sl lo 1 (strR (mkL mkString nxString k l)), .int .i64 k] (fun _ => .int .i64 (kL nxString k l)) := by
  refine ct_enter Tryz.func29 rfl Tryz.ntmps29 rfl rfl fun w0 _ hG => ?_
  have hrl : (strR (mkL mkString nxString k l)).length = l.length := by simp [strR, mkL_len]
  have hget := fun i (h : i < l.length) => mkL_get (mk := mkString) (nx := nxString) (k := k) h
  have hgr : ∀ i (h : i < l.length), (strR (mkL mkString nxString k l))[i]? = some [.str (markB (kL nxString k (l.take i)))] := fun i h => by
    simp only [strR, List.getElem?_map, hget i h]; rfl
  generalize strR (mkL mkString nxString k l) = rows at hrl hgr ⊢
  repeat' (first | refine W_ ?_ | refine c_ (fun hc => ?_) (fun hc => ?_) | refine g_ (fun hg => ?_) (fun hg => ?_))
  apply aw_loopk (X := Nat) [0] (fun x => [(5, .int .i64 (x : Int)), (1, .int .i64 (kL nxString k (l.take x)))]) (fun _ => []) (fun x => x ≤ l.length) (fun x => l.length - x) 0 (Nat.zero_le _)
  exact kp_; exact nw_
  · exact .refl _
  intro i hi
  try dsimp only
  have hq := kL_take (k := k) (i := i) hn (nxString_in l) hi
  by_cases hlt : i < l.length
  · have hrow := hgr i hlt
    have hks : kL nxString k (l.take (i + 1)) = kL nxString k (l.take i) + 1 := kL_snoc hlt
    generalize kL nxString k (l.take i) = q at hq hrow hks ⊢
    have hs0 : ¬ markB (q) ≠ markB (q) := fun h => h rfl
    have hm0 := markText_ct (G := G) (q) (by omega) (by omega)
    repeat' (first | refine V_ ?_ | refine e_call hG hst (hm0) ?_ | refine e_calld hG hst (hm0) ?_ | refine c_ (fun hc => ?_) (fun hc => ?_) | refine g_ (fun hg => ?_) (fun hg => ?_))
    all_goals first
      | exact aq_round (i + 1) (by omega) (by omega) (.of _ (Weak.envCons rfl (Weak.envCons (lk_int rfl (by rw [hks])) Weak.envNil)) od_ pk_)
      | (exfalso; simp_all; done)
  · obtain rfl : i = l.length := by omega
    rw [List.take_length]
    repeat' (first | refine W_ ?_ | refine c_ (fun hc => ?_) (fun hc => ?_) | refine g_ (fun hg => ?_) (fun hg => ?_))
    exact r1_
set_option maxHeartbeats 1000000 in
theorem heldInstrS_m (hst : Stable G) (lo : Nat) (l : List TInstr) (k : Int) (hn : l.length ≤ 1048576) (hk : 0 ≤ k ∧ k ≤ 1000000000000000) : Ct Tryz.prog G 226 [.sl lo 4 ((mkL mkInstr nxInstr k l).map (TInstr.tw lo)), .int .i64 k] (fun _ => .int .i64 (kL nxInstr k l)) := by
  refine ct_enter Tryz.func226 rfl Tryz.ntmps226 rfl rfl fun w0 _ hG => ?_
  have hrl : ((mkL mkInstr nxInstr k l).map (TInstr.tw lo)).length = l.length := by simp [mkL_len]
  have hget := fun i (h : i < l.length) => mkL_get (mk := mkInstr) (nx := nxInstr) (k := k) h
  have hgr : ∀ i (h : i < l.length), ((mkL mkInstr nxInstr k l).map (TInstr.tw lo))[i]? = some [.int .i64 (kL nxInstr k (l.take i)), .int .i64 (kL nxInstr k (l.take i) + 1), .int .i64 (kL nxInstr k (l.take i) + 1 + 1), .str (markB (kL nxInstr k (l.take i) + 1 + 1 + 1))] := fun i h => by
    simp only [List.getElem?_map, hget i h]; rfl
  generalize (mkL mkInstr nxInstr k l).map (TInstr.tw lo) = rows at hrl hgr ⊢
  repeat' (first | refine W_ ?_ | refine c_ (fun hc => ?_) (fun hc => ?_) | refine g_ (fun hg => ?_) (fun hg => ?_))
  apply aw_loopk (X := Nat) [0] (fun x => [(5, .int .i64 (x : Int)), (1, .int .i64 (kL nxInstr k (l.take x)))]) (fun _ => []) (fun x => x ≤ l.length) (fun x => l.length - x) 0 (Nat.zero_le _)
  exact kp_; exact nw_
  · exact .refl _
  intro i hi
  try dsimp only
  have hq := kL_take (k := k) (i := i) hn (nxInstr_in l) hi
  by_cases hlt : i < l.length
  · have hrow := hgr i hlt
    have hks : kL nxInstr k (l.take (i + 1)) = kL nxInstr k (l.take i) + 1 + 1 + 1 + 1 := kL_snoc hlt
    generalize kL nxInstr k (l.take i) = q at hq hrow hks ⊢
    have hi0 : ¬ (q) ≠ (q) := fun h => h rfl
    have hi1 : ¬ (q + 1) ≠ (q + 1) := fun h => h rfl
    have hi2 : ¬ (q + 1 + 1) ≠ (q + 1 + 1) := fun h => h rfl
    have hs3 : ¬ markB (q + 1 + 1 + 1) ≠ markB (q + 1 + 1 + 1) := fun h => h rfl
    have hm3 := markText_ct (G := G) (q + 1 + 1 + 1) (by omega) (by omega)
    repeat' (first | refine V_ ?_ | refine e_call hG hst (hm3) ?_ | refine e_calld hG hst (hm3) ?_ | refine c_ (fun hc => ?_) (fun hc => ?_) | refine g_ (fun hg => ?_) (fun hg => ?_))
    all_goals first
      | exact aq_round (i + 1) (by omega) (by omega) (.of _ (Weak.envCons rfl (Weak.envCons (lk_int rfl (by rw [hks])) Weak.envNil)) od_ pk_)
      | (exfalso; simp_all; done)
  · obtain rfl : i = l.length := by omega
    rw [List.take_length]
    repeat' (first | refine W_ ?_ | refine c_ (fun hc => ?_) (fun hc => ?_) | refine g_ (fun hg => ?_) (fun hg => ?_))
    exact r1_
set_option maxHeartbeats 1000000 in
theorem heldEntryS_m (hst : Stable G) (lo : Nat) (l : List TEntry) (k : Int) (hn : l.length ≤ 1048576) (hk : 0 ≤ k ∧ k ≤ 1000000000000000) : Ct Tryz.prog G 154 [.sl lo 4 ((mkL mkEntry nxEntry k l).map (TEntry.tw lo)), .int .i64 k] (fun _ => .int .i64 (kL nxEntry k l)) := by
  refine ct_enter Tryz.func154 rfl Tryz.ntmps154 rfl rfl fun w0 _ hG => ?_
  have hrl : ((mkL mkEntry nxEntry k l).map (TEntry.tw lo)).length = l.length := by simp [mkL_len]
  have hget := fun i (h : i < l.length) => mkL_get (mk := mkEntry) (nx := nxEntry) (k := k) h
  have hgr : ∀ i (h : i < l.length), ((mkL mkEntry nxEntry k l).map (TEntry.tw lo))[i]? = some [.int .i64 (kL nxEntry k (l.take i)), .bool (decide ((kL nxEntry k (l.take i) + 1).tmod 3 = 0)), .str (markB (kL nxEntry k (l.take i) + 1 + 1)), .int .i64 (kL nxEntry k (l.take i) + 1 + 1 + 1)] := fun i h => by
    simp only [List.getElem?_map, hget i h]; rfl
  generalize (mkL mkEntry nxEntry k l).map (TEntry.tw lo) = rows at hrl hgr ⊢
  repeat' (first | refine W_ ?_ | refine c_ (fun hc => ?_) (fun hc => ?_) | refine g_ (fun hg => ?_) (fun hg => ?_))
  apply aw_loopk (X := Nat) [0] (fun x => [(5, .int .i64 (x : Int)), (1, .int .i64 (kL nxEntry k (l.take x)))]) (fun _ => []) (fun x => x ≤ l.length) (fun x => l.length - x) 0 (Nat.zero_le _)
  exact kp_; exact nw_
  · exact .refl _
  intro i hi
  try dsimp only
  have hq := kL_take (k := k) (i := i) hn (nxEntry_in l) hi
  by_cases hlt : i < l.length
  · have hrow := hgr i hlt
    have hks : kL nxEntry k (l.take (i + 1)) = kL nxEntry k (l.take i) + 1 + 1 + 1 + 1 := kL_snoc hlt
    generalize kL nxEntry k (l.take i) = q at hq hrow hks ⊢
    have hi0 : ¬ (q) ≠ (q) := fun h => h rfl
    have hb1 : (decide ((q + 1).tmod 3 = 0) != decide ((q + 1).tmod 3 = 0)) = false := by simp
    have hs2 : ¬ markB (q + 1 + 1) ≠ markB (q + 1 + 1) := fun h => h rfl
    have hm2 := markText_ct (G := G) (q + 1 + 1) (by omega) (by omega)
    have hi3 : ¬ (q + 1 + 1 + 1) ≠ (q + 1 + 1 + 1) := fun h => h rfl
    repeat' (first | refine V_ ?_ | refine e_call hG hst (hm2) ?_ | refine e_calld hG hst (hm2) ?_ | refine c_ (fun hc => ?_) (fun hc => ?_) | refine g_ (fun hg => ?_) (fun hg => ?_))
    all_goals first
      | exact aq_round (i + 1) (by omega) (by omega) (.of _ (Weak.envCons rfl (Weak.envCons (lk_int rfl (by rw [hks])) Weak.envNil)) od_ pk_)
      | (exfalso; simp_all; done)
  · obtain rfl : i = l.length := by omega
    rw [List.take_length]
    repeat' (first | refine W_ ?_ | refine c_ (fun hc => ?_) (fun hc => ?_) | refine g_ (fun hg => ?_) (fun hg => ?_))
    exact r1_
set_option maxHeartbeats 1000000 in
theorem heldClassInfoS_m (hst : Stable G) (lo : Nat) (l : List TClassInfo) (k : Int) (hn : l.length ≤ 1048576 ∧ ∀ y ∈ l, TClassInfo.small 1048576 y) (hk : 0 ≤ k ∧ k ≤ 100000000000000) : Ct Tryz.prog G 152 [.sl lo 3 ((mkL mkClassInfo nxClassInfo k l).map (TClassInfo.tw lo)), .int .i64 k] (fun _ => .int .i64 (kL nxClassInfo k l)) := by
  refine ct_enter Tryz.func152 rfl Tryz.ntmps152 rfl rfl fun w0 _ hG => ?_
  obtain ⟨hn, hsm⟩ := hn
  have hrl : ((mkL mkClassInfo nxClassInfo k l).map (TClassInfo.tw lo)).length = l.length := by simp [mkL_len]
  have hgr : ∀ i (h : i < l.length), ((mkL mkClassInfo nxClassInfo k l).map (TClassInfo.tw lo))[i]? = some ((mkClassInfo (kL nxClassInfo k (l.take i)) l[i]).tw lo) := fun i h => by
    simp only [List.getElem?_map, mkL_get (mk := mkClassInfo) (nx := nxClassInfo) (k := k) h]; rfl
  generalize (mkL mkClassInfo nxClassInfo k l).map (TClassInfo.tw lo) = rows at hrl hgr ⊢
  repeat' (first | refine W_ ?_ | refine c_ (fun hc => ?_) (fun hc => ?_) | refine g_ (fun hg => ?_) (fun hg => ?_))
  apply aw_loopk (X := Nat) [0] (fun x => [(5, .int .i64 (x : Int)), (1, .int .i64 (kL nxClassInfo k (l.take x)))]) (fun _ => []) (fun x => x ≤ l.length) (fun x => l.length - x) 0 (Nat.zero_le _)
  exact kp_; exact nw_
  · exact .refl _
  intro i hi
  try dsimp only
  have hq := kL_take (k := k) (i := i) hn (nxClassInfo_in hsm) hi
  by_cases hlt : i < l.length
  · have hrow := hgr i hlt
    have hks := kL_snoc (nx := nxClassInfo) (k := k) hlt
    have hb := hsm _ (List.getElem_mem hlt)
    generalize kL nxClassInfo k (l.take i) = q at hq hrow hks ⊢
    generalize l[i] = x at hrow hks hb
    replace hrow : rows[i]? = some [.str (markB (q)), .int .i64 (q + 1), .sl lo 1 (strR (mkL mkString nxString (q + 1 + 1) x.fields))] := hrow
    have hin := heldStringS_m hst lo x.fields (q + 1 + 1) hb.2.1 (by omega)
    have hinr := kL_in (nx := nxString) (l := x.fields) (k := q + 1 + 1) (nxString_in _)
    have hks2 : kL nxClassInfo k (l.take (i + 1)) = kL nxString (q + 1 + 1) x.fields := hks
    have hs0 : ¬ markB (q) ≠ markB (q) := fun h => h rfl
    have hm0 := markText_ct (G := G) (q) (by omega) (by omega)
    have hi1 : ¬ (q + 1) ≠ (q + 1) := fun h => h rfl
    repeat' (first | refine V_ ?_ | refine e_call hG hst (hm0) ?_ | refine e_call hG hst (hin) ?_ | refine e_calld hG hst (hm0) ?_ | refine e_calld hG hst (hin) ?_ | refine c_ (fun hc => ?_) (fun hc => ?_) | refine g_ (fun hg => ?_) (fun hg => ?_))
    all_goals first
      | exact aq_round (i + 1) (by omega) (by omega) (.of _ (Weak.envCons rfl (Weak.envCons (lk_int rfl (by rw [hks2])) Weak.envNil)) od_ pk_)
      | (exfalso; simp_all; done)
      | (exfalso; omega)
  · obtain rfl : i = l.length := by omega
    rw [List.take_length]
    repeat' (first | refine W_ ?_ | refine c_ (fun hc => ?_) (fun hc => ?_) | refine g_ (fun hg => ?_) (fun hg => ?_))
    exact r1_
set_option maxHeartbeats 1000000 in
theorem heldCodeS_m (hst : Stable G) (lo : Nat) (l : List TCode) (k : Int) (hn : l.length ≤ 1048576 ∧ ∀ y ∈ l, TCode.small 1048576 y) (hk : 0 ≤ k ∧ k ≤ 100000000000000) : Ct Tryz.prog G 153 [.sl lo 4 ((mkL mkCode nxCode k l).map (TCode.tw lo)), .int .i64 k] (fun _ => .int .i64 (kL nxCode k l)) := by
  refine ct_enter Tryz.func153 rfl Tryz.ntmps153 rfl rfl fun w0 _ hG => ?_
  obtain ⟨hn, hsm⟩ := hn
  have hrl : ((mkL mkCode nxCode k l).map (TCode.tw lo)).length = l.length := by simp [mkL_len]
  have hgr : ∀ i (h : i < l.length), ((mkL mkCode nxCode k l).map (TCode.tw lo))[i]? = some ((mkCode (kL nxCode k (l.take i)) l[i]).tw lo) := fun i h => by
    simp only [List.getElem?_map, mkL_get (mk := mkCode) (nx := nxCode) (k := k) h]; rfl
  generalize (mkL mkCode nxCode k l).map (TCode.tw lo) = rows at hrl hgr ⊢
  repeat' (first | refine W_ ?_ | refine c_ (fun hc => ?_) (fun hc => ?_) | refine g_ (fun hg => ?_) (fun hg => ?_))
  apply aw_loopk (X := Nat) [0] (fun x => [(5, .int .i64 (x : Int)), (1, .int .i64 (kL nxCode k (l.take x)))]) (fun _ => []) (fun x => x ≤ l.length) (fun x => l.length - x) 0 (Nat.zero_le _)
  exact kp_; exact nw_
  · exact .refl _
  intro i hi
  try dsimp only
  have hq := kL_take (k := k) (i := i) hn (nxCode_in hsm) hi
  by_cases hlt : i < l.length
  · have hrow := hgr i hlt
    have hks := kL_snoc (nx := nxCode) (k := k) hlt
    have hb := hsm _ (List.getElem_mem hlt)
    generalize kL nxCode k (l.take i) = q at hq hrow hks ⊢
    generalize l[i] = x at hrow hks hb
    replace hrow : rows[i]? = some [.bool (decide ((q).tmod 3 = 0)), .int .i64 (q + 1), .int .i64 (q + 1 + 1), .sl lo 4 ((mkL mkInstr nxInstr (q + 1 + 1 + 1) x.instrs).map (TInstr.tw lo))] := hrow
    have hin := heldInstrS_m hst lo x.instrs (q + 1 + 1 + 1) hb.1 (by omega)
    have hinr := kL_in (nx := nxInstr) (l := x.instrs) (k := q + 1 + 1 + 1) (nxInstr_in _)
    have hks2 : kL nxCode k (l.take (i + 1)) = kL nxInstr (q + 1 + 1 + 1) x.instrs := hks
    have hb0 : (decide ((q).tmod 3 = 0) != decide ((q).tmod 3 = 0)) = false := by simp
    have hi1 : ¬ (q + 1) ≠ (q + 1) := fun h => h rfl
    have hi2 : ¬ (q + 1 + 1) ≠ (q + 1 + 1) := fun h => h rfl
    repeat' (first | refine V_ ?_ | refine e_call hG hst (hin) ?_ | refine e_calld hG hst (hin) ?_ | refine c_ (fun hc => ?_) (fun hc => ?_) | refine g_ (fun hg => ?_) (fun hg => ?_))
    all_goals first
      | exact aq_round (i + 1) (by omega) (by omega) (.of _ (Weak.envCons rfl (Weak.envCons (lk_int rfl (by rw [hks2])) Weak.envNil)) od_ pk_)
      | (exfalso; simp_all; done)
      | (exfalso; omega)
  · obtain rfl : i = l.length := by omega
    rw [List.take_length]
    repeat' (first | refine W_ ?_ | refine c_ (fun hc => ?_) (fun hc => ?_) | refine g_ (fun hg => ?_) (fun hg => ?_))
    exact r1_
theorem heldCodeBase_m (hst : Stable G) (lo : Nat) (x : TCodeBase) (hb : x.small 1048576) (k : Int) (hk : 0 ≤ k ∧ k ≤ 50000000000000) : Ct Tryz.prog G 72 [.agg ((mkCodeBase k x).tw lo), .int .i64 k] (fun _ => .int .i64 (nxCodeBase k x)) := by
  refine ct_enter Tryz.func72 rfl Tryz.ntmps72 rfl rfl fun w0 _ hG => ?_
  have h1 := kL_take (k := k) (i := x.classes.length) hb.1.1 (nxClassInfo_in hb.1.2) (Nat.le_refl _)
  have h2 := kL_take (k := kL nxClassInfo k x.classes) (i := x.codes.length) hb.2.1.1 (nxCode_in hb.2.1.2) (Nat.le_refl _)
  have h3 := kL_take (k := kL nxCode (kL nxClassInfo k x.classes) x.codes) (i := x.entries.length) hb.2.2.1 (nxEntry_in x.entries) (Nat.le_refl _)
  rw [List.take_length] at h1 h2 h3
  have c1 := heldClassInfoS_m hst lo x.classes k hb.1 (by omega)
  have c2 := heldCodeS_m hst lo x.codes (kL nxClassInfo k x.classes) hb.2.1 (by omega)
  have c3 := heldEntryS_m hst lo x.entries (kL nxCode (kL nxClassInfo k x.classes) x.codes) hb.2.2.1 (by omega)
  unfold TCodeBase.tw mkCodeBase nxCodeBase
  dsimp only
  repeat' (first | refine W_ ?_ | refine e_box ?_ | refine e_call hG hst (c1) ?_ | refine e_call hG hst (c2) ?_ | refine e_call hG hst (c3) ?_ | refine c_ (fun hc => ?_) (fun hc => ?_) | refine g_ (fun hg => ?_) (fun hg => ?_))
  exact r1_
end
end Go.Proofs.YtiihihgjiklnoaaGreatDoor
/- The law FnExactIsVerified, walked. -/
namespace Go.Proofs.YtiihihgjiklnoaaGreatDoor
set_option maxRecDepth 20000
set_option maxHeartbeats 2000000
open Go Go.RowKit
/-- What a code base is to the walk, and its sizes. -/
theorem atL_tvs {α : Type} {R : PT → α → Prop} {f : α → List TV} {l : List PT} {xs : List α} (h : AtL R l xs) (hf : ∀ t x, R t x → t.tvs = f x) : PT.rowsL l = xs.map f := by
  rw [PT.rowsL_map]
  apply List.ext_getElem?
  intro i
  simp only [List.getElem?_map]
  by_cases hi : i < l.length
  · have hj : i < xs.length := by rw [← h.1]; exact hi
    rw [List.getElem?_eq_getElem hi, List.getElem?_eq_getElem hj]
    simp only [Option.map_some]
    rw [hf _ _ (h.get hi)]
  · rw [List.getElem?_eq_none (by omega), List.getElem?_eq_none (by rw [← h.1]; omega)]; rfl
theorem classInfo_tvs {t : PT} {x : TClassInfo} (h : TClassInfoAt t x) : t.tvs = x.tw 0 := by
  obtain ⟨A, c, rfl⟩ := h
  simp [PT.tvs, PT.tvsL, TClassInfo.tw, strR, PT.rowsL_map, Function.comp_def]
theorem code_tvs {t : PT} {x : TCode} (h : TCodeAt t x) : t.tvs = x.tw 0 := by
  obtain ⟨A, c, rfl⟩ := h
  simp [PT.tvs, PT.tvsL, TCode.tw, TInstr.pt, TInstr.tw, PT.rowsL_map, Function.comp_def]
theorem codeBase_tvs {t : PT} {x : TCodeBase} (h : TCodeBaseAt t x) : t.tvs = x.tw 0 := by
  obtain ⟨A0, c0, l0, A1, c1, l1, A2, c2, h0, h1, rfl⟩ := h
  simp only [PT.tvs, PT.tvsL, TCodeBase.tw, atL_tvs h0 (fun _ _ => classInfo_tvs), atL_tvs h1 (fun _ _ => code_tvs), PT.rowsL_map, List.map_map, List.append_nil, List.cons_append, List.nil_append]
  rfl
theorem classInfo_small {w : World} {S : Nat → Prop} {t : PT} {x : TClassInfo} (h : TClassInfoAt t x) (hs : Seen w S t) (hx : x.sane) : TClassInfo.small 9223372036854775807 x := by
  obtain ⟨A, c, rfl⟩ := h
  simp only [Seen, SeenL] at hs
  have h1 := hs.2.2.1.1
  have h2 := hs.2.2.1.2.1
  simp only [List.length_map] at h1
  exact ⟨hx.1, Nat.le_trans h1 h2, hx.2.2⟩
theorem code_small {w : World} {S : Nat → Prop} {t : PT} {x : TCode} (h : TCodeAt t x) (hs : Seen w S t) (hx : x.sane) : TCode.small 9223372036854775807 x := by
  obtain ⟨A, c, rfl⟩ := h
  simp only [Seen, SeenL] at hs
  have h1 := hs.2.2.2.1.1
  have h2 := hs.2.2.2.1.2.1
  simp only [List.length_map] at h1
  exact ⟨Nat.le_trans h1 h2, fun y hy => (hx.2.2 y hy).2.2.2⟩
theorem seenL_get {w : World} {S : Nat → Prop} : ∀ {l : List PT}, SeenL w S l → ∀ t ∈ l, Seen w S t
  | _ :: _, h, t, ht => by
    simp only [SeenL] at h
    rcases List.mem_cons.1 ht with rfl | ht
    · exact h.1
    · exact seenL_get h.2 t ht
theorem atL_small {α : Type} {R : PT → α → Prop} {w : World} {S : Nat → Prop} {l : List PT} {xs : List α} (h : AtL R l xs) (hs : SeenL w S l) {p q : α → Prop} (hp : ∀ t x, R t x → Seen w S t → p x → q x) (ha : ∀ x ∈ xs, p x) : ∀ x ∈ xs, q x := fun x hx => by
  obtain ⟨i, hi, rfl⟩ := List.getElem_of_mem hx
  have hj : i < l.length := by rw [h.1]; exact hi
  exact hp l[i] _ (h.get hj) (seenL_get hs _ (List.getElem_mem hj)) (ha _ hx)
theorem codeBase_small {w : World} {S : Nat → Prop} {t : PT} {x : TCodeBase} (h : TCodeBaseAt t x) (hs : Seen w S t) (hx : x.sane) : TCodeBase.small 9223372036854775807 x := by
  obtain ⟨A0, c0, l0, A1, c1, l1, A2, c2, h0, h1, rfl⟩ := h
  simp only [Seen, SeenL] at hs
  obtain ⟨⟨a1, a2, _, _, a5⟩, ⟨b1, b2, _, _, b5⟩, ⟨d1, d2, _, _, _⟩, _⟩ := hs
  simp only [List.length_map] at d1
  exact ⟨⟨by rw [← h0.1]; exact Nat.le_trans a1 a2, atL_small h0 a5 (fun _ _ => classInfo_small) hx.1⟩, ⟨by rw [← h1.1]; exact Nat.le_trans b1 b2, atL_small h1 b5 (fun _ _ => code_small) hx.2.1⟩, ⟨Nat.le_trans d1 d2, fun y hy => (hx.2.2.1 y hy).2.1⟩⟩
end Go.Proofs.YtiihihgjiklnoaaGreatDoor
/- The law FnExactShakeBase (under way): what the marks and the calls want of an owned code base. -/
namespace Go.Proofs.YtiihihgjiklnoaaGreatDoor
open Go Go.RowKit
theorem newOk_mono {objs objs' : Objs} (h : ∀ o ∈ objs, o ∈ objs') {t : TV} (k : NewOk objs t) : NewOk objs' t := by
  induction k with
  | flat t h => exact .flat t h
  | nils => exact .nils
  | ms s b off len m rows hm => exact .ms s b off len m rows (h _ hm)
  | agg l _ ih => exact .agg l ih
  | tup l _ ih => exact .tup l ih
theorem objNew_mono {objs objs' : Objs} (h : ∀ o ∈ objs, o ∈ objs') {o : TObj} (k : ObjNew objs o) : ObjNew objs' o := by
  cases o with
  | row m rows => exact fun t ht => newOk_mono h (k t ht)
  | box cells => exact fun t ht => newOk_mono h (k t ht)
  | _ => exact k
theorem codMk_new2 (x : TCode) (p : Nat × Nat) (objs : Objs) (h : (p.1, p.2, codOb x) ∈ objs) : ∀ t ∈ codMk x p, NewOk objs t := fun t ht => by
  simp only [codMk, List.mem_cons, List.not_mem_nil, or_false] at ht
  rcases ht with rfl | rfl | rfl | rfl
  · exact .flat _ rfl
  · exact .flat _ rfl
  · exact .flat _ rfl
  · exact .ms _ _ _ _ _ _ h
theorem codOb_new (x : TCode) (objs : Objs) : ObjNew objs (codOb x) := flat_new fun t ht => by
  obtain ⟨r, hr, htr⟩ := List.mem_flatten.1 ht
  obtain ⟨i, _, rfl⟩ := List.mem_map.1 hr
  simp only [TInstr.tw, List.mem_cons, List.not_mem_nil, or_false] at htr
  rcases htr with rfl | rfl | rfl | rfl <;> rfl
theorem entOb_new (l : List TEntry) (objs : Objs) : ObjNew objs (.row 4 (l.map (TEntry.tw 0))) := flat_new fun t ht => by
  obtain ⟨r, hr, htr⟩ := List.mem_flatten.1 ht
  obtain ⟨i, _, rfl⟩ := List.mem_map.1 hr
  simp only [TEntry.tw, List.mem_cons, List.not_mem_nil, or_false] at htr
  rcases htr with rfl | rfl | rfl | rfl <;> rfl
theorem cb_new (x : TCodeBase) (y : CbP) : (∀ s b o, (s, b, o) ∈ cbO x y → ObjNew (cbO x y) o) ∧ NewOk (cbO x y) (.agg (cbC x y)) := by
  have h1 := nest_new (m := 3) (s := y.1.1.1) (b := y.1.1.2) (n := x.classes.length) clsMk_new clsOb_new x.classes y.1.2
  have h2 := nest_new (m := 4) (s := y.2.1.1.1) (b := y.2.1.1.2) (n := x.codes.length) codMk_new2 codOb_new x.codes y.2.1.2
  have m1 : ∀ o ∈ clsO x.classes y.1, o ∈ cbO x y := fun o h => List.mem_append_left _ h
  have m2 : ∀ o ∈ codO x.codes y.2.1, o ∈ cbO x y := fun o h => List.mem_append_right _ (List.mem_append_left _ h)
  have m3 : ∀ o ∈ entO x.entries y.2.2, o ∈ cbO x y := fun o h => List.mem_append_right _ (List.mem_append_right _ h)
  refine ⟨fun s b o h => ?_, .agg _ fun t ht => ?_⟩
  · rcases List.mem_append.1 h with h | h
    · exact objNew_mono m1 (h1.1 s b o h)
    · rcases List.mem_append.1 h with h | h
      · exact objNew_mono m2 (h2.1 s b o h)
      · simp only [entO, List.mem_singleton, Prod.mk.injEq] at h
        obtain ⟨_, _, rfl⟩ := h
        exact entOb_new _ _
  · simp only [cbC, List.mem_cons, List.not_mem_nil, or_false] at ht
    rcases ht with rfl | rfl | rfl | rfl
    · exact newOk_mono m1 h1.2
    · exact newOk_mono m2 h2.2
    · exact .ms _ _ _ _ _ _ (m3 _ List.mem_cons_self)
    · exact .flat _ rfl
end Go.Proofs.YtiihihgjiklnoaaGreatDoor
/- What the laws of functions that give back a code base share. -/
namespace Go.Proofs.YtiihihgjiklnoaaGreatDoor
open Go Go.RowKit
instance : Enc CbP := inferInstanceAs (Enc (((Nat × Nat) × List (Nat × Nat)) × ((Nat × Nat) × List (Nat × Nat)) × (Nat × Nat)))
theorem pick_box3 (a b c : Nat × Nat × TObj) (A B C : Objs) : Pick (a :: b :: c :: (A ++ (B ++ C))) (a :: (A ++ (b :: (B ++ (c :: C))))) := .perm (by
  have h1 : (A ++ (b :: (B ++ (c :: C)))).Perm (b :: (A ++ (B ++ (c :: C)))) := List.perm_middle
  have h2 : (A ++ (B ++ (c :: C))).Perm (c :: (A ++ (B ++ C))) := by
    have : ((A ++ B) ++ (c :: C)).Perm (c :: ((A ++ B) ++ C)) := List.perm_middle
    simpa using this
  exact ((h1.trans (h2.cons b)).cons a).symm)
theorem perm_m (a b c : Nat × Nat × TObj) (A B C : Objs) : (B ++ (a :: b :: c :: (A ++ C))).Perm (a :: b :: c :: (A ++ (B ++ C))) := by
  have h := List.perm_append_comm_assoc B ([a, b, c] ++ A) C
  simpa using h
theorem perm_n (a b c : Nat × Nat × TObj) (A C : Objs) : (A ++ (a :: b :: c :: C)).Perm (a :: b :: c :: (A ++ C)) := by
  have h := List.perm_append_comm_assoc A [a, b, c] C
  simpa using h
theorem pick_box4 (a b c d : Nat × Nat × TObj) (Y Z : Objs) : Pick (a :: b :: c :: d :: (Y ++ Z)) (a :: (Y ++ (b :: c :: d :: Z))) := .perm (by
  have h := List.perm_append_comm_assoc Y [b, c, d] Z
  exact (h.symm.cons a))
end Go.Proofs.YtiihihgjiklnoaaGreatDoor
/- An owned image as it looks to who only reads it, and as a call gives it back. -/
namespace Go.Proofs.YtiihihgjiklnoaaGreatDoor
open Go Go.RowKit
theorem viewL_zipg {α β : Type} {objs : Objs} {f : α → List TV} {mk : α → β → List TV} {ob : α → β → Objs} (h : ∀ x p, (∀ o ∈ ob x p, o ∈ objs) → ViewL objs (mk x p) (f x)) : ∀ (l : List α) (ps : List β), ps.length = l.length → (∀ o ∈ nOg ob l ps, o ∈ objs) → ViewL objs (nRg mk l ps).flatten (l.map f).flatten ∧ (l.map f).map List.length = (nRg mk l ps).map List.length
  | [], ps, hl, _ => by simp [nRg, ViewL]
  | x :: l, [], hl, _ => by simp at hl
  | x :: l, p :: ps, hl, hm => by
    have h1 := h x p (fun o ho => hm o (by simp only [nOg, List.zipWith_cons_cons, List.flatten_cons, List.mem_append]; exact .inl ho))
    obtain ⟨h2, h3⟩ := viewL_zipg h l ps (by simpa using hl) (fun o ho => hm o (by simp only [nOg, List.zipWith_cons_cons, List.flatten_cons, List.mem_append]; exact .inr ho))
    exact ⟨h1.append h2, by
      show (f x).length :: (l.map f).map List.length = (mk x p).length :: (nRg mk l ps).map List.length
      rw [h3, h1.1]⟩
theorem view_zipg {α β : Type} {objs : Objs} {f : α → List TV} {mk : α → β → List TV} {ob : α → β → Objs} {m s b : Nat} (h : ∀ x p, (∀ o ∈ ob x p, o ∈ objs) → ViewL objs (mk x p) (f x)) {l : List α} {ps : List β} (hl : ps.length = l.length) (hm : (s, b, TObj.row m (nRg mk l ps)) ∈ objs) (hp : ∀ o ∈ nOg ob l ps, o ∈ objs) : View objs (.ms s b 0 l.length) (.sl 0 m (l.map f)) := by
  obtain ⟨h1, h2⟩ := viewL_zipg h l ps hl hp
  have h3 := nRg_len mk hl
  exact .ms s b 0 l.length m _ _ _ hm (by omega) rfl (by rw [List.drop_zero, List.take_of_length_le (by omega)]; exact h2) (by rw [List.drop_zero, List.take_of_length_le (by omega)]; exact h1.2)
theorem intR_len (l : List Int) : (intR l).length = l.length := by simp [intR]
theorem view_obj {objs : Objs} (x : TObject) (p : Pl × Pl) (h : ∀ o ∈ objOb x p, o ∈ objs) : ViewL objs (objMk x p) (x.tw 0) :=
  .cons (.same _) (.cons (.same _) (.cons (.msAll (h _ List.mem_cons_self) (by simp)) (.cons (.msAll (h _ (List.mem_cons_of_mem _ List.mem_cons_self)) (intR_len _)) .nil)))
theorem view_ctx {objs : Objs} (x : TContext) (p : Pl × Pl × Pl) (h : ∀ o ∈ ctxOb x p, o ∈ objs) : ViewL objs (ctxMk x p) (x.tw 0) :=
  .cons (.same _) (.cons (.same _) (.cons (.same _) (.cons (.same _) (.cons (.same _) (.cons (.same _) (.cons (.same _) (.cons (.same _) (.cons (.same _) (.cons (.msAll (h _ List.mem_cons_self) (by simp)) (.cons (.msAll (h _ (List.mem_cons_of_mem _ List.mem_cons_self)) (by simp)) (.cons (.msAll (h _ (List.mem_cons_of_mem _ (List.mem_cons_of_mem _ List.mem_cons_self))) (by simp)) (.cons (.same _) (.cons (.same _) .nil)))))))))))))
theorem viewL_cb {objs : Objs} {x : TCodeBase} {y : CbP} (hy : cbI x y) (hm : ∀ o ∈ cbO x y, o ∈ objs) : ViewL objs (cbC x y) (x.tw 0) := by
  have h1 : ∀ o ∈ clsO x.classes y.1, o ∈ objs := fun o h => hm o (List.mem_append_left _ h)
  have h2 : ∀ o ∈ codO x.codes y.2.1, o ∈ objs := fun o h => hm o (List.mem_append_right _ (List.mem_append_left _ h))
  have h3 : ∀ o ∈ entO x.entries y.2.2, o ∈ objs := fun o h => hm o (List.mem_append_right _ (List.mem_append_right _ h))
  exact (ViewL.cons (view_zip view_cls hy.1 (h1 _ List.mem_cons_self) (fun o h => h1 o (List.mem_cons_of_mem _ h))) (ViewL.cons (view_zip view_cod hy.2 (h2 _ List.mem_cons_self) (fun o h => h2 o (List.mem_cons_of_mem _ h))) (ViewL.cons (View.msAll (len := x.entries.length) (h3 _ List.mem_cons_self) (by simp)) (ViewL.cons (View.same (.int .i64 x.main)) ViewL.nil))))
theorem viewL_st {objs : Objs} {x : TStore} {y : StP} (hy : stI x y) (hm : ∀ o ∈ stO x y, o ∈ objs) : ViewL objs (stC x y) (x.tw 0) := by
  have h1 : ∀ o ∈ clsO x.classes y.1, o ∈ objs := fun o h => hm o (List.mem_append_left _ h)
  have h2 : ∀ o ∈ objO x.objects y.2.1, o ∈ objs := fun o h => hm o (List.mem_append_right _ (List.mem_append_left _ h))
  have h3 : ∀ o ∈ [(y.2.2.1, y.2.2.2, TObj.row 1 (strR x.output))], o ∈ objs := fun o h => hm o (List.mem_append_right _ (List.mem_append_right _ h))
  exact (ViewL.cons (view_zip view_cls hy.1 (h1 _ List.mem_cons_self) (fun o h => h1 o (List.mem_cons_of_mem _ h))) (ViewL.cons (view_zipg view_obj hy.2 (h2 _ List.mem_cons_self) (fun o h => h2 o (List.mem_cons_of_mem _ h))) (ViewL.cons (View.msAll (len := x.output.length) (h3 _ List.mem_cons_self) (strR_len _)) (.cons (.same _) (.cons (.same _) (.cons (.same _) .nil))))))
theorem view_im {objs : Objs} {x : TImage} {y : ImgPl} (hy : imI x y) (hm : ∀ o ∈ imO x y, o ∈ objs) : View objs (.agg (imC x y)) (.agg (x.tw 0)) := by
  unfold imO at hm
  have h1 : ∀ o ∈ cbO x.base y.1, o ∈ objs := fun o h => hm o (List.mem_append_left _ h)
  replace hm := fun o h => hm o (List.mem_append_right _ h)
  have h2 : ∀ o ∈ stO x.store y.2.1, o ∈ objs := fun o h => hm o (List.mem_append_left _ h)
  replace hm := fun o h => hm o (List.mem_append_right _ h)
  have h3 := hm _ (List.mem_append_left _ List.mem_cons_self)
  replace hm := fun o h => hm o (List.mem_append_right _ h)
  have h4 : ∀ o ∈ ctxO x.contexts y.2.2.2.1, o ∈ objs := fun o h => hm o (List.mem_append_left _ h)
  replace hm := fun o h => hm o (List.mem_append_right _ h)
  have h5 := hm _ (List.mem_append_left _ List.mem_cons_self)
  have h6 := hm _ (List.mem_append_right _ List.mem_cons_self)
  have h := ((viewL_cb hy.1 h1).append ((viewL_st hy.2.1 h2).append (.cons (.msAll (len := x.blocks.length) h3 (by simp)) (.cons (view_zipg view_ctx hy.2.2 (h4 _ List.mem_cons_self) (fun o h => h4 o (List.mem_cons_of_mem _ h))) (.cons (.msAll (len := x.processes.length) h5 (by simp)) (.cons (.msAll (len := x.ready.length) h6 (intR_len _))
    (.cons (.same (.int .i64 x.now)) (.cons (.same (.int .i64 x.status)) (.cons (.same (.int .i64 x.value.kind)) (.cons (.same (.int .i64 x.value.number)) (.cons (.same (.str x.value.text)) (.cons (.same (.str x.fault)) .nil))))))))))))
  exact View.agg (imC x y) (x.tw 0) h.1 h.2
theorem imC_mk (x : TImage) (k : Int) (y : ImgPl) : imC (mkImage k x) y = imC x y := by
  simp [imC, mkImage, mkCodeBase, mkStore, mkL_len]
theorem imI_mk {x : TImage} (k : Int) {y : ImgPl} (hy : imI x y) : imI (mkImage k x) y := by
  simpa [imI, cbI, stI, mkImage, mkCodeBase, mkStore, mkL_len] using hy
theorem view_imm {objs : Objs} {x : TImage} {k : Int} {y : ImgPl} (hy : imI x y) (hm : ∀ o ∈ imO (mkImage k x) y, o ∈ objs) : View objs (.agg (imC x y)) (.agg ((mkImage k x).tw 0)) := by
  rw [← imC_mk x k y]
  exact view_im (imI_mk k hy) hm
end Go.Proofs.YtiihihgjiklnoaaGreatDoor
