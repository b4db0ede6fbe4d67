/- Part 16 of the proof: the texts MkH. -/
import Derived.Test.YtigipcbnfeoliaaGreatDoorRf7
import Derived.Test.YtigipcbnfeoliaaGreatDoorRf12
set_option linter.all false
set_option maxHeartbeats 2000000
set_option maxRecDepth 20000
namespace Go.Proofs.YtigipcbnfeoliaaGreatDoor
open Go Go.RowKit
section
variable {G : World -> Prop}
theorem pz (hst : ay G) (lo : Nat) (l : List ByteArray) (k : Int) (hn : l.length <= 1099600000000) (hk : 0 <= k /\ k <= 1000000000000000) : Ct Tryz.prog G 19 [.sl lo 1 (bK (mkL cE aU k l)), .int .i64 k] (fun _ => .int .i64 (kL aU k l)) := by
 refine aq Tryz.func19 rfl Tryz.ntmps19 rfl rfl fun w0 _ hG => ?_
 have hrl : (bK (mkL cE aU k l)).length = l.length := by simp [bK, bU]
 have hget := fun i (h : i < l.length) => fw (mk := cE) (nx := aU) (k := k) h
 have hgr : ∀ i (h : i < l.length), (bK (mkL cE aU k l))[i]? = some [.str (dB (kL aU k (l.take i)))] := fun i h => by
   simp only [bK, List.getElem?_map, hget i h]; rfl
 generalize bK (mkL cE aU k l) = rows at hrl hgr |-
 repeat' refine W_ ?_
 apply am (X := Nat) [0] (fun x => [(5, .int .i64 (x : Int)), (1, .int .i64 (kL aU k (l.take x)))]) (fun _ => []) (fun x => x <= l.length) (fun x => l.length - x) 0 (Nat.zero_le _)
 exact kp_; exact nw_
 ·exact .refl _
 intro i hi
 try dsimp only
 have hq := aS (k := k) (i := i) hn (eK l) hi
 by_cases hlt : i < l.length
 ·have hrow := hgr i hlt
  have hks : kL aU k (l.take (i + 1)) = kL aU k (l.take i) + 1 := cF hlt
  generalize kL aU k (l.take i) = q at hq hrow hks |-
  have hs0 : ¬ dB (q) ≠ dB (q) := fun h => h rfl
  have hm0 := bO (G := G) (q) (by omega) (by omega)
  repeat' (first | refine V_ ?_ | refine ae hG hst (hm0) ?_)
  all_goals first
    | exact ag (i + 1) (by omega) (by omega) (.of _ (cD.envCons rfl (cD.envCons (dx rfl (by rw [hks])) cD.envNil)) od_ pk_)
    | (exfalso; simp_all; done)
 ·obtain rfl : i = l.length := by omega
  rw [List.take_length]
  repeat' refine W_ ?_
  exact r1_
theorem kx (hst : ay G) (lo : Nat) (l : List ByteArray) (k : Int) (hn : l.length <= 1048576) (hk : 0 <= k /\ k <= 1000000000000000) : Ct Tryz.prog G 19 [.sl lo 1 (bK (mkL cE aU k l)), .int .i64 k] (fun _ => .int .i64 (kL aU k l)) := pz hst lo l k (by omega) hk
theorem sh (hst : ay G) (lo : Nat) (l : List ai) (k : Int) (hn : l.length <= 1048576) (hk : 0 <= k /\ k <= 1000000000000000) : Ct Tryz.prog G 214 [.sl lo 4 ((mkL dZ bv k l).map (ai.tw lo)), .int .i64 k] (fun _ => .int .i64 (kL bv k l)) := by
 refine aq Tryz.func214 rfl Tryz.ntmps214 rfl rfl fun w0 _ hG => ?_
 have hrl : ((mkL dZ bv k l).map (ai.tw lo)).length = l.length := by simp [bK, bU]
 have hget := fun i (h : i < l.length) => fw (mk := dZ) (nx := bv) (k := k) h
 have hgr : ∀ i (h : i < l.length), ((mkL dZ bv k l).map (ai.tw lo))[i]? = some [.int .i64 (kL bv k (l.take i)), .int .i64 (kL bv k (l.take i) + 1), .int .i64 (kL bv k (l.take i) + 1 + 1), .str (dB (kL bv k (l.take i) + 1 + 1 + 1))] := fun i h => by
   simp only [bK, List.getElem?_map, hget i h]; rfl
 generalize (mkL dZ bv k l).map (ai.tw lo) = rows at hrl hgr |-
 repeat' refine W_ ?_
 apply am (X := Nat) [0] (fun x => [(5, .int .i64 (x : Int)), (1, .int .i64 (kL bv k (l.take x)))]) (fun _ => []) (fun x => x <= l.length) (fun x => l.length - x) 0 (Nat.zero_le _)
 exact kp_; exact nw_
 ·exact .refl _
 intro i hi
 try dsimp only
 have hq := aS (k := k) (i := i) hn (ja l) hi
 by_cases hlt : i < l.length
 ·have hrow := hgr i hlt
  have hks : kL bv k (l.take (i + 1)) = kL bv k (l.take i) + 1 + 1 + 1 + 1 := cF hlt
  generalize kL bv k (l.take i) = q at hq hrow hks |-
  have hi0 : ¬ (q) ≠ (q) := fun h => h rfl
  have hi1 : ¬ (q + 1) ≠ (q + 1) := fun h => h rfl
  have hi2 : ¬ (q + 1 + 1) ≠ (q + 1 + 1) := fun h => h rfl
  have hs3 : ¬ dB (q + 1 + 1 + 1) ≠ dB (q + 1 + 1 + 1) := fun h => h rfl
  have hm3 := bO (G := G) (q + 1 + 1 + 1) (by omega) (by omega)
  repeat' (first | refine V_ ?_ | refine ae hG hst (hm3) ?_)
  all_goals first
    | exact ag (i + 1) (by omega) (by omega) (.of _ (cD.envCons rfl (cD.envCons (dx rfl (by rw [hks])) cD.envNil)) od_ pk_)
    | (exfalso; simp_all; done)
 ·obtain rfl : i = l.length := by omega
  rw [List.take_length]
  repeat' refine W_ ?_
  exact r1_
theorem sA (hst : ay G) (lo : Nat) (l : List aB) (k : Int) (hn : l.length <= 1048576) (hk : 0 <= k /\ k <= 1000000000000000) : Ct Tryz.prog G 142 [.sl lo 4 ((mkL en bF k l).map (aB.tw lo)), .int .i64 k] (fun _ => .int .i64 (kL bF k l)) := by
 refine aq Tryz.func142 rfl Tryz.ntmps142 rfl rfl fun w0 _ hG => ?_
 have hrl : ((mkL en bF k l).map (aB.tw lo)).length = l.length := by simp [bK, bU]
 have hget := fun i (h : i < l.length) => fw (mk := en) (nx := bF) (k := k) h
 have hgr : ∀ i (h : i < l.length), ((mkL en bF k l).map (aB.tw lo))[i]? = some [.int .i64 (kL bF k (l.take i)), .bool (decide ((kL bF k (l.take i) + 1).tmod 3 = 0)), .str (dB (kL bF k (l.take i) + 1 + 1)), .int .i64 (kL bF k (l.take i) + 1 + 1 + 1)] := fun i h => by
   simp only [bK, List.getElem?_map, hget i h]; rfl
 generalize (mkL en bF k l).map (aB.tw lo) = rows at hrl hgr |-
 repeat' refine W_ ?_
 apply am (X := Nat) [0] (fun x => [(5, .int .i64 (x : Int)), (1, .int .i64 (kL bF k (l.take x)))]) (fun _ => []) (fun x => x <= l.length) (fun x => l.length - x) 0 (Nat.zero_le _)
 exact kp_; exact nw_
 ·exact .refl _
 intro i hi
 try dsimp only
 have hq := aS (k := k) (i := i) hn (jm l) hi
 by_cases hlt : i < l.length
 ·have hrow := hgr i hlt
  have hks : kL bF k (l.take (i + 1)) = kL bF k (l.take i) + 1 + 1 + 1 + 1 := cF hlt
  generalize kL bF k (l.take i) = q at hq hrow hks |-
  have hi0 : ¬ (q) ≠ (q) := fun h => h rfl
  have hb1 : (decide ((q + 1).tmod 3 = 0) != decide ((q + 1).tmod 3 = 0)) = false := by simp
  have hs2 : ¬ dB (q + 1 + 1) ≠ dB (q + 1 + 1) := fun h => h rfl
  have hm2 := bO (G := G) (q + 1 + 1) (by omega) (by omega)
  have hi3 : ¬ (q + 1 + 1 + 1) ≠ (q + 1 + 1 + 1) := fun h => h rfl
  repeat' (first | refine V_ ?_ | refine ae hG hst (hm2) ?_ | refine c_ (fun hc => ?_) (fun hc => ?_))
  all_goals first
    | exact ag (i + 1) (by omega) (by omega) (.of _ (cD.envCons rfl (cD.envCons (dx rfl (by rw [hks])) cD.envNil)) od_ pk_)
    | (exfalso; simp_all; done)
 ·obtain rfl : i = l.length := by omega
  rw [List.take_length]
  repeat' refine W_ ?_
  exact r1_
theorem ig (hst : ay G) (lo : Nat) (l : List aa) (k : Int) (hn : l.length <= 1048576 /\ ∀ y ∈ l, aa.small 1048576 y) (hk : 0 <= k /\ k <= 100000000000000) : Ct Tryz.prog G 140 [.sl lo 3 ((mkL aV az k l).map (aa.tw lo)), .int .i64 k] (fun _ => .int .i64 (kL az k l)) := by
 refine aq Tryz.func140 rfl Tryz.ntmps140 rfl rfl fun w0 _ hG => ?_
 obtain ⟨hn, hsm⟩ := hn
 have hrl : ((mkL aV az k l).map (aa.tw lo)).length = l.length := by simp [bU]
 have hgr : ∀ i (h : i < l.length), ((mkL aV az k l).map (aa.tw lo))[i]? = some ((aV (kL az k (l.take i)) l[i]).tw lo) := fun i h => by
   simp only [List.getElem?_map, fw (mk := aV) (nx := az) (k := k) h]; rfl
 generalize (mkL aV az k l).map (aa.tw lo) = rows at hrl hgr |-
 repeat' refine W_ ?_
 apply am (X := Nat) [0] (fun x => [(5, .int .i64 (x : Int)), (1, .int .i64 (kL az k (l.take x)))]) (fun _ => []) (fun x => x <= l.length) (fun x => l.length - x) 0 (Nat.zero_le _)
 exact kp_; exact nw_
 ·exact .refl _
 intro i hi
 try dsimp only
 have hq := aS (k := k) (i := i) hn (cn hsm) hi
 by_cases hlt : i < l.length
 ·have hrow := hgr i hlt
  have hks := cF (nx := az) (k := k) hlt
  have hb := hsm _ (List.getElem_mem hlt)
  generalize kL az k (l.take i) = q at hq hrow hks |-
  generalize l[i] = x at hrow hks hb
  replace hrow : rows[i]? = some [.str (dB (q)), .int .i64 (q + 1), .sl lo 1 (bK (mkL cE aU (q + 1 + 1) x.fields))] := hrow
  have hin := kx hst lo x.fields (q + 1 + 1) hb.2.1 (by omega)
  have hinr := gl (nx := aU) (l := x.fields) (k := q + 1 + 1) (eK _)
  have hks2 : kL az k (l.take (i + 1)) = kL aU (q + 1 + 1) x.fields := hks
  have hs0 : ¬ dB (q) ≠ dB (q) := fun h => h rfl
  have hm0 := bO (G := G) (q) (by omega) (by omega)
  have hi1 : ¬ (q + 1) ≠ (q + 1) := fun h => h rfl
  repeat' (first | refine V_ ?_ | refine ad hG hst (hin) ?_ | refine ae hG hst (hm0) ?_)
  all_goals first
    | exact ag (i + 1) (by omega) (by omega) (.of _ (cD.envCons rfl (cD.envCons (dx rfl (by rw [hks2])) cD.envNil)) od_ pk_)
    | (exfalso; simp_all; done)
    | (exfalso; omega)
 ·obtain rfl : i = l.length := by omega
  rw [List.take_length]
  repeat' refine W_ ?_
  exact r1_
theorem uA (hst : ay G) (lo : Nat) (l : List aC) (k : Int) (hn : l.length <= 1048576 /\ ∀ y ∈ l, aC.small 1048576 y) (hk : 0 <= k /\ k <= 100000000000000) : Ct Tryz.prog G 141 [.sl lo 4 ((mkL dt bQ k l).map (aC.tw lo)), .int .i64 k] (fun _ => .int .i64 (kL bQ k l)) := by
 refine aq Tryz.func141 rfl Tryz.ntmps141 rfl rfl fun w0 _ hG => ?_
 obtain ⟨hn, hsm⟩ := hn
 have hrl : ((mkL dt bQ k l).map (aC.tw lo)).length = l.length := by simp [bU]
 have hgr : ∀ i (h : i < l.length), ((mkL dt bQ k l).map (aC.tw lo))[i]? = some ((dt (kL bQ k (l.take i)) l[i]).tw lo) := fun i h => by
   simp only [List.getElem?_map, fw (mk := dt) (nx := bQ) (k := k) h]; rfl
 generalize (mkL dt bQ k l).map (aC.tw lo) = rows at hrl hgr |-
 repeat' refine W_ ?_
 apply am (X := Nat) [0] (fun x => [(5, .int .i64 (x : Int)), (1, .int .i64 (kL bQ k (l.take x)))]) (fun _ => []) (fun x => x <= l.length) (fun x => l.length - x) 0 (Nat.zero_le _)
 exact kp_; exact nw_
 ·exact .refl _
 intro i hi
 try dsimp only
 have hq := aS (k := k) (i := i) hn (iW hsm) hi
 by_cases hlt : i < l.length
 ·have hrow := hgr i hlt
  have hks := cF (nx := bQ) (k := k) hlt
  have hb := hsm _ (List.getElem_mem hlt)
  generalize kL bQ k (l.take i) = q at hq hrow hks |-
  generalize l[i] = x at hrow hks hb
  replace hrow : rows[i]? = some [.bool (decide ((q).tmod 3 = 0)), .int .i64 (q + 1), .int .i64 (q + 1 + 1), .sl lo 4 ((mkL dZ bv (q + 1 + 1 + 1) x.instrs).map (ai.tw lo))] := hrow
  have hin := sh hst lo x.instrs (q + 1 + 1 + 1) hb.1 (by omega)
  have hinr := gl (nx := bv) (l := x.instrs) (k := q + 1 + 1 + 1) (ja _)
  have hks2 : kL bQ k (l.take (i + 1)) = kL bv (q + 1 + 1 + 1) x.instrs := hks
  have hb0 : (decide ((q).tmod 3 = 0) != decide ((q).tmod 3 = 0)) = false := by simp
  have hi1 : ¬ (q + 1) ≠ (q + 1) := fun h => h rfl
  have hi2 : ¬ (q + 1 + 1) ≠ (q + 1 + 1) := fun h => h rfl
  repeat' (first | refine V_ ?_ | refine ad hG hst (hin) ?_ | refine c_ (fun hc => ?_) (fun hc => ?_))
  all_goals first
    | exact ag (i + 1) (by omega) (by omega) (.of _ (cD.envCons rfl (cD.envCons (dx rfl (by rw [hks2])) cD.envNil)) od_ pk_)
    | (exfalso; simp_all; done)
    | (exfalso; omega)
 ·obtain rfl : i = l.length := by omega
  rw [List.take_length]
  repeat' refine W_ ?_
  exact r1_
theorem pl (hst : ay G) (lo : Nat) (x : aD) (hb : x.small 1048576) (k : Int) (hk : 0 <= k /\ k <= 50000000000000) : Ct Tryz.prog G 66 [.agg ((cG k x).tw lo), .int .i64 k] (fun _ => .int .i64 (aW k x)) := by
 refine aq Tryz.func66 rfl Tryz.ntmps66 rfl rfl fun w0 _ hG => ?_
 have h1 := aS (k := k) (i := x.classes.length) hb.1.1 (cn hb.1.2) (Nat.le_refl _)
 have h2 := aS (k := kL az k x.classes) (i := x.codes.length) hb.2.1.1 (iW hb.2.1.2) (Nat.le_refl _)
 have h3 := aS (k := kL bQ (kL az k x.classes) x.codes) (i := x.entries.length) hb.2.2.1 (jm x.entries) (Nat.le_refl _)
 rw [List.take_length] at h1 h2 h3
 have c1 := ig hst lo x.classes k hb.1 (by omega)
 have c2 := uA hst lo x.codes (kL az k x.classes) hb.2.1 (by omega)
 have c3 := sA hst lo x.entries (kL bQ (kL az k x.classes) x.codes) hb.2.2.1 (by omega)
 unfold aD.tw cG aW
 dsimp only
 repeat' (first | refine W_ ?_ | refine aH ?_ | refine ad hG hst (c1) ?_ | refine ad hG hst (c2) ?_ | refine ad hG hst (c3) ?_)
 exact r1_
end
end Go.Proofs.YtigipcbnfeoliaaGreatDoor
