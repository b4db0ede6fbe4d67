/- Part 13 of the proof: the texts LwU. -/
import Derived.Test.YtiihihgjiklnoaaGreatDoorSr8
set_option linter.all false
set_option maxHeartbeats 2000000
set_option maxRecDepth 20000
namespace Go.Proofs.YtiihihgjiklnoaaGreatDoor
open Go Go.RowKit
section
variable {G : World -> Prop}
theorem sD (_ : az G) (lo : Nat) (l : List Int) (left : Int) (h : 0 <= left /\ left <= 1048576) (hb : l.length <= 9223372036854775807) : CtM Tryz.prog G 81 [.sl lo 1 (aS l), .int .i64 left] [] (fun y : Int => -1 <= y /\ y <= left /\ (0 <= y -> l.length <= 1048576)) (fun _ => []) (fun y => .int .i64 y) := by
 refine aw Tryz.func81 rfl Tryz.ntmps81 rfl rfl rfl fun w0 R gs objsR hG hR => ?_
 obtain rfl := hR.inv0
 clear hR
 have hlen := ai l
 by_cases hn : left - l.length < 0
 ·repeat' refine W_ ?_
  exact av x_ rfl (-1) ⟨by omega, by omega, fun h => by omega⟩ rfl (.nil R) (.refl _) (.tmp _ _ rfl) rfl
 ·repeat' refine W_ ?_
  exact av x_ rfl (left - l.length) ⟨by omega, by omega, fun _ => by omega⟩ rfl (.nil R) (.refl _) (.tmp _ _ rfl) rfl
theorem tf (_ : az G) (l1 l2 : Nat) (l : List Int) (hn : l.length <= 1048576) : Ct Tryz.prog G 32 [.sl l1 1 (aS l), .sl l2 1 (aS l)] (fun _ => .bool true) := by
 refine aq Tryz.func32 rfl Tryz.ntmps32 rfl rfl fun w0 _ hG => ?_
 have hlen := ai l
 repeat' refine W_ ?_
 apply ak (X := Nat) [0, 1] (fun i => [(5, .int .i64 (i : Int))]) (fun _ => []) (fun i => i <= l.length) (fun i => l.length - i) 0 (Nat.zero_le _)
 exact kp_; exact nw_
 ·exact .refl _
 intro i hi
 try dsimp only
 by_cases hlt : i < l.length
 ·have hrow := kB hlt
  generalize l[i] = x at hrow
  repeat' refine V_ ?_
  all_goals first
    | exact ag (i + 1) (by omega) (by omega) (.of _ nw_ od_ pk_)
    | (exfalso; simp at hc; done)
 ·repeat' refine W_ ?_
  exact r1_
end
def ab.tw (lo : Nat) (x : ab) : List TV := [.int .i64 x.kind, .int .i64 x.number, .str x.text]
def ab.small (n : Nat) (x : ab) : Prop := (x.text.size <= n)
def ab.tz : List TV := [.int .i64 0, .int .i64 0, .str ⟨#[]⟩]
theorem ab.fin (B K : Nat) (objs : aG) (x : ab) : jb B objs K (x.tw B) (x.tw K) := .cons (.flat rfl) (.cons (.flat rfl) (.cons (.flat rfl) (.nil)))
theorem ab.len (lo : Nat) (l : List ab) : (l.map (ab.tw lo)).length = l.length := by simp
section
variable {G : World -> Prop}
theorem jq (hst : az G) (lo : Nat) (x : ab) (left : Int) (h : 0 <= left /\ left <= 1048576) (hb : x.small 9223372036854775807) : CtM Tryz.prog G 82 [.agg (x.tw lo), .int .i64 left] [] (fun y : Int => -1 <= y /\ y <= left /\ (0 <= y -> x.small 1048576)) (fun _ => []) (fun y => .int .i64 y) := by
 refine aw Tryz.func82 rfl Tryz.ntmps82 rfl rfl rfl fun w0 R gs objsR hG hR => ?_
 obtain rfl := hR.inv0
 clear hR
 unfold ab.small at hb
 have hb1 : x.text.size <= 9223372036854775807 := hb
 unfold ab.tw
 repeat' (first | refine W_ ?_ | refine aM ?_ | refine c_ (fun hc => ?_) (fun hc => ?_))
 all_goals first
   | exact av x_ rfl (-1) ⟨by omega, by omega, fun h => by omega⟩ rfl (.nil R) (.refl _) (.tmp _ _ rfl) rfl
   | (refine av x_ rfl _ ⟨?_, ?_, fun _ => ?_⟩ rfl (.nil R) (.refl _) (.tmp _ _ rfl) rfl
      ·omega
      ·omega
      ·show _ <= _; omega)
theorem ij (hst : az G) (lo : Nat) (l : List ab) (left : Int) (h : 0 <= left /\ left <= 1048576) (hb : l.length <= 9223372036854775807 /\ ∀ y ∈ l, ab.small 9223372036854775807 y) : CtM Tryz.prog G 228 [.sl lo 3 (l.map (ab.tw lo)), .int .i64 left] [] (fun y : Int => -1 <= y /\ y <= left /\ (0 <= y -> l.length <= 1048576 /\ ∀ y ∈ l, ab.small 1048576 y)) (fun _ => []) (fun y => .int .i64 y) := by
 refine aw Tryz.func228 rfl Tryz.ntmps228 rfl rfl rfl fun w0 R gs objsR hG hR => ?_
 obtain rfl := hR.inv0
 clear hR
 have hlen := ab.len lo l
 have hl1 := hb.1
 by_cases hn : left - l.length < 0
 ·repeat' refine W_ ?_
  exact av x_ rfl (-1) ⟨by omega, by omega, fun h => by omega⟩ rfl (.nil R) (.refl _) (.tmp _ _ rfl) rfl
 ·repeat' refine W_ ?_
  apply ak (X := Nat × Int) [0, 1000000] (fun x => [(5, .int .i64 (x.1 : Int)), (1, .int .i64 x.2)]) (fun _ => R) (fun x => x.1 <= l.length /\ 0 <= x.2 /\ x.2 <= left /\ ∀ y ∈ l.take x.1, ab.small 1048576 y) (fun x => l.length - x.1) (0, left - l.length) ⟨Nat.zero_le _, by dsimp only; omega, by dsimp only; omega, by simp⟩
  exact kp_; exact nw_
  ·exact .refl _
  rintro ⟨i, lf⟩ ⟨hi, h0, h1, hs⟩
  dsimp only at hi h0 h1 hs |-
  by_cases hlt : i < l.length
  ·have hrow : (l.map (ab.tw lo))[i]? = some (l[i].tw lo) := aK hlt
   have hbi := hb.2 _ (List.getElem_mem hlt)
   have hta := bg (p := ab.small 1048576) hlt hs
   generalize l[i] = x at hrow hbi hta
   have hct := jq hst lo x lf (by omega) hbi
   unfold ab.tw at hct
   rw [show x.tw lo = [.int .i64 x.kind, .int .i64 x.number, .str x.text] from rfl] at hrow
   repeat' (first | refine W_ ?_ | ((with_reducible apply aJ); rfl; kernel_rfl; (repeat (first | exact aH.nil | ((with_reducible apply aH.cons); rfl))); exact hG; exact hct; exact .nil _; intro y hy; refine bM ?_) | refine c_ (fun hc => ?_) (fun hc => ?_))
   all_goals first
     | exact av x_ rfl (-1) ⟨by omega, by omega, fun h => by omega⟩ rfl (.nil R) (.refl _) (.tmp _ _ rfl) rfl
     | exact ag (i + 1, y) ⟨by dsimp only; omega, by dsimp only; omega, by dsimp only; omega, hta (hy.2.2 (by omega))⟩ (by dsimp only; omega) (.of _ nw_ od_ pk_)
  ·rw [List.take_of_length_le (by omega)] at hs
   repeat' refine W_ ?_
   exact av x_ rfl lf ⟨by omega, by omega, fun _ => ⟨by omega, hs⟩⟩ rfl (.nil R) (.refl _) (.tmp _ _ rfl) rfl
theorem js (hst : az G) (lo : Nat) (x : ab) (hb : x.small 1048576) : Ct Tryz.prog G 91 [.agg (x.tw lo)] (fun K => .agg (x.tw K)) := by
 refine aq Tryz.func91 rfl Tryz.ntmps91 rfl rfl fun w0 _ hG => ?_
 unfold ab.small at hb
 skip
 repeat' (first | refine W_ ?_ | refine aM ?_ | (refine am ?_; intro ss bb) | refine ac ?_)
 refine aI x_ rfl (.cell _ _ _ _ _ rfl mm_ (by kernel_rfl) (by kernel_rfl) (by kernel_rfl)) (fun _ => ?_)
 exact ln (ab.fin _ _ _ x)
theorem jz (hst : az G) (l1 l2 : Nat) (x : ab) (hb : x.small 1048576) : Ct Tryz.prog G 61 [.agg (x.tw l1), .agg (x.tw l2)] (fun _ => .bool true) := by
 refine aq Tryz.func61 rfl Tryz.ntmps61 rfl rfl fun w0 _ hG => ?_
 unfold ab.small at hb
 have hnetext : ¬ x.text ≠ x.text := fun h => h rfl
 unfold ab.tw
 repeat' (first | refine W_ ?_ | refine aM ?_)
 all_goals first
   | (exfalso; simp at hc; done)
   | (exact r1_)
theorem iq (hst : az G) (l1 l2 : Nat) (l : List ab) (hb : l.length <= 1048576 /\ ∀ y ∈ l, ab.small 1048576 y) : Ct Tryz.prog G 224 [.sl l1 3 (l.map (ab.tw l1)), .sl l2 3 (l.map (ab.tw l2))] (fun _ => .bool true) := by
 refine aq Tryz.func224 rfl Tryz.ntmps224 rfl rfl fun w0 _ hG => ?_
 have hlen := ab.len l1 l
 have hlen2 := ab.len l2 l
 have hl1 := hb.1
 repeat' refine W_ ?_
 apply ak (X := Nat) [0, 1] (fun i => [(5, .int .i64 (i : Int))]) (fun _ => []) (fun i => i <= l.length) (fun i => l.length - i) 0 (Nat.zero_le _)
 exact kp_; exact nw_
 ·exact .refl _
 intro i hi
 try dsimp only
 by_cases hlt : i < l.length
 ·have hr1 : (l.map (ab.tw l1))[i]? = some (l[i].tw l1) := aK hlt
  have hr2 : (l.map (ab.tw l2))[i]? = some (l[i].tw l2) := aK hlt
  have hbi := hb.2 _ (List.getElem_mem hlt)
  generalize l[i] = x at hr1 hr2 hbi
  have hct := jz hst l1 l2 x hbi
  unfold ab.tw at hct
  rw [show x.tw l1 = [.int .i64 x.kind, .int .i64 x.number, .str x.text] from rfl] at hr1
  rw [show x.tw l2 = [.int .i64 x.kind, .int .i64 x.number, .str x.text] from rfl] at hr2
  repeat' (first | refine V_ ?_ | refine ae hG hst (hct) ?_)
  exact ag (i + 1) (by omega) (by omega) (.of _ nw_ od_ pk_)
 ·repeat' refine W_ ?_
  exact r1_
end
def au.tw (lo : Nat) (x : au) : List TV := [.int .i64 x.kind, .int .i64 x.class_, .sl lo 3 (x.fields.map (ab.tw lo)), .sl lo 1 (aS x.numbers)]
def au.small (n : Nat) (x : au) : Prop := (x.fields.length <= n /\ ∀ y ∈ x.fields, ab.small n y) /\ (x.numbers.length <= n)
def au.tz : List TV := [.int .i64 0, .int .i64 0, .nils, .nils]
theorem au.fin (B K : Nat) (objs : aG) (x : au) : jb B objs K (x.tw B) (x.tw K) := .cons (.flat rfl) (.cons (.flat rfl) (.cons (cL (fun x => ab.fin B K objs x) _) (.cons (cL (fun x => .cons (.flat rfl) .nil) _) (.nil))))
theorem au.len (lo : Nat) (l : List au) : (l.map (au.tw lo)).length = l.length := by simp
section
variable {G : World -> Prop}
theorem wc (hst : az G) (lo : Nat) (x : au) (left : Int) (h : 0 <= left /\ left <= 1048576) (hb : x.small 9223372036854775807) : CtM Tryz.prog G 227 [.agg (x.tw lo), .int .i64 left] [] (fun y : Int => -1 <= y /\ y <= left /\ (0 <= y -> x.small 1048576)) (fun _ => []) (fun y => .int .i64 y) := by
 refine aw Tryz.func227 rfl Tryz.ntmps227 rfl rfl rfl fun w0 R gs objsR hG hR => ?_
 obtain rfl := hR.inv0
 clear hR
 unfold au.small at hb
 skip
 unfold au.tw
 repeat' (first | refine W_ ?_ | refine aM ?_ | ((with_reducible apply aJ); rfl; kernel_rfl; (repeat (first | exact aH.nil | ((with_reducible apply aH.cons); rfl))); exact hG; exact ij hst lo x.fields _ (by omega) hb.1; exact .nil _; intro y1 hy1; refine bM ?_) | ((with_reducible apply aJ); rfl; kernel_rfl; (repeat (first | exact aH.nil | ((with_reducible apply aH.cons); rfl))); exact hG; exact sD hst lo x.numbers _ (by omega) hb.2; exact .nil _; intro y2 hy2; refine bM ?_) | refine c_ (fun hc => ?_) (fun hc => ?_))
 all_goals first
   | exact av x_ rfl (-1) ⟨by omega, by omega, fun h => by omega⟩ rfl (.nil R) (.refl _) (.tmp _ _ rfl) rfl
   | (refine av x_ rfl _ ⟨?_, ?_, fun _ => ?_⟩ rfl (.nil R) (.refl _) (.tmp _ _ rfl) rfl
      ·omega
      ·omega
      ·exact ⟨hy1.2.2 (by omega), hy2.2.2 (by omega)⟩)
theorem sL (hst : az G) (lo : Nat) (l : List au) (left : Int) (h : 0 <= left /\ left <= 1048576) (hb : l.length <= 9223372036854775807 /\ ∀ y ∈ l, au.small 9223372036854775807 y) : CtM Tryz.prog G 157 [.sl lo 4 (l.map (au.tw lo)), .int .i64 left] [] (fun y : Int => -1 <= y /\ y <= left /\ (0 <= y -> l.length <= 1048576 /\ ∀ y ∈ l, au.small 1048576 y)) (fun _ => []) (fun y => .int .i64 y) := by
 refine aw Tryz.func157 rfl Tryz.ntmps157 rfl rfl rfl fun w0 R gs objsR hG hR => ?_
 obtain rfl := hR.inv0
 clear hR
 have hlen := au.len lo l
 have hl1 := hb.1
 by_cases hn : left - l.length < 0
 ·repeat' refine W_ ?_
  exact av x_ rfl (-1) ⟨by omega, by omega, fun h => by omega⟩ rfl (.nil R) (.refl _) (.tmp _ _ rfl) rfl
 ·repeat' refine W_ ?_
  apply ak (X := Nat × Int) [0, 1000000] (fun x => [(5, .int .i64 (x.1 : Int)), (1, .int .i64 x.2)]) (fun _ => R) (fun x => x.1 <= l.length /\ 0 <= x.2 /\ x.2 <= left /\ ∀ y ∈ l.take x.1, au.small 1048576 y) (fun x => l.length - x.1) (0, left - l.length) ⟨Nat.zero_le _, by dsimp only; omega, by dsimp only; omega, by simp⟩
  exact kp_; exact nw_
  ·exact .refl _
  rintro ⟨i, lf⟩ ⟨hi, h0, h1, hs⟩
  dsimp only at hi h0 h1 hs |-
  by_cases hlt : i < l.length
  ·have hrow : (l.map (au.tw lo))[i]? = some (l[i].tw lo) := aK hlt
   have hbi := hb.2 _ (List.getElem_mem hlt)
   have hta := bg (p := au.small 1048576) hlt hs
   generalize l[i] = x at hrow hbi hta
   have hct := wc hst lo x lf (by omega) hbi
   unfold au.tw at hct
   rw [show x.tw lo = [.int .i64 x.kind, .int .i64 x.class_, .sl lo 3 (x.fields.map (ab.tw lo)), .sl lo 1 (aS x.numbers)] from rfl] at hrow
   repeat' (first | refine W_ ?_ | ((with_reducible apply aJ); rfl; kernel_rfl; (repeat (first | exact aH.nil | ((with_reducible apply aH.cons); rfl))); exact hG; exact hct; exact .nil _; intro y hy; refine bM ?_) | refine c_ (fun hc => ?_) (fun hc => ?_))
   all_goals first
     | exact av x_ rfl (-1) ⟨by omega, by omega, fun h => by omega⟩ rfl (.nil R) (.refl _) (.tmp _ _ rfl) rfl
     | exact ag (i + 1, y) ⟨by dsimp only; omega, by dsimp only; omega, by dsimp only; omega, hta (hy.2.2 (by omega))⟩ (by dsimp only; omega) (.of _ nw_ od_ pk_)
  ·rw [List.take_of_length_le (by omega)] at hs
   repeat' refine W_ ?_
   exact av x_ rfl lf ⟨by omega, by omega, fun _ => ⟨by omega, hs⟩⟩ rfl (.nil R) (.refl _) (.tmp _ _ rfl) rfl
theorem vj (hst : az G) (l1 l2 : Nat) (x : au) (hb : x.small 1048576) : Ct Tryz.prog G 223 [.agg (x.tw l1), .agg (x.tw l2)] (fun _ => .bool true) := by
 refine aq Tryz.func223 rfl Tryz.ntmps223 rfl rfl fun w0 _ hG => ?_
 unfold au.small at hb
 have hsfields := hb.1
 have hsnumbers := hb.2
 unfold au.tw
 repeat' (first | refine W_ ?_ | refine aM ?_ | refine ad hG hst (iq hst l1 l2 x.fields hsfields) ?_ | refine ad hG hst (tf hst l1 l2 x.numbers hsnumbers) ?_)
 all_goals first
   | (exfalso; simp at hc; done)
   | (exact r1_)
theorem ur (hst : az G) (l1 l2 : Nat) (l : List au) (hb : l.length <= 1048576 /\ ∀ y ∈ l, au.small 1048576 y) : Ct Tryz.prog G 142 [.sl l1 4 (l.map (au.tw l1)), .sl l2 4 (l.map (au.tw l2))] (fun _ => .bool true) := by
 refine aq Tryz.func142 rfl Tryz.ntmps142 rfl rfl fun w0 _ hG => ?_
 have hlen := au.len l1 l
 have hlen2 := au.len l2 l
 have hl1 := hb.1
 repeat' refine W_ ?_
 apply ak (X := Nat) [0, 1] (fun i => [(5, .int .i64 (i : Int))]) (fun _ => []) (fun i => i <= l.length) (fun i => l.length - i) 0 (Nat.zero_le _)
 exact kp_; exact nw_
 ·exact .refl _
 intro i hi
 try dsimp only
 by_cases hlt : i < l.length
 ·have hr1 : (l.map (au.tw l1))[i]? = some (l[i].tw l1) := aK hlt
  have hr2 : (l.map (au.tw l2))[i]? = some (l[i].tw l2) := aK hlt
  have hbi := hb.2 _ (List.getElem_mem hlt)
  generalize l[i] = x at hr1 hr2 hbi
  have hct := vj hst l1 l2 x hbi
  unfold au.tw at hct
  rw [show x.tw l1 = [.int .i64 x.kind, .int .i64 x.class_, .sl l1 3 (x.fields.map (ab.tw l1)), .sl l1 1 (aS x.numbers)] from rfl] at hr1
  rw [show x.tw l2 = [.int .i64 x.kind, .int .i64 x.class_, .sl l2 3 (x.fields.map (ab.tw l2)), .sl l2 1 (aS x.numbers)] from rfl] at hr2
  repeat' (first | refine V_ ?_ | refine ae hG hst (hct) ?_)
  exact ag (i + 1) (by omega) (by omega) (.of _ nw_ od_ pk_)
 ·repeat' refine W_ ?_
  exact r1_
end
def aR.tw (lo : Nat) (x : aR) : List TV := [.sl lo 3 (x.classes.map (aa.tw lo)), .sl lo 4 (x.objects.map (au.tw lo)), .sl lo 1 (bN x.output), .int .i64 x.ticks, .int .i64 x.budget, .int .i64 x.made]
def aR.small (n : Nat) (x : aR) : Prop := (x.classes.length <= n /\ ∀ y ∈ x.classes, aa.small n y) /\ (x.objects.length <= n /\ ∀ y ∈ x.objects, au.small n y) /\ (x.output.length <= n /\ ∀ y ∈ x.output, ByteArray.size y <= n)
def aR.tz : List TV := [.nils, .nils, .nils, .int .i64 0, .int .i64 0, .int .i64 0]
theorem aR.fin (B K : Nat) (objs : aG) (x : aR) : jb B objs K (x.tw B) (x.tw K) := .cons (cL (fun x => aa.fin B K objs x) _) (.cons (cL (fun x => au.fin B K objs x) _) (.cons (cL (fun x => .cons (.flat rfl) .nil) _) (.cons (.flat rfl) (.cons (.flat rfl) (.cons (.flat rfl) (.nil))))))
theorem aR.len (lo : Nat) (l : List aR) : (l.map (aR.tw lo)).length = l.length := by simp
section
variable {G : World -> Prop}
theorem yK (hst : az G) (lo : Nat) (x : aR) (left : Int) (h : 0 <= left /\ left <= 1048576) (hb : x.small 9223372036854775807) : CtM Tryz.prog G 77 [.agg (x.tw lo), .int .i64 left] [] (fun y : Int => -1 <= y /\ y <= left /\ (0 <= y -> x.small 1048576)) (fun _ => []) (fun y => .int .i64 y) := by
 refine aw Tryz.func77 rfl Tryz.ntmps77 rfl rfl rfl fun w0 R gs objsR hG hR => ?_
 obtain rfl := hR.inv0
 clear hR
 unfold aR.small at hb
 skip
 unfold aR.tw
 repeat' (first | refine W_ ?_ | refine aM ?_ | ((with_reducible apply aJ); rfl; kernel_rfl; (repeat (first | exact aH.nil | ((with_reducible apply aH.cons); rfl))); exact hG; exact iN hst lo x.classes _ (by omega) hb.1; exact .nil _; intro y1 hy1; refine bM ?_) | ((with_reducible apply aJ); rfl; kernel_rfl; (repeat (first | exact aH.nil | ((with_reducible apply aH.cons); rfl))); exact hG; exact sL hst lo x.objects _ (by omega) hb.2.1; exact .nil _; intro y2 hy2; refine bM ?_) | ((with_reducible apply aJ); rfl; kernel_rfl; (repeat (first | exact aH.nil | ((with_reducible apply aH.cons); rfl))); exact hG; exact md lo x.output _ (by omega) hb.2.2; exact .nil _; intro y3 hy3; refine bM ?_) | refine c_ (fun hc => ?_) (fun hc => ?_))
 all_goals first
   | exact av x_ rfl (-1) ⟨by omega, by omega, fun h => by omega⟩ rfl (.nil R) (.refl _) (.tmp _ _ rfl) rfl
   | (refine av x_ rfl _ ⟨?_, ?_, fun _ => ?_⟩ rfl (.nil R) (.refl _) (.tmp _ _ rfl) rfl
      ·omega
      ·omega
      ·exact ⟨hy1.2.2 (by omega), hy2.2.2 (by omega), hy3.2.2 (by omega)⟩)
theorem ym (hst : az G) (l1 l2 : Nat) (x : aR) (hb : x.small 1048576) : Ct Tryz.prog G 57 [.agg (x.tw l1), .agg (x.tw l2)] (fun _ => .bool true) := by
 refine aq Tryz.func57 rfl Tryz.ntmps57 rfl rfl fun w0 _ hG => ?_
 unfold aR.small at hb
 have hsclasses := hb.1
 have hsobjects := hb.2.1
 have hsoutput := (hb.2.2).1
 unfold aR.tw
 repeat' (first | refine W_ ?_ | refine aM ?_ | refine ad hG hst (je hst l1 l2 x.classes hsclasses) ?_ | refine ad hG hst (ur hst l1 l2 x.objects hsobjects) ?_ | refine ad hG hst (mr l1 l2 x.output hsoutput) ?_)
 all_goals first
   | (exfalso; simp at hc; done)
   | (exact r1_)
end
def aj.tw (lo : Nat) (x : aj) : List TV := [.int .i64 x.code, .int .i64 x.outer, .int .i64 x.home, .int .i64 x.self.kind, .int .i64 x.self.number, .str x.self.text]
def aj.small (n : Nat) (x : aj) : Prop := (ab.small n x.self)
def aj.tz : List TV := [.int .i64 0, .int .i64 0, .int .i64 0, .int .i64 0, .int .i64 0, .str ⟨#[]⟩]
theorem aj.fin (B K : Nat) (objs : aG) (x : aj) : jb B objs K (x.tw B) (x.tw K) := .cons (.flat rfl) (.cons (.flat rfl) (.cons (.flat rfl) (.cons (.flat rfl) (.cons (.flat rfl) (.cons (.flat rfl) (.nil))))))
theorem aj.len (lo : Nat) (l : List aj) : (l.map (aj.tw lo)).length = l.length := by simp
section
variable {G : World -> Prop}
theorem tW (hst : az G) (lo : Nat) (x : aj) (left : Int) (h : 0 <= left /\ left <= 1048576) (hb : x.small 9223372036854775807) : CtM Tryz.prog G 159 [.agg (x.tw lo), .int .i64 left] [] (fun y : Int => -1 <= y /\ y <= left /\ (0 <= y -> x.small 1048576)) (fun _ => []) (fun y => .int .i64 y) := by
 refine aw Tryz.func159 rfl Tryz.ntmps159 rfl rfl rfl fun w0 R gs objsR hG hR => ?_
 obtain rfl := hR.inv0
 clear hR
 unfold aj.small at hb
 skip
 unfold aj.tw
 repeat' (first | refine W_ ?_ | refine aM ?_ | ((with_reducible apply aJ); rfl; kernel_rfl; (repeat (first | exact aH.nil | ((with_reducible apply aH.cons); rfl))); exact hG; exact jq hst lo x.self _ (by omega) hb; exact .nil _; intro y1 hy1; refine bM ?_) | refine c_ (fun hc => ?_) (fun hc => ?_))
 all_goals first
   | exact av x_ rfl (-1) ⟨by omega, by omega, fun h => by omega⟩ rfl (.nil R) (.refl _) (.tmp _ _ rfl) rfl
   | (refine av x_ rfl _ ⟨?_, ?_, fun _ => ?_⟩ rfl (.nil R) (.refl _) (.tmp _ _ rfl) rfl
      ·omega
      ·omega
      ·exact hy1.2.2 (by omega))
theorem rN (hst : az G) (lo : Nat) (l : List aj) (left : Int) (h : 0 <= left /\ left <= 1048576) (hb : l.length <= 9223372036854775807 /\ ∀ y ∈ l, aj.small 9223372036854775807 y) : CtM Tryz.prog G 78 [.sl lo 6 (l.map (aj.tw lo)), .int .i64 left] [] (fun y : Int => -1 <= y /\ y <= left /\ (0 <= y -> l.length <= 1048576 /\ ∀ y ∈ l, aj.small 1048576 y)) (fun _ => []) (fun y => .int .i64 y) := by
 refine aw Tryz.func78 rfl Tryz.ntmps78 rfl rfl rfl fun w0 R gs objsR hG hR => ?_
 obtain rfl := hR.inv0
 clear hR
 have hlen := aj.len lo l
 have hl1 := hb.1
 by_cases hn : left - l.length < 0
 ·repeat' refine W_ ?_
  exact av x_ rfl (-1) ⟨by omega, by omega, fun h => by omega⟩ rfl (.nil R) (.refl _) (.tmp _ _ rfl) rfl
 ·repeat' refine W_ ?_
  apply ak (X := Nat × Int) [0, 1000000] (fun x => [(5, .int .i64 (x.1 : Int)), (1, .int .i64 x.2)]) (fun _ => R) (fun x => x.1 <= l.length /\ 0 <= x.2 /\ x.2 <= left /\ ∀ y ∈ l.take x.1, aj.small 1048576 y) (fun x => l.length - x.1) (0, left - l.length) ⟨Nat.zero_le _, by dsimp only; omega, by dsimp only; omega, by simp⟩
  exact kp_; exact nw_
  ·exact .refl _
  rintro ⟨i, lf⟩ ⟨hi, h0, h1, hs⟩
  dsimp only at hi h0 h1 hs |-
  by_cases hlt : i < l.length
  ·have hrow : (l.map (aj.tw lo))[i]? = some (l[i].tw lo) := aK hlt
   have hbi := hb.2 _ (List.getElem_mem hlt)
   have hta := bg (p := aj.small 1048576) hlt hs
   generalize l[i] = x at hrow hbi hta
   have hct := tW hst lo x lf (by omega) hbi
   unfold aj.tw at hct
   rw [show x.tw lo = [.int .i64 x.code, .int .i64 x.outer, .int .i64 x.home, .int .i64 x.self.kind, .int .i64 x.self.number, .str x.self.text] from rfl] at hrow
   repeat' (first | refine W_ ?_ | ((with_reducible apply aJ); rfl; kernel_rfl; (repeat (first | exact aH.nil | ((with_reducible apply aH.cons); rfl))); exact hG; exact hct; exact .nil _; intro y hy; refine bM ?_) | refine c_ (fun hc => ?_) (fun hc => ?_))
   all_goals first
     | exact av x_ rfl (-1) ⟨by omega, by omega, fun h => by omega⟩ rfl (.nil R) (.refl _) (.tmp _ _ rfl) rfl
     | exact ag (i + 1, y) ⟨by dsimp only; omega, by dsimp only; omega, by dsimp only; omega, hta (hy.2.2 (by omega))⟩ (by dsimp only; omega) (.of _ nw_ od_ pk_)
  ·rw [List.take_of_length_le (by omega)] at hs
   repeat' refine W_ ?_
   exact av x_ rfl lf ⟨by omega, by omega, fun _ => ⟨by omega, hs⟩⟩ rfl (.nil R) (.refl _) (.tmp _ _ rfl) rfl
theorem sA (hst : az G) (lo : Nat) (x : aj) (hb : x.small 1048576) : Ct Tryz.prog G 175 [.agg (x.tw lo)] (fun K => .agg (x.tw K)) := by
 refine aq Tryz.func175 rfl Tryz.ntmps175 rfl rfl fun w0 _ hG => ?_
 unfold aj.small at hb
 have hsself := hb
 repeat' (first | refine W_ ?_ | refine aM ?_ | (refine am ?_; intro ss bb) | refine ac ?_ | refine ad hG hst (js hst lo x.self (hsself)) ?_)
 refine aI x_ rfl (.cell _ _ _ _ _ rfl mm_ (by kernel_rfl) (by kernel_rfl) (by kernel_rfl)) (fun _ => ?_)
 exact ln (aj.fin _ _ _ x)
theorem uk (hst : az G) (l1 l2 : Nat) (x : aj) (hb : x.small 1048576) : Ct Tryz.prog G 143 [.agg (x.tw l1), .agg (x.tw l2)] (fun _ => .bool true) := by
 refine aq Tryz.func143 rfl Tryz.ntmps143 rfl rfl fun w0 _ hG => ?_
 unfold aj.small at hb
 have hsself := hb
 unfold aj.tw
 repeat' (first | refine W_ ?_ | refine aM ?_ | refine ad hG hst (jz hst l1 l2 x.self hsself) ?_)
 all_goals first
   | (exfalso; simp at hc; done)
   | (exact r1_)
theorem qP (hst : az G) (l1 l2 : Nat) (l : List aj) (hb : l.length <= 1048576 /\ ∀ y ∈ l, aj.small 1048576 y) : Ct Tryz.prog G 58 [.sl l1 6 (l.map (aj.tw l1)), .sl l2 6 (l.map (aj.tw l2))] (fun _ => .bool true) := by
 refine aq Tryz.func58 rfl Tryz.ntmps58 rfl rfl fun w0 _ hG => ?_
 have hlen := aj.len l1 l
 have hlen2 := aj.len l2 l
 have hl1 := hb.1
 repeat' refine W_ ?_
 apply ak (X := Nat) [0, 1] (fun i => [(5, .int .i64 (i : Int))]) (fun _ => []) (fun i => i <= l.length) (fun i => l.length - i) 0 (Nat.zero_le _)
 exact kp_; exact nw_
 ·exact .refl _
 intro i hi
 try dsimp only
 by_cases hlt : i < l.length
 ·have hr1 : (l.map (aj.tw l1))[i]? = some (l[i].tw l1) := aK hlt
  have hr2 : (l.map (aj.tw l2))[i]? = some (l[i].tw l2) := aK hlt
  have hbi := hb.2 _ (List.getElem_mem hlt)
  generalize l[i] = x at hr1 hr2 hbi
  have hct := uk hst l1 l2 x hbi
  unfold aj.tw at hct
  rw [show x.tw l1 = [.int .i64 x.code, .int .i64 x.outer, .int .i64 x.home, .int .i64 x.self.kind, .int .i64 x.self.number, .str x.self.text] from rfl] at hr1
  rw [show x.tw l2 = [.int .i64 x.code, .int .i64 x.outer, .int .i64 x.home, .int .i64 x.self.kind, .int .i64 x.self.number, .str x.self.text] from rfl] at hr2
  repeat' (first | refine V_ ?_ | refine ae hG hst (hct) ?_)
  exact ag (i + 1) (by omega) (by omega) (.of _ nw_ od_ pk_)
 ·repeat' refine W_ ?_
  exact r1_
end
def ap.tw (lo : Nat) (x : ap) : List TV := [.int .i64 x.mark, .int .i64 x.code, .int .i64 x.pc, .int .i64 x.sender, .int .i64 x.outer, .int .i64 x.home, .int .i64 x.self.kind, .int .i64 x.self.number, .str x.self.text, .sl lo 3 (x.slots.map (ab.tw lo)), .sl lo 3 (x.stack.map (ab.tw lo)), .sl lo 3 (x.values.map (ab.tw lo)), .int .i64 x.other, .bool x.retry]
def ap.small (n : Nat) (x : ap) : Prop := (ab.small n x.self) /\ (x.slots.length <= n /\ ∀ y ∈ x.slots, ab.small n y) /\ (x.stack.length <= n /\ ∀ y ∈ x.stack, ab.small n y) /\ (x.values.length <= n /\ ∀ y ∈ x.values, ab.small n y)
def ap.tz : List TV := [.int .i64 0, .int .i64 0, .int .i64 0, .int .i64 0, .int .i64 0, .int .i64 0, .int .i64 0, .int .i64 0, .str ⟨#[]⟩, .nils, .nils, .nils, .int .i64 0, .bool false]
theorem ap.fin (B K : Nat) (objs : aG) (x : ap) : jb B objs K (x.tw B) (x.tw K) := .cons (.flat rfl) (.cons (.flat rfl) (.cons (.flat rfl) (.cons (.flat rfl) (.cons (.flat rfl) (.cons (.flat rfl) (.cons (.flat rfl) (.cons (.flat rfl) (.cons (.flat rfl) (.cons (cL (fun x => ab.fin B K objs x) _) (.cons (cL (fun x => ab.fin B K objs x) _) (.cons (cL (fun x => ab.fin B K objs x) _) (.cons (.flat rfl) (.cons (.flat rfl) (.nil))))))))))))))
theorem ap.len (lo : Nat) (l : List ap) : (l.map (ap.tw lo)).length = l.length := by simp
section
variable {G : World -> Prop}
theorem sC (hst : az G) (lo : Nat) (x : ap) (left : Int) (h : 0 <= left /\ left <= 1048576) (hb : x.small 9223372036854775807) : CtM Tryz.prog G 160 [.agg (x.tw lo), .int .i64 left] [] (fun y : Int => -1 <= y /\ y <= left /\ (0 <= y -> x.small 1048576)) (fun _ => []) (fun y => .int .i64 y) := by
 refine aw Tryz.func160 rfl Tryz.ntmps160 rfl rfl rfl fun w0 R gs objsR hG hR => ?_
 obtain rfl := hR.inv0
 clear hR
 unfold ap.small at hb
 skip
 unfold ap.tw
 repeat' (first | refine W_ ?_ | refine aM ?_ | ((with_reducible apply aJ); rfl; kernel_rfl; (repeat (first | exact aH.nil | ((with_reducible apply aH.cons); rfl))); exact hG; exact jq hst lo x.self _ (by omega) hb.1; exact .nil _; intro y1 hy1; refine bM ?_) | ((with_reducible apply aJ); rfl; kernel_rfl; (repeat (first | exact aH.nil | ((with_reducible apply aH.cons); rfl))); exact hG; exact ij hst lo x.slots _ (by omega) hb.2.1; exact .nil _; intro y2 hy2; refine bM ?_) | ((with_reducible apply aJ); rfl; kernel_rfl; (repeat (first | exact aH.nil | ((with_reducible apply aH.cons); rfl))); exact hG; exact ij hst lo x.stack _ (by omega) hb.2.2.1; exact .nil _; intro y3 hy3; refine bM ?_) | ((with_reducible apply aJ); rfl; kernel_rfl; (repeat (first | exact aH.nil | ((with_reducible apply aH.cons); rfl))); exact hG; exact ij hst lo x.values _ (by omega) hb.2.2.2; exact .nil _; intro y4 hy4; refine bM ?_) | refine c_ (fun hc => ?_) (fun hc => ?_))
 all_goals first
   | exact av x_ rfl (-1) ⟨by omega, by omega, fun h => by omega⟩ rfl (.nil R) (.refl _) (.tmp _ _ rfl) rfl
   | (refine av x_ rfl _ ⟨?_, ?_, fun _ => ?_⟩ rfl (.nil R) (.refl _) (.tmp _ _ rfl) rfl
      ·omega
      ·omega
      ·exact ⟨hy1.2.2 (by omega), hy2.2.2 (by omega), hy3.2.2 (by omega), hy4.2.2 (by omega)⟩)
theorem rG (hst : az G) (lo : Nat) (l : List ap) (left : Int) (h : 0 <= left /\ left <= 1048576) (hb : l.length <= 9223372036854775807 /\ ∀ y ∈ l, ap.small 9223372036854775807 y) : CtM Tryz.prog G 79 [.sl lo 14 (l.map (ap.tw lo)), .int .i64 left] [] (fun y : Int => -1 <= y /\ y <= left /\ (0 <= y -> l.length <= 1048576 /\ ∀ y ∈ l, ap.small 1048576 y)) (fun _ => []) (fun y => .int .i64 y) := by
 refine aw Tryz.func79 rfl Tryz.ntmps79 rfl rfl rfl fun w0 R gs objsR hG hR => ?_
 obtain rfl := hR.inv0
 clear hR
 have hlen := ap.len lo l
 have hl1 := hb.1
 by_cases hn : left - l.length < 0
 ·repeat' refine W_ ?_
  exact av x_ rfl (-1) ⟨by omega, by omega, fun h => by omega⟩ rfl (.nil R) (.refl _) (.tmp _ _ rfl) rfl
 ·repeat' refine W_ ?_
  apply ak (X := Nat × Int) [0, 1000000] (fun x => [(5, .int .i64 (x.1 : Int)), (1, .int .i64 x.2)]) (fun _ => R) (fun x => x.1 <= l.length /\ 0 <= x.2 /\ x.2 <= left /\ ∀ y ∈ l.take x.1, ap.small 1048576 y) (fun x => l.length - x.1) (0, left - l.length) ⟨Nat.zero_le _, by dsimp only; omega, by dsimp only; omega, by simp⟩
  exact kp_; exact nw_
  ·exact .refl _
  rintro ⟨i, lf⟩ ⟨hi, h0, h1, hs⟩
  dsimp only at hi h0 h1 hs |-
  by_cases hlt : i < l.length
  ·have hrow : (l.map (ap.tw lo))[i]? = some (l[i].tw lo) := aK hlt
   have hbi := hb.2 _ (List.getElem_mem hlt)
   have hta := bg (p := ap.small 1048576) hlt hs
   generalize l[i] = x at hrow hbi hta
   have hct := sC hst lo x lf (by omega) hbi
   unfold ap.tw at hct
   rw [show x.tw lo = [.int .i64 x.mark, .int .i64 x.code, .int .i64 x.pc, .int .i64 x.sender, .int .i64 x.outer, .int .i64 x.home, .int .i64 x.self.kind, .int .i64 x.self.number, .str x.self.text, .sl lo 3 (x.slots.map (ab.tw lo)), .sl lo 3 (x.stack.map (ab.tw lo)), .sl lo 3 (x.values.map (ab.tw lo)), .int .i64 x.other, .bool x.retry] from rfl] at hrow
   repeat' (first | refine W_ ?_ | ((with_reducible apply aJ); rfl; kernel_rfl; (repeat (first | exact aH.nil | ((with_reducible apply aH.cons); rfl))); exact hG; exact hct; exact .nil _; intro y hy; refine bM ?_) | refine c_ (fun hc => ?_) (fun hc => ?_))
   all_goals first
     | exact av x_ rfl (-1) ⟨by omega, by omega, fun h => by omega⟩ rfl (.nil R) (.refl _) (.tmp _ _ rfl) rfl
     | exact ag (i + 1, y) ⟨by dsimp only; omega, by dsimp only; omega, by dsimp only; omega, hta (hy.2.2 (by omega))⟩ (by dsimp only; omega) (.of _ nw_ od_ pk_)
  ·rw [List.take_of_length_le (by omega)] at hs
   repeat' refine W_ ?_
   exact av x_ rfl lf ⟨by omega, by omega, fun _ => ⟨by omega, hs⟩⟩ rfl (.nil R) (.refl _) (.tmp _ _ rfl) rfl
theorem sJ (hst : az G) (l1 l2 : Nat) (x : ap) (hb : x.small 1048576) : Ct Tryz.prog G 144 [.agg (x.tw l1), .agg (x.tw l2)] (fun _ => .bool true) := by
 refine aq Tryz.func144 rfl Tryz.ntmps144 rfl rfl fun w0 _ hG => ?_
 unfold ap.small at hb
 have hsself := hb.1
 have hsslots := hb.2.1
 have hsstack := hb.2.2.1
 have hsvalues := hb.2.2.2
 unfold ap.tw
 repeat' (first | refine W_ ?_ | refine aM ?_ | refine ad hG hst (jz hst l1 l2 x.self hsself) ?_ | refine ad hG hst (iq hst l1 l2 x.slots hsslots) ?_ | refine ad hG hst (iq hst l1 l2 x.stack hsstack) ?_ | refine ad hG hst (iq hst l1 l2 x.values hsvalues) ?_ | refine c_ (fun hc => ?_) (fun hc => ?_))
 all_goals first
   | (exfalso; simp at hc; done)
   | (exact r1_)
theorem qQ (hst : az G) (l1 l2 : Nat) (l : List ap) (hb : l.length <= 1048576 /\ ∀ y ∈ l, ap.small 1048576 y) : Ct Tryz.prog G 59 [.sl l1 14 (l.map (ap.tw l1)), .sl l2 14 (l.map (ap.tw l2))] (fun _ => .bool true) := by
 refine aq Tryz.func59 rfl Tryz.ntmps59 rfl rfl fun w0 _ hG => ?_
 have hlen := ap.len l1 l
 have hlen2 := ap.len l2 l
 have hl1 := hb.1
 repeat' refine W_ ?_
 apply ak (X := Nat) [0, 1] (fun i => [(5, .int .i64 (i : Int))]) (fun _ => []) (fun i => i <= l.length) (fun i => l.length - i) 0 (Nat.zero_le _)
 exact kp_; exact nw_
 ·exact .refl _
 intro i hi
 try dsimp only
 by_cases hlt : i < l.length
 ·have hr1 : (l.map (ap.tw l1))[i]? = some (l[i].tw l1) := aK hlt
  have hr2 : (l.map (ap.tw l2))[i]? = some (l[i].tw l2) := aK hlt
  have hbi := hb.2 _ (List.getElem_mem hlt)
  generalize l[i] = x at hr1 hr2 hbi
  have hct := sJ hst l1 l2 x hbi
  unfold ap.tw at hct
  rw [show x.tw l1 = [.int .i64 x.mark, .int .i64 x.code, .int .i64 x.pc, .int .i64 x.sender, .int .i64 x.outer, .int .i64 x.home, .int .i64 x.self.kind, .int .i64 x.self.number, .str x.self.text, .sl l1 3 (x.slots.map (ab.tw l1)), .sl l1 3 (x.stack.map (ab.tw l1)), .sl l1 3 (x.values.map (ab.tw l1)), .int .i64 x.other, .bool x.retry] from rfl] at hr1
  rw [show x.tw l2 = [.int .i64 x.mark, .int .i64 x.code, .int .i64 x.pc, .int .i64 x.sender, .int .i64 x.outer, .int .i64 x.home, .int .i64 x.self.kind, .int .i64 x.self.number, .str x.self.text, .sl l2 3 (x.slots.map (ab.tw l2)), .sl l2 3 (x.stack.map (ab.tw l2)), .sl l2 3 (x.values.map (ab.tw l2)), .int .i64 x.other, .bool x.retry] from rfl] at hr2
  repeat' (first | refine V_ ?_ | refine ae hG hst (hct) ?_)
  exact ag (i + 1) (by omega) (by omega) (.of _ nw_ od_ pk_)
 ·repeat' refine W_ ?_
  exact r1_
end
def ar.tw (lo : Nat) (x : ar) : List TV := [.int .i64 x.at_, .bool x.main]
def ar.small (n : Nat) (x : ar) : Prop := True
def ar.tz : List TV := [.int .i64 0, .bool false]
theorem ar.fin (B K : Nat) (objs : aG) (x : ar) : jb B objs K (x.tw B) (x.tw K) := .cons (.flat rfl) (.cons (.flat rfl) (.nil))
theorem ar.len (lo : Nat) (l : List ar) : (l.map (ar.tw lo)).length = l.length := by simp
section
variable {G : World -> Prop}
theorem qN (_ : az G) (lo : Nat) (l : List ar) (left : Int) (h : 0 <= left /\ left <= 1048576) (hb : l.length <= 9223372036854775807 /\ ∀ y ∈ l, ar.small 9223372036854775807 y) : CtM Tryz.prog G 80 [.sl lo 2 (l.map (ar.tw lo)), .int .i64 left] [] (fun y : Int => -1 <= y /\ y <= left /\ (0 <= y -> l.length <= 1048576 /\ ∀ y ∈ l, ar.small 1048576 y)) (fun _ => []) (fun y => .int .i64 y) := by
 refine aw Tryz.func80 rfl Tryz.ntmps80 rfl rfl rfl fun w0 R gs objsR hG hR => ?_
 obtain rfl := hR.inv0
 clear hR
 have hlen := ar.len lo l
 have hl1 := hb.1
 by_cases hn : left - l.length < 0
 ·repeat' refine W_ ?_
  exact av x_ rfl (-1) ⟨by omega, by omega, fun h => by omega⟩ rfl (.nil R) (.refl _) (.tmp _ _ rfl) rfl
 ·repeat' refine W_ ?_
  exact av x_ rfl (left - l.length) ⟨by omega, by omega, fun _ => ⟨by omega, fun _ _ => trivial⟩⟩ rfl (.nil R) (.refl _) (.tmp _ _ rfl) rfl
theorem sN (hst : az G) (lo : Nat) (x : ar) (hb : x.small 1048576) : Ct Tryz.prog G 177 [.agg (x.tw lo)] (fun K => .agg (x.tw K)) := by
 refine aq Tryz.func177 rfl Tryz.ntmps177 rfl rfl fun w0 _ hG => ?_
 unfold ar.small at hb
 skip
 repeat' (first | refine W_ ?_ | refine aM ?_ | (refine am ?_; intro ss bb) | refine ac ?_)
 refine aI x_ rfl (.cell _ _ _ _ _ rfl mm_ (by kernel_rfl) (by kernel_rfl) (by kernel_rfl)) (fun _ => ?_)
 exact ln (ar.fin _ _ _ x)
theorem sq (hst : az G) (l1 l2 : Nat) (x : ar) (hb : x.small 1048576) : Ct Tryz.prog G 145 [.agg (x.tw l1), .agg (x.tw l2)] (fun _ => .bool true) := by
 refine aq Tryz.func145 rfl Tryz.ntmps145 rfl rfl fun w0 _ hG => ?_
 unfold ar.small at hb
 skip
 unfold ar.tw
 repeat' (first | refine W_ ?_ | refine aM ?_ | refine c_ (fun hc => ?_) (fun hc => ?_))
 all_goals first
   | (exfalso; simp at hc; done)
   | (exact r1_)
theorem qA (hst : az G) (l1 l2 : Nat) (l : List ar) (hb : l.length <= 1048576 /\ ∀ y ∈ l, ar.small 1048576 y) : Ct Tryz.prog G 60 [.sl l1 2 (l.map (ar.tw l1)), .sl l2 2 (l.map (ar.tw l2))] (fun _ => .bool true) := by
 refine aq Tryz.func60 rfl Tryz.ntmps60 rfl rfl fun w0 _ hG => ?_
 have hlen := ar.len l1 l
 have hlen2 := ar.len l2 l
 have hl1 := hb.1
 repeat' refine W_ ?_
 apply ak (X := Nat) [0, 1] (fun i => [(5, .int .i64 (i : Int))]) (fun _ => []) (fun i => i <= l.length) (fun i => l.length - i) 0 (Nat.zero_le _)
 exact kp_; exact nw_
 ·exact .refl _
 intro i hi
 try dsimp only
 by_cases hlt : i < l.length
 ·have hr1 : (l.map (ar.tw l1))[i]? = some (l[i].tw l1) := aK hlt
  have hr2 : (l.map (ar.tw l2))[i]? = some (l[i].tw l2) := aK hlt
  have hbi := hb.2 _ (List.getElem_mem hlt)
  generalize l[i] = x at hr1 hr2 hbi
  have hct := sq hst l1 l2 x hbi
  unfold ar.tw at hct
  rw [show x.tw l1 = [.int .i64 x.at_, .bool x.main] from rfl] at hr1
  rw [show x.tw l2 = [.int .i64 x.at_, .bool x.main] from rfl] at hr2
  repeat' (first | refine V_ ?_ | refine ae hG hst (hct) ?_)
  exact ag (i + 1) (by omega) (by omega) (.of _ nw_ od_ pk_)
 ·repeat' refine W_ ?_
  exact r1_
end
def ao.tw (lo : Nat) (x : ao) : List TV := [.sl lo 3 (x.base.classes.map (aa.tw lo)), .sl lo 4 (x.base.codes.map (aC.tw lo)), .sl lo 4 (x.base.entries.map (aA.tw lo)), .int .i64 x.base.main, .sl lo 3 (x.store.classes.map (aa.tw lo)), .sl lo 4 (x.store.objects.map (au.tw lo)), .sl lo 1 (bN x.store.output), .int .i64 x.store.ticks, .int .i64 x.store.budget, .int .i64 x.store.made, .sl lo 6 (x.blocks.map (aj.tw lo)), .sl lo 14 (x.contexts.map (ap.tw lo)), .sl lo 2 (x.processes.map (ar.tw lo)), .sl lo 1 (aS x.ready), .int .i64 x.now, .int .i64 x.status, .int .i64 x.value.kind, .int .i64 x.value.number, .str x.value.text, .str x.fault]
def ao.small (n : Nat) (x : ao) : Prop := (aD.small n x.base) /\ (aR.small n x.store) /\ (x.blocks.length <= n /\ ∀ y ∈ x.blocks, aj.small n y) /\ (x.contexts.length <= n /\ ∀ y ∈ x.contexts, ap.small n y) /\ (x.processes.length <= n /\ ∀ y ∈ x.processes, ar.small n y) /\ (x.ready.length <= n) /\ (ab.small n x.value) /\ (x.fault.size <= n)
def ao.tz : List TV := [.nils, .nils, .nils, .int .i64 0, .nils, .nils, .nils, .int .i64 0, .int .i64 0, .int .i64 0, .nils, .nils, .nils, .nils, .int .i64 0, .int .i64 0, .int .i64 0, .int .i64 0, .str ⟨#[]⟩, .str ⟨#[]⟩]
theorem ao.fin (B K : Nat) (objs : aG) (x : ao) : jb B objs K (x.tw B) (x.tw K) := .cons (cL (fun x => aa.fin B K objs x) _) (.cons (cL (fun x => aC.fin B K objs x) _) (.cons (cL (fun x => aA.fin B K objs x) _) (.cons (.flat rfl) (.cons (cL (fun x => aa.fin B K objs x) _) (.cons (cL (fun x => au.fin B K objs x) _) (.cons (cL (fun x => .cons (.flat rfl) .nil) _) (.cons (.flat rfl) (.cons (.flat rfl) (.cons (.flat rfl) (.cons (cL (fun x => aj.fin B K objs x) _) (.cons (cL (fun x => ap.fin B K objs x) _) (.cons (cL (fun x => ar.fin B K objs x) _) (.cons (cL (fun x => .cons (.flat rfl) .nil) _) (.cons (.flat rfl) (.cons (.flat rfl) (.cons (.flat rfl) (.cons (.flat rfl) (.cons (.flat rfl) (.cons (.flat rfl) (.nil))))))))))))))))))))
theorem ao.len (lo : Nat) (l : List ao) : (l.map (ao.tw lo)).length = l.length := by simp
section
variable {G : World -> Prop}
theorem yJ (hst : az G) (lo : Nat) (x : ao) (left : Int) (h : 0 <= left /\ left <= 1048576) (hb : x.small 9223372036854775807) : CtM Tryz.prog G 21 [.agg (x.tw lo), .int .i64 left] [] (fun y : Int => -1 <= y /\ y <= left /\ (0 <= y -> x.small 1048576)) (fun _ => []) (fun y => .int .i64 y) := by
 refine aw Tryz.func21 rfl Tryz.ntmps21 rfl rfl rfl fun w0 R gs objsR hG hR => ?_
 obtain rfl := hR.inv0
 clear hR
 unfold ao.small at hb
 have hb8 : x.fault.size <= 9223372036854775807 := hb.2.2.2.2.2.2.2
 unfold ao.tw
 repeat' (first | refine W_ ?_ | refine aM ?_ | ((with_reducible apply aJ); rfl; kernel_rfl; (repeat (first | exact aH.nil | ((with_reducible apply aH.cons); rfl))); exact hG; exact qT hst lo x.base _ (by omega) hb.1; exact .nil _; intro y1 hy1; refine bM ?_) | ((with_reducible apply aJ); rfl; kernel_rfl; (repeat (first | exact aH.nil | ((with_reducible apply aH.cons); rfl))); exact hG; exact yK hst lo x.store _ (by omega) hb.2.1; exact .nil _; intro y2 hy2; refine bM ?_) | ((with_reducible apply aJ); rfl; kernel_rfl; (repeat (first | exact aH.nil | ((with_reducible apply aH.cons); rfl))); exact hG; exact rN hst lo x.blocks _ (by omega) hb.2.2.1; exact .nil _; intro y3 hy3; refine bM ?_) | ((with_reducible apply aJ); rfl; kernel_rfl; (repeat (first | exact aH.nil | ((with_reducible apply aH.cons); rfl))); exact hG; exact rG hst lo x.contexts _ (by omega) hb.2.2.2.1; exact .nil _; intro y4 hy4; refine bM ?_) | ((with_reducible apply aJ); rfl; kernel_rfl; (repeat (first | exact aH.nil | ((with_reducible apply aH.cons); rfl))); exact hG; exact qN hst lo x.processes _ (by omega) hb.2.2.2.2.1; exact .nil _; intro y5 hy5; refine bM ?_) | ((with_reducible apply aJ); rfl; kernel_rfl; (repeat (first | exact aH.nil | ((with_reducible apply aH.cons); rfl))); exact hG; exact sD hst lo x.ready _ (by omega) hb.2.2.2.2.2.1; exact .nil _; intro y6 hy6; refine bM ?_) | ((with_reducible apply aJ); rfl; kernel_rfl; (repeat (first | exact aH.nil | ((with_reducible apply aH.cons); rfl))); exact hG; exact jq hst lo x.value _ (by omega) hb.2.2.2.2.2.2.1; exact .nil _; intro y7 hy7; refine bM ?_) | refine c_ (fun hc => ?_) (fun hc => ?_))
 all_goals first
   | exact av x_ rfl (-1) ⟨by omega, by omega, fun h => by omega⟩ rfl (.nil R) (.refl _) (.tmp _ _ rfl) rfl
   | (refine av x_ rfl _ ⟨?_, ?_, fun _ => ?_⟩ rfl (.nil R) (.refl _) (.tmp _ _ rfl) rfl
      ·omega
      ·omega
      ·exact ⟨hy1.2.2 (by omega), hy2.2.2 (by omega), hy3.2.2 (by omega), hy4.2.2 (by omega), hy5.2.2 (by omega), hy6.2.2 (by omega), hy7.2.2 (by omega), by omega⟩)
theorem pW (hst : az G) (l1 l2 : Nat) (x : ao) (hb : x.small 1048576) : Ct Tryz.prog G 16 [.agg (x.tw l1), .agg (x.tw l2)] (fun _ => .bool true) := by
 refine aq Tryz.func16 rfl Tryz.ntmps16 rfl rfl fun w0 _ hG => ?_
 unfold ao.small at hb
 have hsbase := hb.1
 have hsstore := hb.2.1
 have hsblocks := hb.2.2.1
 have hscontexts := hb.2.2.2.1
 have hsprocesses := hb.2.2.2.2.1
 have hsready := hb.2.2.2.2.2.1
 have hsvalue := hb.2.2.2.2.2.2.1
 have hnefault : ¬ x.fault ≠ x.fault := fun h => h rfl
 unfold ao.tw
 repeat' (first | refine W_ ?_ | refine aM ?_ | refine ad hG hst (rA hst l1 l2 x.base hsbase) ?_ | refine ad hG hst (ym hst l1 l2 x.store hsstore) ?_ | refine ad hG hst (qP hst l1 l2 x.blocks hsblocks) ?_ | refine ad hG hst (qQ hst l1 l2 x.contexts hscontexts) ?_ | refine ad hG hst (qA hst l1 l2 x.processes hsprocesses) ?_ | refine ad hG hst (tf hst l1 l2 x.ready hsready) ?_ | refine ad hG hst (jz hst l1 l2 x.value hsvalue) ?_)
 all_goals first
   | (exfalso; simp at hc; done)
   | (exact r1_)
end
end Go.Proofs.YtiihihgjiklnoaaGreatDoor
