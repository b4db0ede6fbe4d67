/- Part 13 of the proof: the texts LwU. -/
import Derived.Test.YtigipcbnfeoliaaGreatDoorFi8
set_option linter.all false
set_option maxHeartbeats 2000000
set_option maxRecDepth 20000
namespace Go.Proofs.YtigipcbnfeoliaaGreatDoor
open Go Go.RowKit
section
variable {G : World -> Prop}
theorem tG (_ : aC G) (lo : Nat) (l : List Int) (left : Int) (h : 0 <= left /\ left <= 1048576) (hb : l.length <= 9223372036854775807) : CtM Tryz.prog G 34 [.sl lo 1 (aR l), .int .i64 left] [] (fun y : Int => -1 <= y /\ y <= left /\ (0 <= y -> l.length <= 1048576)) (fun _ => []) (fun y => .int .i64 y) := by
 refine aB Tryz.func34 rfl Tryz.ntmps34 rfl rfl rfl fun w0 R gs objsR hG hR => ?_
 obtain rfl := hR.inv0
 clear hR
 have hlen := ar l
 by_cases hn : left - l.length < 0
 ·repeat' refine W_ ?_
  exact az x_ rfl (-1) ⟨by omega, by omega, fun h => by omega⟩ rfl (.nil R) (.refl _) (.tmp _ _ rfl) rfl
 ·repeat' refine W_ ?_
  exact az x_ rfl (left - l.length) ⟨by omega, by omega, fun _ => by omega⟩ rfl (.nil R) (.refl _) (.tmp _ _ rfl) rfl
theorem tD (_ : aC G) (l1 l2 : Nat) (l : List Int) (hn : l.length <= 1048576) : Ct Tryz.prog G 58 [.sl l1 1 (aR l), .sl l2 1 (aR l)] (fun _ => .bool true) := by
 refine aq Tryz.func58 rfl Tryz.ntmps58 rfl rfl fun w0 _ hG => ?_
 have hlen := ar l
 repeat' refine W_ ?_
 apply ai (X := Nat) [0, 1] (fun i => [(5, .int .i64 (i : Int))]) (fun _ => []) (fun i => i <= l.length) (fun i => l.length - i) 0 (Nat.zero_le _)
 exact kp_; exact nw_
 ·exact .refl _
 intro i hi
 try dsimp only
 by_cases hlt : i < l.length
 ·have hrow := iq hlt
  generalize l[i] = x at hrow
  repeat' refine V_ ?_
  all_goals first
    | exact ah (i + 1) (by omega) (by omega) (.of _ nw_ od_ pk_)
    | (exfalso; simp at hc; done)
 ·repeat' refine W_ ?_
  exact r1_
end
def ab.tw (lo : Nat) (x : ab) : List TV := [.int .i64 x.kind, .int .i64 x.number, .str x.text]
def ab.small (n : Nat) (x : ab) : Prop := (x.text.size <= n)
def ab.tz : List TV := [.int .i64 0, .int .i64 0, .str ⟨#[]⟩]
theorem ab.fin (B K : Nat) (objs : aF) (x : ab) : iM B objs K (x.tw B) (x.tw K) := .cons (.flat rfl) (.cons (.flat rfl) (.cons (.flat rfl) (.nil)))
theorem ab.len (lo : Nat) (l : List ab) : (l.map (ab.tw lo)).length = l.length := by simp
section
variable {G : World -> Prop}
theorem jn (hst : aC G) (lo : Nat) (x : ab) (left : Int) (h : 0 <= left /\ left <= 1048576) (hb : x.small 9223372036854775807) : CtM Tryz.prog G 35 [.agg (x.tw lo), .int .i64 left] [] (fun y : Int => -1 <= y /\ y <= left /\ (0 <= y -> x.small 1048576)) (fun _ => []) (fun y => .int .i64 y) := by
 refine aB Tryz.func35 rfl Tryz.ntmps35 rfl rfl rfl fun w0 R gs objsR hG hR => ?_
 obtain rfl := hR.inv0
 clear hR
 unfold ab.small at hb
 have hb1 : x.text.size <= 9223372036854775807 := hb
 unfold ab.tw
 repeat' (first | refine W_ ?_ | refine aJ ?_ | refine c_ (fun hc => ?_) (fun hc => ?_))
 all_goals first
   | exact az x_ rfl (-1) ⟨by omega, by omega, fun h => by omega⟩ rfl (.nil R) (.refl _) (.tmp _ _ rfl) rfl
   | (refine az x_ rfl _ ⟨?_, ?_, fun _ => ?_⟩ rfl (.nil R) (.refl _) (.tmp _ _ rfl) rfl
      ·omega
      ·omega
      ·show _ <= _; omega)
theorem io (hst : aC G) (lo : Nat) (l : List ab) (left : Int) (h : 0 <= left /\ left <= 1048576) (hb : l.length <= 9223372036854775807 /\ ∀ y ∈ l, ab.small 9223372036854775807 y) : CtM Tryz.prog G 187 [.sl lo 3 (l.map (ab.tw lo)), .int .i64 left] [] (fun y : Int => -1 <= y /\ y <= left /\ (0 <= y -> l.length <= 1048576 /\ ∀ y ∈ l, ab.small 1048576 y)) (fun _ => []) (fun y => .int .i64 y) := by
 refine aB Tryz.func187 rfl Tryz.ntmps187 rfl rfl rfl fun w0 R gs objsR hG hR => ?_
 obtain rfl := hR.inv0
 clear hR
 have hlen := ab.len lo l
 have hl1 := hb.1
 by_cases hn : left - l.length < 0
 ·repeat' refine W_ ?_
  exact az x_ rfl (-1) ⟨by omega, by omega, fun h => by omega⟩ rfl (.nil R) (.refl _) (.tmp _ _ rfl) rfl
 ·repeat' refine W_ ?_
  apply ai (X := Nat × Int) [0, 1000000] (fun x => [(5, .int .i64 (x.1 : Int)), (1, .int .i64 x.2)]) (fun _ => R) (fun x => x.1 <= l.length /\ 0 <= x.2 /\ x.2 <= left /\ ∀ y ∈ l.take x.1, ab.small 1048576 y) (fun x => l.length - x.1) (0, left - l.length) ⟨Nat.zero_le _, by dsimp only; omega, by dsimp only; omega, by simp⟩
  exact kp_; exact nw_
  ·exact .refl _
  rintro ⟨i, lf⟩ ⟨hi, h0, h1, hs⟩
  dsimp only at hi h0 h1 hs |-
  by_cases hlt : i < l.length
  ·have hrow : (l.map (ab.tw lo))[i]? = some (l[i].tw lo) := aL hlt
   have hbi := hb.2 _ (List.getElem_mem hlt)
   have hta := aY (p := ab.small 1048576) hlt hs
   generalize l[i] = x at hrow hbi hta
   have hct := jn hst lo x lf (by omega) hbi
   unfold ab.tw at hct
   rw [show x.tw lo = [.int .i64 x.kind, .int .i64 x.number, .str x.text] from rfl] at hrow
   repeat' (first | refine W_ ?_ | ((with_reducible apply aE); rfl; kernel_rfl; (repeat (first | exact ay.nil | ((with_reducible apply ay.cons); rfl))); exact hG; exact hct; exact .nil _; intro y hy; refine bL ?_) | refine c_ (fun hc => ?_) (fun hc => ?_))
   all_goals first
     | exact az x_ rfl (-1) ⟨by omega, by omega, fun h => by omega⟩ rfl (.nil R) (.refl _) (.tmp _ _ rfl) rfl
     | exact ah (i + 1, y) ⟨by dsimp only; omega, by dsimp only; omega, by dsimp only; omega, hta (hy.2.2 (by omega))⟩ (by dsimp only; omega) (.of _ nw_ od_ pk_)
  ·rw [List.take_of_length_le (by omega)] at hs
   repeat' refine W_ ?_
   exact az x_ rfl lf ⟨by omega, by omega, fun _ => ⟨by omega, hs⟩⟩ rfl (.nil R) (.refl _) (.tmp _ _ rfl) rfl
theorem jx (hst : aC G) (lo : Nat) (x : ab) (hb : x.small 1048576) : Ct Tryz.prog G 45 [.agg (x.tw lo)] (fun K => .agg (x.tw K)) := by
 refine aq Tryz.func45 rfl Tryz.ntmps45 rfl rfl fun w0 _ hG => ?_
 unfold ab.small at hb
 skip
 repeat' (first | refine W_ ?_ | refine aJ ?_ | (refine ak ?_; intro ss bb) | refine ae ?_)
 refine aD x_ rfl (.cell _ _ _ _ _ rfl mm_ (by kernel_rfl) (by kernel_rfl) (by kernel_rfl)) (fun _ => ?_)
 exact lU (ab.fin _ _ _ x)
theorem jp (hst : aC G) (l1 l2 : Nat) (x : ab) (hb : x.small 1048576) : Ct Tryz.prog G 59 [.agg (x.tw l1), .agg (x.tw l2)] (fun _ => .bool true) := by
 refine aq Tryz.func59 rfl Tryz.ntmps59 rfl rfl fun w0 _ hG => ?_
 unfold ab.small at hb
 have hnetext : ¬ x.text ≠ x.text := fun h => h rfl
 unfold ab.tw
 repeat' (first | refine W_ ?_ | refine aJ ?_)
 all_goals first
   | (exfalso; simp at hc; done)
   | (exact r1_)
theorem iy (hst : aC G) (l1 l2 : Nat) (l : List ab) (hb : l.length <= 1048576 /\ ∀ y ∈ l, ab.small 1048576 y) : Ct Tryz.prog G 212 [.sl l1 3 (l.map (ab.tw l1)), .sl l2 3 (l.map (ab.tw l2))] (fun _ => .bool true) := by
 refine aq Tryz.func212 rfl Tryz.ntmps212 rfl rfl fun w0 _ hG => ?_
 have hlen := ab.len l1 l
 have hlen2 := ab.len l2 l
 have hl1 := hb.1
 repeat' refine W_ ?_
 apply ai (X := Nat) [0, 1] (fun i => [(5, .int .i64 (i : Int))]) (fun _ => []) (fun i => i <= l.length) (fun i => l.length - i) 0 (Nat.zero_le _)
 exact kp_; exact nw_
 ·exact .refl _
 intro i hi
 try dsimp only
 by_cases hlt : i < l.length
 ·have hr1 : (l.map (ab.tw l1))[i]? = some (l[i].tw l1) := aL hlt
  have hr2 : (l.map (ab.tw l2))[i]? = some (l[i].tw l2) := aL hlt
  have hbi := hb.2 _ (List.getElem_mem hlt)
  generalize l[i] = x at hr1 hr2 hbi
  have hct := jp hst l1 l2 x hbi
  unfold ab.tw at hct
  rw [show x.tw l1 = [.int .i64 x.kind, .int .i64 x.number, .str x.text] from rfl] at hr1
  rw [show x.tw l2 = [.int .i64 x.kind, .int .i64 x.number, .str x.text] from rfl] at hr2
  repeat' (first | refine V_ ?_ | refine ad hG hst (hct) ?_)
  exact ah (i + 1) (by omega) (by omega) (.of _ nw_ od_ pk_)
 ·repeat' refine W_ ?_
  exact r1_
end
def au.tw (lo : Nat) (x : au) : List TV := [.int .i64 x.kind, .int .i64 x.class_, .sl lo 3 (x.fields.map (ab.tw lo)), .sl lo 1 (aR x.numbers)]
def au.small (n : Nat) (x : au) : Prop := (x.fields.length <= n /\ ∀ y ∈ x.fields, ab.small n y) /\ (x.numbers.length <= n)
def au.tz : List TV := [.int .i64 0, .int .i64 0, .nils, .nils]
theorem au.fin (B K : Nat) (objs : aF) (x : au) : iM B objs K (x.tw B) (x.tw K) := .cons (.flat rfl) (.cons (.flat rfl) (.cons (ck (fun x => ab.fin B K objs x) _) (.cons (ck (fun x => .cons (.flat rfl) .nil) _) (.nil))))
theorem au.len (lo : Nat) (l : List au) : (l.map (au.tw lo)).length = l.length := by simp
section
variable {G : World -> Prop}
theorem wE (hst : aC G) (lo : Nat) (x : au) (left : Int) (h : 0 <= left /\ left <= 1048576) (hb : x.small 9223372036854775807) : CtM Tryz.prog G 186 [.agg (x.tw lo), .int .i64 left] [] (fun y : Int => -1 <= y /\ y <= left /\ (0 <= y -> x.small 1048576)) (fun _ => []) (fun y => .int .i64 y) := by
 refine aB Tryz.func186 rfl Tryz.ntmps186 rfl rfl rfl fun w0 R gs objsR hG hR => ?_
 obtain rfl := hR.inv0
 clear hR
 unfold au.small at hb
 skip
 unfold au.tw
 repeat' (first | refine W_ ?_ | refine aJ ?_ | ((with_reducible apply aE); rfl; kernel_rfl; (repeat (first | exact ay.nil | ((with_reducible apply ay.cons); rfl))); exact hG; exact io hst lo x.fields _ (by omega) hb.1; exact .nil _; intro y1 hy1; refine bL ?_) | ((with_reducible apply aE); rfl; kernel_rfl; (repeat (first | exact ay.nil | ((with_reducible apply ay.cons); rfl))); exact hG; exact tG hst lo x.numbers _ (by omega) hb.2; exact .nil _; intro y2 hy2; refine bL ?_) | refine c_ (fun hc => ?_) (fun hc => ?_))
 all_goals first
   | exact az x_ rfl (-1) ⟨by omega, by omega, fun h => by omega⟩ rfl (.nil R) (.refl _) (.tmp _ _ rfl) rfl
   | (refine az x_ rfl _ ⟨?_, ?_, fun _ => ?_⟩ rfl (.nil R) (.refl _) (.tmp _ _ rfl) rfl
      ·omega
      ·omega
      ·exact ⟨hy1.2.2 (by omega), hy2.2.2 (by omega)⟩)
theorem tx (hst : aC G) (lo : Nat) (l : List au) (left : Int) (h : 0 <= left /\ left <= 1048576) (hb : l.length <= 9223372036854775807 /\ ∀ y ∈ l, au.small 9223372036854775807 y) : CtM Tryz.prog G 96 [.sl lo 4 (l.map (au.tw lo)), .int .i64 left] [] (fun y : Int => -1 <= y /\ y <= left /\ (0 <= y -> l.length <= 1048576 /\ ∀ y ∈ l, au.small 1048576 y)) (fun _ => []) (fun y => .int .i64 y) := by
 refine aB Tryz.func96 rfl Tryz.ntmps96 rfl rfl rfl fun w0 R gs objsR hG hR => ?_
 obtain rfl := hR.inv0
 clear hR
 have hlen := au.len lo l
 have hl1 := hb.1
 by_cases hn : left - l.length < 0
 ·repeat' refine W_ ?_
  exact az x_ rfl (-1) ⟨by omega, by omega, fun h => by omega⟩ rfl (.nil R) (.refl _) (.tmp _ _ rfl) rfl
 ·repeat' refine W_ ?_
  apply ai (X := Nat × Int) [0, 1000000] (fun x => [(5, .int .i64 (x.1 : Int)), (1, .int .i64 x.2)]) (fun _ => R) (fun x => x.1 <= l.length /\ 0 <= x.2 /\ x.2 <= left /\ ∀ y ∈ l.take x.1, au.small 1048576 y) (fun x => l.length - x.1) (0, left - l.length) ⟨Nat.zero_le _, by dsimp only; omega, by dsimp only; omega, by simp⟩
  exact kp_; exact nw_
  ·exact .refl _
  rintro ⟨i, lf⟩ ⟨hi, h0, h1, hs⟩
  dsimp only at hi h0 h1 hs |-
  by_cases hlt : i < l.length
  ·have hrow : (l.map (au.tw lo))[i]? = some (l[i].tw lo) := aL hlt
   have hbi := hb.2 _ (List.getElem_mem hlt)
   have hta := aY (p := au.small 1048576) hlt hs
   generalize l[i] = x at hrow hbi hta
   have hct := wE hst lo x lf (by omega) hbi
   unfold au.tw at hct
   rw [show x.tw lo = [.int .i64 x.kind, .int .i64 x.class_, .sl lo 3 (x.fields.map (ab.tw lo)), .sl lo 1 (aR x.numbers)] from rfl] at hrow
   repeat' (first | refine W_ ?_ | ((with_reducible apply aE); rfl; kernel_rfl; (repeat (first | exact ay.nil | ((with_reducible apply ay.cons); rfl))); exact hG; exact hct; exact .nil _; intro y hy; refine bL ?_) | refine c_ (fun hc => ?_) (fun hc => ?_))
   all_goals first
     | exact az x_ rfl (-1) ⟨by omega, by omega, fun h => by omega⟩ rfl (.nil R) (.refl _) (.tmp _ _ rfl) rfl
     | exact ah (i + 1, y) ⟨by dsimp only; omega, by dsimp only; omega, by dsimp only; omega, hta (hy.2.2 (by omega))⟩ (by dsimp only; omega) (.of _ nw_ od_ pk_)
  ·rw [List.take_of_length_le (by omega)] at hs
   repeat' refine W_ ?_
   exact az x_ rfl lf ⟨by omega, by omega, fun _ => ⟨by omega, hs⟩⟩ rfl (.nil R) (.refl _) (.tmp _ _ rfl) rfl
theorem vB (hst : aC G) (l1 l2 : Nat) (x : au) (hb : x.small 1048576) : Ct Tryz.prog G 211 [.agg (x.tw l1), .agg (x.tw l2)] (fun _ => .bool true) := by
 refine aq Tryz.func211 rfl Tryz.ntmps211 rfl rfl fun w0 _ hG => ?_
 unfold au.small at hb
 have hsfields := hb.1
 have hsnumbers := hb.2
 unfold au.tw
 repeat' (first | refine W_ ?_ | refine aJ ?_ | refine ac hG hst (iy hst l1 l2 x.fields hsfields) ?_ | refine ac hG hst (tD hst l1 l2 x.numbers hsnumbers) ?_)
 all_goals first
   | (exfalso; simp at hc; done)
   | (exact r1_)
theorem ug (hst : aC G) (l1 l2 : Nat) (l : List au) (hb : l.length <= 1048576 /\ ∀ y ∈ l, au.small 1048576 y) : Ct Tryz.prog G 131 [.sl l1 4 (l.map (au.tw l1)), .sl l2 4 (l.map (au.tw l2))] (fun _ => .bool true) := by
 refine aq Tryz.func131 rfl Tryz.ntmps131 rfl rfl fun w0 _ hG => ?_
 have hlen := au.len l1 l
 have hlen2 := au.len l2 l
 have hl1 := hb.1
 repeat' refine W_ ?_
 apply ai (X := Nat) [0, 1] (fun i => [(5, .int .i64 (i : Int))]) (fun _ => []) (fun i => i <= l.length) (fun i => l.length - i) 0 (Nat.zero_le _)
 exact kp_; exact nw_
 ·exact .refl _
 intro i hi
 try dsimp only
 by_cases hlt : i < l.length
 ·have hr1 : (l.map (au.tw l1))[i]? = some (l[i].tw l1) := aL hlt
  have hr2 : (l.map (au.tw l2))[i]? = some (l[i].tw l2) := aL hlt
  have hbi := hb.2 _ (List.getElem_mem hlt)
  generalize l[i] = x at hr1 hr2 hbi
  have hct := vB hst l1 l2 x hbi
  unfold au.tw at hct
  rw [show x.tw l1 = [.int .i64 x.kind, .int .i64 x.class_, .sl l1 3 (x.fields.map (ab.tw l1)), .sl l1 1 (aR x.numbers)] from rfl] at hr1
  rw [show x.tw l2 = [.int .i64 x.kind, .int .i64 x.class_, .sl l2 3 (x.fields.map (ab.tw l2)), .sl l2 1 (aR x.numbers)] from rfl] at hr2
  repeat' (first | refine V_ ?_ | refine ad hG hst (hct) ?_)
  exact ah (i + 1) (by omega) (by omega) (.of _ nw_ od_ pk_)
 ·repeat' refine W_ ?_
  exact r1_
end
def aQ.tw (lo : Nat) (x : aQ) : List TV := [.sl lo 3 (x.classes.map (aa.tw lo)), .sl lo 4 (x.objects.map (au.tw lo)), .sl lo 1 (aT x.output), .int .i64 x.ticks, .int .i64 x.budget, .int .i64 x.made]
def aQ.small (n : Nat) (x : aQ) : Prop := (x.classes.length <= n /\ ∀ y ∈ x.classes, aa.small n y) /\ (x.objects.length <= n /\ ∀ y ∈ x.objects, au.small n y) /\ (x.output.length <= n /\ ∀ y ∈ x.output, ByteArray.size y <= n)
def aQ.tz : List TV := [.nils, .nils, .nils, .int .i64 0, .int .i64 0, .int .i64 0]
theorem aQ.fin (B K : Nat) (objs : aF) (x : aQ) : iM B objs K (x.tw B) (x.tw K) := .cons (ck (fun x => aa.fin B K objs x) _) (.cons (ck (fun x => au.fin B K objs x) _) (.cons (ck (fun x => .cons (.flat rfl) .nil) _) (.cons (.flat rfl) (.cons (.flat rfl) (.cons (.flat rfl) (.nil))))))
theorem aQ.len (lo : Nat) (l : List aQ) : (l.map (aQ.tw lo)).length = l.length := by simp
section
variable {G : World -> Prop}
theorem zz (hst : aC G) (lo : Nat) (x : aQ) (left : Int) (h : 0 <= left /\ left <= 1048576) (hb : x.small 9223372036854775807) : CtM Tryz.prog G 30 [.agg (x.tw lo), .int .i64 left] [] (fun y : Int => -1 <= y /\ y <= left /\ (0 <= y -> x.small 1048576)) (fun _ => []) (fun y => .int .i64 y) := by
 refine aB Tryz.func30 rfl Tryz.ntmps30 rfl rfl rfl fun w0 R gs objsR hG hR => ?_
 obtain rfl := hR.inv0
 clear hR
 unfold aQ.small at hb
 skip
 unfold aQ.tw
 repeat' (first | refine W_ ?_ | refine aJ ?_ | ((with_reducible apply aE); rfl; kernel_rfl; (repeat (first | exact ay.nil | ((with_reducible apply ay.cons); rfl))); exact hG; exact i7 hst lo x.classes _ (by omega) hb.1; exact .nil _; intro y1 hy1; refine bL ?_) | ((with_reducible apply aE); rfl; kernel_rfl; (repeat (first | exact ay.nil | ((with_reducible apply ay.cons); rfl))); exact hG; exact tx hst lo x.objects _ (by omega) hb.2.1; exact .nil _; intro y2 hy2; refine bL ?_) | ((with_reducible apply aE); rfl; kernel_rfl; (repeat (first | exact ay.nil | ((with_reducible apply ay.cons); rfl))); exact hG; exact mV lo x.output _ (by omega) hb.2.2; exact .nil _; intro y3 hy3; refine bL ?_) | refine c_ (fun hc => ?_) (fun hc => ?_))
 all_goals first
   | exact az x_ rfl (-1) ⟨by omega, by omega, fun h => by omega⟩ rfl (.nil R) (.refl _) (.tmp _ _ rfl) rfl
   | (refine az x_ rfl _ ⟨?_, ?_, fun _ => ?_⟩ rfl (.nil R) (.refl _) (.tmp _ _ rfl) rfl
      ·omega
      ·omega
      ·exact ⟨hy1.2.2 (by omega), hy2.2.2 (by omega), hy3.2.2 (by omega)⟩)
theorem yG (hst : aC G) (l1 l2 : Nat) (x : aQ) (hb : x.small 1048576) : Ct Tryz.prog G 54 [.agg (x.tw l1), .agg (x.tw l2)] (fun _ => .bool true) := by
 refine aq Tryz.func54 rfl Tryz.ntmps54 rfl rfl fun w0 _ hG => ?_
 unfold aQ.small at hb
 have hsclasses := hb.1
 have hsobjects := hb.2.1
 have hsoutput := (hb.2.2).1
 unfold aQ.tw
 repeat' (first | refine W_ ?_ | refine aJ ?_ | refine ac hG hst (iS hst l1 l2 x.classes hsclasses) ?_ | refine ac hG hst (ug hst l1 l2 x.objects hsobjects) ?_ | refine ac hG hst (mL l1 l2 x.output hsoutput) ?_)
 all_goals first
   | (exfalso; simp at hc; done)
   | (exact r1_)
end
def am.tw (lo : Nat) (x : am) : List TV := [.int .i64 x.code, .int .i64 x.outer, .int .i64 x.home, .int .i64 x.self.kind, .int .i64 x.self.number, .str x.self.text]
def am.small (n : Nat) (x : am) : Prop := (ab.small n x.self)
def am.tz : List TV := [.int .i64 0, .int .i64 0, .int .i64 0, .int .i64 0, .int .i64 0, .str ⟨#[]⟩]
theorem am.fin (B K : Nat) (objs : aF) (x : am) : iM B objs K (x.tw B) (x.tw K) := .cons (.flat rfl) (.cons (.flat rfl) (.cons (.flat rfl) (.cons (.flat rfl) (.cons (.flat rfl) (.cons (.flat rfl) (.nil))))))
theorem am.len (lo : Nat) (l : List am) : (l.map (am.tw lo)).length = l.length := by simp
section
variable {G : World -> Prop}
theorem ui (hst : aC G) (lo : Nat) (x : am) (left : Int) (h : 0 <= left /\ left <= 1048576) (hb : x.small 9223372036854775807) : CtM Tryz.prog G 98 [.agg (x.tw lo), .int .i64 left] [] (fun y : Int => -1 <= y /\ y <= left /\ (0 <= y -> x.small 1048576)) (fun _ => []) (fun y => .int .i64 y) := by
 refine aB Tryz.func98 rfl Tryz.ntmps98 rfl rfl rfl fun w0 R gs objsR hG hR => ?_
 obtain rfl := hR.inv0
 clear hR
 unfold am.small at hb
 skip
 unfold am.tw
 repeat' (first | refine W_ ?_ | refine aJ ?_ | ((with_reducible apply aE); rfl; kernel_rfl; (repeat (first | exact ay.nil | ((with_reducible apply ay.cons); rfl))); exact hG; exact jn hst lo x.self _ (by omega) hb; exact .nil _; intro y1 hy1; refine bL ?_) | refine c_ (fun hc => ?_) (fun hc => ?_))
 all_goals first
   | exact az x_ rfl (-1) ⟨by omega, by omega, fun h => by omega⟩ rfl (.nil R) (.refl _) (.tmp _ _ rfl) rfl
   | (refine az x_ rfl _ ⟨?_, ?_, fun _ => ?_⟩ rfl (.nil R) (.refl _) (.tmp _ _ rfl) rfl
      ·omega
      ·omega
      ·exact hy1.2.2 (by omega))
theorem se (hst : aC G) (lo : Nat) (l : List am) (left : Int) (h : 0 <= left /\ left <= 1048576) (hb : l.length <= 9223372036854775807 /\ ∀ y ∈ l, am.small 9223372036854775807 y) : CtM Tryz.prog G 31 [.sl lo 6 (l.map (am.tw lo)), .int .i64 left] [] (fun y : Int => -1 <= y /\ y <= left /\ (0 <= y -> l.length <= 1048576 /\ ∀ y ∈ l, am.small 1048576 y)) (fun _ => []) (fun y => .int .i64 y) := by
 refine aB Tryz.func31 rfl Tryz.ntmps31 rfl rfl rfl fun w0 R gs objsR hG hR => ?_
 obtain rfl := hR.inv0
 clear hR
 have hlen := am.len lo l
 have hl1 := hb.1
 by_cases hn : left - l.length < 0
 ·repeat' refine W_ ?_
  exact az x_ rfl (-1) ⟨by omega, by omega, fun h => by omega⟩ rfl (.nil R) (.refl _) (.tmp _ _ rfl) rfl
 ·repeat' refine W_ ?_
  apply ai (X := Nat × Int) [0, 1000000] (fun x => [(5, .int .i64 (x.1 : Int)), (1, .int .i64 x.2)]) (fun _ => R) (fun x => x.1 <= l.length /\ 0 <= x.2 /\ x.2 <= left /\ ∀ y ∈ l.take x.1, am.small 1048576 y) (fun x => l.length - x.1) (0, left - l.length) ⟨Nat.zero_le _, by dsimp only; omega, by dsimp only; omega, by simp⟩
  exact kp_; exact nw_
  ·exact .refl _
  rintro ⟨i, lf⟩ ⟨hi, h0, h1, hs⟩
  dsimp only at hi h0 h1 hs |-
  by_cases hlt : i < l.length
  ·have hrow : (l.map (am.tw lo))[i]? = some (l[i].tw lo) := aL hlt
   have hbi := hb.2 _ (List.getElem_mem hlt)
   have hta := aY (p := am.small 1048576) hlt hs
   generalize l[i] = x at hrow hbi hta
   have hct := ui hst lo x lf (by omega) hbi
   unfold am.tw at hct
   rw [show x.tw lo = [.int .i64 x.code, .int .i64 x.outer, .int .i64 x.home, .int .i64 x.self.kind, .int .i64 x.self.number, .str x.self.text] from rfl] at hrow
   repeat' (first | refine W_ ?_ | ((with_reducible apply aE); rfl; kernel_rfl; (repeat (first | exact ay.nil | ((with_reducible apply ay.cons); rfl))); exact hG; exact hct; exact .nil _; intro y hy; refine bL ?_) | refine c_ (fun hc => ?_) (fun hc => ?_))
   all_goals first
     | exact az x_ rfl (-1) ⟨by omega, by omega, fun h => by omega⟩ rfl (.nil R) (.refl _) (.tmp _ _ rfl) rfl
     | exact ah (i + 1, y) ⟨by dsimp only; omega, by dsimp only; omega, by dsimp only; omega, hta (hy.2.2 (by omega))⟩ (by dsimp only; omega) (.of _ nw_ od_ pk_)
  ·rw [List.take_of_length_le (by omega)] at hs
   repeat' refine W_ ?_
   exact az x_ rfl lf ⟨by omega, by omega, fun _ => ⟨by omega, hs⟩⟩ rfl (.nil R) (.refl _) (.tmp _ _ rfl) rfl
theorem ur (hst : aC G) (lo : Nat) (x : am) (hb : x.small 1048576) : Ct Tryz.prog G 121 [.agg (x.tw lo)] (fun K => .agg (x.tw K)) := by
 refine aq Tryz.func121 rfl Tryz.ntmps121 rfl rfl fun w0 _ hG => ?_
 unfold am.small at hb
 have hsself := hb
 repeat' (first | refine W_ ?_ | refine aJ ?_ | (refine ak ?_; intro ss bb) | refine ae ?_ | refine ac hG hst (jx hst lo x.self (hsself)) ?_)
 refine aD x_ rfl (.cell _ _ _ _ _ rfl mm_ (by kernel_rfl) (by kernel_rfl) (by kernel_rfl)) (fun _ => ?_)
 exact lU (am.fin _ _ _ x)
theorem tU (hst : aC G) (l1 l2 : Nat) (x : am) (hb : x.small 1048576) : Ct Tryz.prog G 132 [.agg (x.tw l1), .agg (x.tw l2)] (fun _ => .bool true) := by
 refine aq Tryz.func132 rfl Tryz.ntmps132 rfl rfl fun w0 _ hG => ?_
 unfold am.small at hb
 have hsself := hb
 unfold am.tw
 repeat' (first | refine W_ ?_ | refine aJ ?_ | refine ac hG hst (jp hst l1 l2 x.self hsself) ?_)
 all_goals first
   | (exfalso; simp at hc; done)
   | (exact r1_)
theorem rX (hst : aC G) (l1 l2 : Nat) (l : List am) (hb : l.length <= 1048576 /\ ∀ y ∈ l, am.small 1048576 y) : Ct Tryz.prog G 55 [.sl l1 6 (l.map (am.tw l1)), .sl l2 6 (l.map (am.tw l2))] (fun _ => .bool true) := by
 refine aq Tryz.func55 rfl Tryz.ntmps55 rfl rfl fun w0 _ hG => ?_
 have hlen := am.len l1 l
 have hlen2 := am.len l2 l
 have hl1 := hb.1
 repeat' refine W_ ?_
 apply ai (X := Nat) [0, 1] (fun i => [(5, .int .i64 (i : Int))]) (fun _ => []) (fun i => i <= l.length) (fun i => l.length - i) 0 (Nat.zero_le _)
 exact kp_; exact nw_
 ·exact .refl _
 intro i hi
 try dsimp only
 by_cases hlt : i < l.length
 ·have hr1 : (l.map (am.tw l1))[i]? = some (l[i].tw l1) := aL hlt
  have hr2 : (l.map (am.tw l2))[i]? = some (l[i].tw l2) := aL hlt
  have hbi := hb.2 _ (List.getElem_mem hlt)
  generalize l[i] = x at hr1 hr2 hbi
  have hct := tU hst l1 l2 x hbi
  unfold am.tw at hct
  rw [show x.tw l1 = [.int .i64 x.code, .int .i64 x.outer, .int .i64 x.home, .int .i64 x.self.kind, .int .i64 x.self.number, .str x.self.text] from rfl] at hr1
  rw [show x.tw l2 = [.int .i64 x.code, .int .i64 x.outer, .int .i64 x.home, .int .i64 x.self.kind, .int .i64 x.self.number, .str x.self.text] from rfl] at hr2
  repeat' (first | refine V_ ?_ | refine ad hG hst (hct) ?_)
  exact ah (i + 1) (by omega) (by omega) (.of _ nw_ od_ pk_)
 ·repeat' refine W_ ?_
  exact r1_
end
def aj.tw (lo : Nat) (x : aj) : List TV := [.int .i64 x.mark, .int .i64 x.code, .int .i64 x.pc, .int .i64 x.sender, .int .i64 x.outer, .int .i64 x.home, .int .i64 x.self.kind, .int .i64 x.self.number, .str x.self.text, .sl lo 3 (x.slots.map (ab.tw lo)), .sl lo 3 (x.stack.map (ab.tw lo)), .sl lo 3 (x.values.map (ab.tw lo)), .int .i64 x.other, .bool x.retry]
def aj.small (n : Nat) (x : aj) : Prop := (ab.small n x.self) /\ (x.slots.length <= n /\ ∀ y ∈ x.slots, ab.small n y) /\ (x.stack.length <= n /\ ∀ y ∈ x.stack, ab.small n y) /\ (x.values.length <= n /\ ∀ y ∈ x.values, ab.small n y)
def aj.tz : List TV := [.int .i64 0, .int .i64 0, .int .i64 0, .int .i64 0, .int .i64 0, .int .i64 0, .int .i64 0, .int .i64 0, .str ⟨#[]⟩, .nils, .nils, .nils, .int .i64 0, .bool false]
theorem aj.fin (B K : Nat) (objs : aF) (x : aj) : iM B objs K (x.tw B) (x.tw K) := .cons (.flat rfl) (.cons (.flat rfl) (.cons (.flat rfl) (.cons (.flat rfl) (.cons (.flat rfl) (.cons (.flat rfl) (.cons (.flat rfl) (.cons (.flat rfl) (.cons (.flat rfl) (.cons (ck (fun x => ab.fin B K objs x) _) (.cons (ck (fun x => ab.fin B K objs x) _) (.cons (ck (fun x => ab.fin B K objs x) _) (.cons (.flat rfl) (.cons (.flat rfl) (.nil))))))))))))))
theorem aj.len (lo : Nat) (l : List aj) : (l.map (aj.tw lo)).length = l.length := by simp
section
variable {G : World -> Prop}
theorem tj (hst : aC G) (lo : Nat) (x : aj) (left : Int) (h : 0 <= left /\ left <= 1048576) (hb : x.small 9223372036854775807) : CtM Tryz.prog G 99 [.agg (x.tw lo), .int .i64 left] [] (fun y : Int => -1 <= y /\ y <= left /\ (0 <= y -> x.small 1048576)) (fun _ => []) (fun y => .int .i64 y) := by
 refine aB Tryz.func99 rfl Tryz.ntmps99 rfl rfl rfl fun w0 R gs objsR hG hR => ?_
 obtain rfl := hR.inv0
 clear hR
 unfold aj.small at hb
 skip
 unfold aj.tw
 repeat' (first | refine W_ ?_ | refine aJ ?_ | ((with_reducible apply aE); rfl; kernel_rfl; (repeat (first | exact ay.nil | ((with_reducible apply ay.cons); rfl))); exact hG; exact jn hst lo x.self _ (by omega) hb.1; exact .nil _; intro y1 hy1; refine bL ?_) | ((with_reducible apply aE); rfl; kernel_rfl; (repeat (first | exact ay.nil | ((with_reducible apply ay.cons); rfl))); exact hG; exact io hst lo x.slots _ (by omega) hb.2.1; exact .nil _; intro y2 hy2; refine bL ?_) | ((with_reducible apply aE); rfl; kernel_rfl; (repeat (first | exact ay.nil | ((with_reducible apply ay.cons); rfl))); exact hG; exact io hst lo x.stack _ (by omega) hb.2.2.1; exact .nil _; intro y3 hy3; refine bL ?_) | ((with_reducible apply aE); rfl; kernel_rfl; (repeat (first | exact ay.nil | ((with_reducible apply ay.cons); rfl))); exact hG; exact io hst lo x.values _ (by omega) hb.2.2.2; exact .nil _; intro y4 hy4; refine bL ?_) | refine c_ (fun hc => ?_) (fun hc => ?_))
 all_goals first
   | exact az x_ rfl (-1) ⟨by omega, by omega, fun h => by omega⟩ rfl (.nil R) (.refl _) (.tmp _ _ rfl) rfl
   | (refine az x_ rfl _ ⟨?_, ?_, fun _ => ?_⟩ rfl (.nil R) (.refl _) (.tmp _ _ rfl) rfl
      ·omega
      ·omega
      ·exact ⟨hy1.2.2 (by omega), hy2.2.2 (by omega), hy3.2.2 (by omega), hy4.2.2 (by omega)⟩)
theorem rF (hst : aC G) (lo : Nat) (l : List aj) (left : Int) (h : 0 <= left /\ left <= 1048576) (hb : l.length <= 9223372036854775807 /\ ∀ y ∈ l, aj.small 9223372036854775807 y) : CtM Tryz.prog G 32 [.sl lo 14 (l.map (aj.tw lo)), .int .i64 left] [] (fun y : Int => -1 <= y /\ y <= left /\ (0 <= y -> l.length <= 1048576 /\ ∀ y ∈ l, aj.small 1048576 y)) (fun _ => []) (fun y => .int .i64 y) := by
 refine aB Tryz.func32 rfl Tryz.ntmps32 rfl rfl rfl fun w0 R gs objsR hG hR => ?_
 obtain rfl := hR.inv0
 clear hR
 have hlen := aj.len lo l
 have hl1 := hb.1
 by_cases hn : left - l.length < 0
 ·repeat' refine W_ ?_
  exact az x_ rfl (-1) ⟨by omega, by omega, fun h => by omega⟩ rfl (.nil R) (.refl _) (.tmp _ _ rfl) rfl
 ·repeat' refine W_ ?_
  apply ai (X := Nat × Int) [0, 1000000] (fun x => [(5, .int .i64 (x.1 : Int)), (1, .int .i64 x.2)]) (fun _ => R) (fun x => x.1 <= l.length /\ 0 <= x.2 /\ x.2 <= left /\ ∀ y ∈ l.take x.1, aj.small 1048576 y) (fun x => l.length - x.1) (0, left - l.length) ⟨Nat.zero_le _, by dsimp only; omega, by dsimp only; omega, by simp⟩
  exact kp_; exact nw_
  ·exact .refl _
  rintro ⟨i, lf⟩ ⟨hi, h0, h1, hs⟩
  dsimp only at hi h0 h1 hs |-
  by_cases hlt : i < l.length
  ·have hrow : (l.map (aj.tw lo))[i]? = some (l[i].tw lo) := aL hlt
   have hbi := hb.2 _ (List.getElem_mem hlt)
   have hta := aY (p := aj.small 1048576) hlt hs
   generalize l[i] = x at hrow hbi hta
   have hct := tj hst lo x lf (by omega) hbi
   unfold aj.tw at hct
   rw [show x.tw lo = [.int .i64 x.mark, .int .i64 x.code, .int .i64 x.pc, .int .i64 x.sender, .int .i64 x.outer, .int .i64 x.home, .int .i64 x.self.kind, .int .i64 x.self.number, .str x.self.text, .sl lo 3 (x.slots.map (ab.tw lo)), .sl lo 3 (x.stack.map (ab.tw lo)), .sl lo 3 (x.values.map (ab.tw lo)), .int .i64 x.other, .bool x.retry] from rfl] at hrow
   repeat' (first | refine W_ ?_ | ((with_reducible apply aE); rfl; kernel_rfl; (repeat (first | exact ay.nil | ((with_reducible apply ay.cons); rfl))); exact hG; exact hct; exact .nil _; intro y hy; refine bL ?_) | refine c_ (fun hc => ?_) (fun hc => ?_))
   all_goals first
     | exact az x_ rfl (-1) ⟨by omega, by omega, fun h => by omega⟩ rfl (.nil R) (.refl _) (.tmp _ _ rfl) rfl
     | exact ah (i + 1, y) ⟨by dsimp only; omega, by dsimp only; omega, by dsimp only; omega, hta (hy.2.2 (by omega))⟩ (by dsimp only; omega) (.of _ nw_ od_ pk_)
  ·rw [List.take_of_length_le (by omega)] at hs
   repeat' refine W_ ?_
   exact az x_ rfl lf ⟨by omega, by omega, fun _ => ⟨by omega, hs⟩⟩ rfl (.nil R) (.refl _) (.tmp _ _ rfl) rfl
theorem sZ (hst : aC G) (l1 l2 : Nat) (x : aj) (hb : x.small 1048576) : Ct Tryz.prog G 133 [.agg (x.tw l1), .agg (x.tw l2)] (fun _ => .bool true) := by
 refine aq Tryz.func133 rfl Tryz.ntmps133 rfl rfl fun w0 _ hG => ?_
 unfold aj.small at hb
 have hsself := hb.1
 have hsslots := hb.2.1
 have hsstack := hb.2.2.1
 have hsvalues := hb.2.2.2
 unfold aj.tw
 repeat' (first | refine W_ ?_ | refine aJ ?_ | refine ac hG hst (jp hst l1 l2 x.self hsself) ?_ | refine ac hG hst (iy hst l1 l2 x.slots hsslots) ?_ | refine ac hG hst (iy hst l1 l2 x.stack hsstack) ?_ | refine ac hG hst (iy hst l1 l2 x.values hsvalues) ?_ | refine c_ (fun hc => ?_) (fun hc => ?_))
 all_goals first
   | (exfalso; simp at hc; done)
   | (exact r1_)
theorem rT (hst : aC G) (l1 l2 : Nat) (l : List aj) (hb : l.length <= 1048576 /\ ∀ y ∈ l, aj.small 1048576 y) : Ct Tryz.prog G 56 [.sl l1 14 (l.map (aj.tw l1)), .sl l2 14 (l.map (aj.tw l2))] (fun _ => .bool true) := by
 refine aq Tryz.func56 rfl Tryz.ntmps56 rfl rfl fun w0 _ hG => ?_
 have hlen := aj.len l1 l
 have hlen2 := aj.len l2 l
 have hl1 := hb.1
 repeat' refine W_ ?_
 apply ai (X := Nat) [0, 1] (fun i => [(5, .int .i64 (i : Int))]) (fun _ => []) (fun i => i <= l.length) (fun i => l.length - i) 0 (Nat.zero_le _)
 exact kp_; exact nw_
 ·exact .refl _
 intro i hi
 try dsimp only
 by_cases hlt : i < l.length
 ·have hr1 : (l.map (aj.tw l1))[i]? = some (l[i].tw l1) := aL hlt
  have hr2 : (l.map (aj.tw l2))[i]? = some (l[i].tw l2) := aL hlt
  have hbi := hb.2 _ (List.getElem_mem hlt)
  generalize l[i] = x at hr1 hr2 hbi
  have hct := sZ hst l1 l2 x hbi
  unfold aj.tw at hct
  rw [show x.tw l1 = [.int .i64 x.mark, .int .i64 x.code, .int .i64 x.pc, .int .i64 x.sender, .int .i64 x.outer, .int .i64 x.home, .int .i64 x.self.kind, .int .i64 x.self.number, .str x.self.text, .sl l1 3 (x.slots.map (ab.tw l1)), .sl l1 3 (x.stack.map (ab.tw l1)), .sl l1 3 (x.values.map (ab.tw l1)), .int .i64 x.other, .bool x.retry] from rfl] at hr1
  rw [show x.tw l2 = [.int .i64 x.mark, .int .i64 x.code, .int .i64 x.pc, .int .i64 x.sender, .int .i64 x.outer, .int .i64 x.home, .int .i64 x.self.kind, .int .i64 x.self.number, .str x.self.text, .sl l2 3 (x.slots.map (ab.tw l2)), .sl l2 3 (x.stack.map (ab.tw l2)), .sl l2 3 (x.values.map (ab.tw l2)), .int .i64 x.other, .bool x.retry] from rfl] at hr2
  repeat' (first | refine V_ ?_ | refine ad hG hst (hct) ?_)
  exact ah (i + 1) (by omega) (by omega) (.of _ nw_ od_ pk_)
 ·repeat' refine W_ ?_
  exact r1_
end
def ap.tw (lo : Nat) (x : ap) : List TV := [.int .i64 x.at_, .bool x.main]
def ap.small (n : Nat) (x : ap) : Prop := True
def ap.tz : List TV := [.int .i64 0, .bool false]
theorem ap.fin (B K : Nat) (objs : aF) (x : ap) : iM B objs K (x.tw B) (x.tw K) := .cons (.flat rfl) (.cons (.flat rfl) (.nil))
theorem ap.len (lo : Nat) (l : List ap) : (l.map (ap.tw lo)).length = l.length := by simp
section
variable {G : World -> Prop}
theorem sI (_ : aC G) (lo : Nat) (l : List ap) (left : Int) (h : 0 <= left /\ left <= 1048576) (hb : l.length <= 9223372036854775807 /\ ∀ y ∈ l, ap.small 9223372036854775807 y) : CtM Tryz.prog G 33 [.sl lo 2 (l.map (ap.tw lo)), .int .i64 left] [] (fun y : Int => -1 <= y /\ y <= left /\ (0 <= y -> l.length <= 1048576 /\ ∀ y ∈ l, ap.small 1048576 y)) (fun _ => []) (fun y => .int .i64 y) := by
 refine aB Tryz.func33 rfl Tryz.ntmps33 rfl rfl rfl fun w0 R gs objsR hG hR => ?_
 obtain rfl := hR.inv0
 clear hR
 have hlen := ap.len lo l
 have hl1 := hb.1
 by_cases hn : left - l.length < 0
 ·repeat' refine W_ ?_
  exact az x_ rfl (-1) ⟨by omega, by omega, fun h => by omega⟩ rfl (.nil R) (.refl _) (.tmp _ _ rfl) rfl
 ·repeat' refine W_ ?_
  exact az x_ rfl (left - l.length) ⟨by omega, by omega, fun _ => ⟨by omega, fun _ _ => trivial⟩⟩ rfl (.nil R) (.refl _) (.tmp _ _ rfl) rfl
theorem ub (hst : aC G) (lo : Nat) (x : ap) (hb : x.small 1048576) : Ct Tryz.prog G 123 [.agg (x.tw lo)] (fun K => .agg (x.tw K)) := by
 refine aq Tryz.func123 rfl Tryz.ntmps123 rfl rfl fun w0 _ hG => ?_
 unfold ap.small at hb
 skip
 repeat' (first | refine W_ ?_ | refine aJ ?_ | (refine ak ?_; intro ss bb) | refine ae ?_)
 refine aD x_ rfl (.cell _ _ _ _ _ rfl mm_ (by kernel_rfl) (by kernel_rfl) (by kernel_rfl)) (fun _ => ?_)
 exact lU (ap.fin _ _ _ x)
theorem tH (hst : aC G) (l1 l2 : Nat) (x : ap) (hb : x.small 1048576) : Ct Tryz.prog G 134 [.agg (x.tw l1), .agg (x.tw l2)] (fun _ => .bool true) := by
 refine aq Tryz.func134 rfl Tryz.ntmps134 rfl rfl fun w0 _ hG => ?_
 unfold ap.small at hb
 skip
 unfold ap.tw
 repeat' (first | refine W_ ?_ | refine aJ ?_ | refine c_ (fun hc => ?_) (fun hc => ?_))
 all_goals first
   | (exfalso; simp at hc; done)
   | (exact r1_)
theorem sp (hst : aC G) (l1 l2 : Nat) (l : List ap) (hb : l.length <= 1048576 /\ ∀ y ∈ l, ap.small 1048576 y) : Ct Tryz.prog G 57 [.sl l1 2 (l.map (ap.tw l1)), .sl l2 2 (l.map (ap.tw l2))] (fun _ => .bool true) := by
 refine aq Tryz.func57 rfl Tryz.ntmps57 rfl rfl fun w0 _ hG => ?_
 have hlen := ap.len l1 l
 have hlen2 := ap.len l2 l
 have hl1 := hb.1
 repeat' refine W_ ?_
 apply ai (X := Nat) [0, 1] (fun i => [(5, .int .i64 (i : Int))]) (fun _ => []) (fun i => i <= l.length) (fun i => l.length - i) 0 (Nat.zero_le _)
 exact kp_; exact nw_
 ·exact .refl _
 intro i hi
 try dsimp only
 by_cases hlt : i < l.length
 ·have hr1 : (l.map (ap.tw l1))[i]? = some (l[i].tw l1) := aL hlt
  have hr2 : (l.map (ap.tw l2))[i]? = some (l[i].tw l2) := aL hlt
  have hbi := hb.2 _ (List.getElem_mem hlt)
  generalize l[i] = x at hr1 hr2 hbi
  have hct := tH hst l1 l2 x hbi
  unfold ap.tw at hct
  rw [show x.tw l1 = [.int .i64 x.at_, .bool x.main] from rfl] at hr1
  rw [show x.tw l2 = [.int .i64 x.at_, .bool x.main] from rfl] at hr2
  repeat' (first | refine V_ ?_ | refine ad hG hst (hct) ?_)
  exact ah (i + 1) (by omega) (by omega) (.of _ nw_ od_ pk_)
 ·repeat' refine W_ ?_
  exact r1_
end
def ao.tw (lo : Nat) (x : ao) : List TV := [.sl lo 3 (x.base.classes.map (aa.tw lo)), .sl lo 4 (x.base.codes.map (aw.tw lo)), .sl lo 4 (x.base.entries.map (av.tw lo)), .int .i64 x.base.main, .sl lo 3 (x.store.classes.map (aa.tw lo)), .sl lo 4 (x.store.objects.map (au.tw lo)), .sl lo 1 (aT x.store.output), .int .i64 x.store.ticks, .int .i64 x.store.budget, .int .i64 x.store.made, .sl lo 6 (x.blocks.map (am.tw lo)), .sl lo 14 (x.contexts.map (aj.tw lo)), .sl lo 2 (x.processes.map (ap.tw lo)), .sl lo 1 (aR x.ready), .int .i64 x.now, .int .i64 x.status, .int .i64 x.value.kind, .int .i64 x.value.number, .str x.value.text, .str x.fault]
def ao.small (n : Nat) (x : ao) : Prop := (aA.small n x.base) /\ (aQ.small n x.store) /\ (x.blocks.length <= n /\ ∀ y ∈ x.blocks, am.small n y) /\ (x.contexts.length <= n /\ ∀ y ∈ x.contexts, aj.small n y) /\ (x.processes.length <= n /\ ∀ y ∈ x.processes, ap.small n y) /\ (x.ready.length <= n) /\ (ab.small n x.value) /\ (x.fault.size <= n)
def ao.tz : List TV := [.nils, .nils, .nils, .int .i64 0, .nils, .nils, .nils, .int .i64 0, .int .i64 0, .int .i64 0, .nils, .nils, .nils, .nils, .int .i64 0, .int .i64 0, .int .i64 0, .int .i64 0, .str ⟨#[]⟩, .str ⟨#[]⟩]
theorem ao.fin (B K : Nat) (objs : aF) (x : ao) : iM B objs K (x.tw B) (x.tw K) := .cons (ck (fun x => aa.fin B K objs x) _) (.cons (ck (fun x => aw.fin B K objs x) _) (.cons (ck (fun x => av.fin B K objs x) _) (.cons (.flat rfl) (.cons (ck (fun x => aa.fin B K objs x) _) (.cons (ck (fun x => au.fin B K objs x) _) (.cons (ck (fun x => .cons (.flat rfl) .nil) _) (.cons (.flat rfl) (.cons (.flat rfl) (.cons (.flat rfl) (.cons (ck (fun x => am.fin B K objs x) _) (.cons (ck (fun x => aj.fin B K objs x) _) (.cons (ck (fun x => ap.fin B K objs x) _) (.cons (ck (fun x => .cons (.flat rfl) .nil) _) (.cons (.flat rfl) (.cons (.flat rfl) (.cons (.flat rfl) (.cons (.flat rfl) (.cons (.flat rfl) (.cons (.flat rfl) (.nil))))))))))))))))))))
theorem ao.len (lo : Nat) (l : List ao) : (l.map (ao.tw lo)).length = l.length := by simp
section
variable {G : World -> Prop}
theorem zw (hst : aC G) (lo : Nat) (x : ao) (left : Int) (h : 0 <= left /\ left <= 1048576) (hb : x.small 9223372036854775807) : CtM Tryz.prog G 8 [.agg (x.tw lo), .int .i64 left] [] (fun y : Int => -1 <= y /\ y <= left /\ (0 <= y -> x.small 1048576)) (fun _ => []) (fun y => .int .i64 y) := by
 refine aB Tryz.func8 rfl Tryz.ntmps8 rfl rfl rfl fun w0 R gs objsR hG hR => ?_
 obtain rfl := hR.inv0
 clear hR
 unfold ao.small at hb
 have hb8 : x.fault.size <= 9223372036854775807 := hb.2.2.2.2.2.2.2
 unfold ao.tw
 repeat' (first | refine W_ ?_ | refine aJ ?_ | ((with_reducible apply aE); rfl; kernel_rfl; (repeat (first | exact ay.nil | ((with_reducible apply ay.cons); rfl))); exact hG; exact rM hst lo x.base _ (by omega) hb.1; exact .nil _; intro y1 hy1; refine bL ?_) | ((with_reducible apply aE); rfl; kernel_rfl; (repeat (first | exact ay.nil | ((with_reducible apply ay.cons); rfl))); exact hG; exact zz hst lo x.store _ (by omega) hb.2.1; exact .nil _; intro y2 hy2; refine bL ?_) | ((with_reducible apply aE); rfl; kernel_rfl; (repeat (first | exact ay.nil | ((with_reducible apply ay.cons); rfl))); exact hG; exact se hst lo x.blocks _ (by omega) hb.2.2.1; exact .nil _; intro y3 hy3; refine bL ?_) | ((with_reducible apply aE); rfl; kernel_rfl; (repeat (first | exact ay.nil | ((with_reducible apply ay.cons); rfl))); exact hG; exact rF hst lo x.contexts _ (by omega) hb.2.2.2.1; exact .nil _; intro y4 hy4; refine bL ?_) | ((with_reducible apply aE); rfl; kernel_rfl; (repeat (first | exact ay.nil | ((with_reducible apply ay.cons); rfl))); exact hG; exact sI hst lo x.processes _ (by omega) hb.2.2.2.2.1; exact .nil _; intro y5 hy5; refine bL ?_) | ((with_reducible apply aE); rfl; kernel_rfl; (repeat (first | exact ay.nil | ((with_reducible apply ay.cons); rfl))); exact hG; exact tG hst lo x.ready _ (by omega) hb.2.2.2.2.2.1; exact .nil _; intro y6 hy6; refine bL ?_) | ((with_reducible apply aE); rfl; kernel_rfl; (repeat (first | exact ay.nil | ((with_reducible apply ay.cons); rfl))); exact hG; exact jn hst lo x.value _ (by omega) hb.2.2.2.2.2.2.1; exact .nil _; intro y7 hy7; refine bL ?_) | refine c_ (fun hc => ?_) (fun hc => ?_))
 all_goals first
   | exact az x_ rfl (-1) ⟨by omega, by omega, fun h => by omega⟩ rfl (.nil R) (.refl _) (.tmp _ _ rfl) rfl
   | (refine az x_ rfl _ ⟨?_, ?_, fun _ => ?_⟩ rfl (.nil R) (.refl _) (.tmp _ _ rfl) rfl
      ·omega
      ·omega
      ·exact ⟨hy1.2.2 (by omega), hy2.2.2 (by omega), hy3.2.2 (by omega), hy4.2.2 (by omega), hy5.2.2 (by omega), hy6.2.2 (by omega), hy7.2.2 (by omega), by omega⟩)
theorem yY (hst : aC G) (l1 l2 : Nat) (x : ao) (hb : x.small 1048576) : Ct Tryz.prog G 12 [.agg (x.tw l1), .agg (x.tw l2)] (fun _ => .bool true) := by
 refine aq Tryz.func12 rfl Tryz.ntmps12 rfl rfl fun w0 _ hG => ?_
 unfold ao.small at hb
 have hsbase := hb.1
 have hsstore := hb.2.1
 have hsblocks := hb.2.2.1
 have hscontexts := hb.2.2.2.1
 have hsprocesses := hb.2.2.2.2.1
 have hsready := hb.2.2.2.2.2.1
 have hsvalue := hb.2.2.2.2.2.2.1
 have hnefault : ¬ x.fault ≠ x.fault := fun h => h rfl
 unfold ao.tw
 repeat' (first | refine W_ ?_ | refine aJ ?_ | refine ac hG hst (rU hst l1 l2 x.base hsbase) ?_ | refine ac hG hst (yG hst l1 l2 x.store hsstore) ?_ | refine ac hG hst (rX hst l1 l2 x.blocks hsblocks) ?_ | refine ac hG hst (rT hst l1 l2 x.contexts hscontexts) ?_ | refine ac hG hst (sp hst l1 l2 x.processes hsprocesses) ?_ | refine ac hG hst (tD hst l1 l2 x.ready hsready) ?_ | refine ac hG hst (jp hst l1 l2 x.value hsvalue) ?_)
 all_goals first
   | (exfalso; simp at hc; done)
   | (exact r1_)
end
end Go.Proofs.YtigipcbnfeoliaaGreatDoor
