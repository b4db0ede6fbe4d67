/- Part 11 of the proof: the texts LwU. -/
import Derived.Test.YtofnnnpahglfdaaGreatDoorFo7
set_option linter.all false
set_option maxHeartbeats 2000000
set_option maxRecDepth 20000
namespace Go.Proofs.YtofnnnpahglfdaaGreatDoor
open Go Go.RowKit
section
variable {G : World -> Prop}
theorem tQ (_ : aB G) (lo : Nat) (l : List Int) (left : Int) (h : 0 <= left /\ left <= 1048576) (hb : l.length <= 9223372036854775807) : CtM Tryz.prog G 33 [.sl lo 1 (aS l), .int .i64 left] [] (fun y : Int => -1 <= y /\ y <= left /\ (0 <= y -> l.length <= 1048576)) (fun _ => []) (fun y => .int .i64 y) := by
 refine aC Tryz.func33 rfl Tryz.ntmps33 rfl rfl rfl fun w0 R gs objsR hG hR => ?_
 obtain rfl := hR.inv0
 clear hR
 have hlen := ao l
 by_cases hn : left - l.length < 0
 ·repeat' refine W_ ?_
  exact av x_ rfl (-1) ⟨by omega, by omega, fun h => by omega⟩ rfl (.nil R) (.refl _) (.tmp _ _ rfl) rfl
 ·repeat' refine W_ ?_
  exact av x_ rfl (left - l.length) ⟨by omega, by omega, fun _ => by omega⟩ rfl (.nil R) (.refl _) (.tmp _ _ rfl) rfl
theorem tF (_ : aB G) (l1 l2 : Nat) (l : List Int) (hn : l.length <= 1048576) : Ct Tryz.prog G 49 [.sl l1 1 (aS l), .sl l2 1 (aS l)] (fun _ => .bool true) := by
 refine am Tryz.func49 rfl Tryz.ntmps49 rfl rfl fun w0 _ hG => ?_
 have hlen := ao l
 repeat' refine W_ ?_
 apply ak (X := Nat) [0, 1] (fun i => [(5, .int .i64 (i : Int))]) (fun _ => []) (fun i => i <= l.length) (fun i => l.length - i) 0 (Nat.zero_le _)
 exact kp_; exact nw_
 ·exact .refl _
 intro i hi
 try dsimp only
 by_cases hlt : i < l.length
 ·have hrow := gV hlt
  generalize l[i] = x at hrow
  repeat' refine V_ ?_
  all_goals first
    | exact ag (i + 1) (by omega) (by omega) (.of _ nw_ od_ pk_)
    | (exfalso; simp at hc; done)
 ·repeat' refine W_ ?_
  exact r1_
end
def ad.tw (lo : Nat) (x : ad) : List TV := [.int .i64 x.kind, .int .i64 x.number, .str x.text]
def ad.small (n : Nat) (x : ad) : Prop := (x.text.size <= n)
def ad.tz : List TV := [.int .i64 0, .int .i64 0, .str ⟨#[]⟩]
theorem ad.fin (B K : Nat) (objs : aH) (x : ad) : iM B objs K (x.tw B) (x.tw K) := .cons (.flat rfl) (.cons (.flat rfl) (.cons (.flat rfl) (.nil)))
theorem ad.len (lo : Nat) (l : List ad) : (l.map (ad.tw lo)).length = l.length := by simp
section
variable {G : World -> Prop}
theorem iT (hst : aB G) (lo : Nat) (x : ad) (left : Int) (h : 0 <= left /\ left <= 1048576) (hb : x.small 9223372036854775807) : CtM Tryz.prog G 21 [.agg (x.tw lo), .int .i64 left] [] (fun y : Int => -1 <= y /\ y <= left /\ (0 <= y -> x.small 1048576)) (fun _ => []) (fun y => .int .i64 y) := by
 refine aC Tryz.func21 rfl Tryz.ntmps21 rfl rfl rfl fun w0 R gs objsR hG hR => ?_
 obtain rfl := hR.inv0
 clear hR
 unfold ad.small at hb
 have hb1 : x.text.size <= 9223372036854775807 := hb
 unfold ad.tw
 repeat' (first | refine W_ ?_ | refine aD ?_ | refine c_ (fun hc => ?_) (fun hc => ?_))
 all_goals first
   | exact av x_ rfl (-1) ⟨by omega, by omega, fun h => by omega⟩ rfl (.nil R) (.refl _) (.tmp _ _ rfl) rfl
   | (refine av x_ rfl _ ⟨?_, ?_, fun _ => ?_⟩ rfl (.nil R) (.refl _) (.tmp _ _ rfl) rfl
      ·omega
      ·omega
      ·show _ <= _; omega)
theorem gr (hst : aB G) (lo : Nat) (l : List ad) (left : Int) (h : 0 <= left /\ left <= 1048576) (hb : l.length <= 9223372036854775807 /\ ∀ y ∈ l, ad.small 9223372036854775807 y) : CtM Tryz.prog G 176 [.sl lo 3 (l.map (ad.tw lo)), .int .i64 left] [] (fun y : Int => -1 <= y /\ y <= left /\ (0 <= y -> l.length <= 1048576 /\ ∀ y ∈ l, ad.small 1048576 y)) (fun _ => []) (fun y => .int .i64 y) := by
 refine aC Tryz.func176 rfl Tryz.ntmps176 rfl rfl rfl fun w0 R gs objsR hG hR => ?_
 obtain rfl := hR.inv0
 clear hR
 have hlen := ad.len lo l
 have hl1 := hb.1
 by_cases hn : left - l.length < 0
 ·repeat' refine W_ ?_
  exact av x_ rfl (-1) ⟨by omega, by omega, fun h => by omega⟩ rfl (.nil R) (.refl _) (.tmp _ _ rfl) rfl
 ·repeat' refine W_ ?_
  apply ak (X := Nat × Int) [0, 1000000] (fun x => [(5, .int .i64 (x.1 : Int)), (1, .int .i64 x.2)]) (fun _ => R) (fun x => x.1 <= l.length /\ 0 <= x.2 /\ x.2 <= left /\ ∀ y ∈ l.take x.1, ad.small 1048576 y) (fun x => l.length - x.1) (0, left - l.length) ⟨Nat.zero_le _, by dsimp only; omega, by dsimp only; omega, by simp⟩
  exact kp_; exact nw_
  ·exact .refl _
  rintro ⟨i, lf⟩ ⟨hi, h0, h1, hs⟩
  dsimp only at hi h0 h1 hs |-
  by_cases hlt : i < l.length
  ·have hrow : (l.map (ad.tw lo))[i]? = some (l[i].tw lo) := aM hlt
   have hbi := hb.2 _ (List.getElem_mem hlt)
   have hta := aV (p := ad.small 1048576) hlt hs
   generalize l[i] = x at hrow hbi hta
   have hct := iT hst lo x lf (by omega) hbi
   unfold ad.tw at hct
   rw [show x.tw lo = [.int .i64 x.kind, .int .i64 x.number, .str x.text] from rfl] at hrow
   repeat' (first | refine W_ ?_ | ((with_reducible apply aG); rfl; kernel_rfl; (repeat (first | exact aF.nil | ((with_reducible apply aF.cons); rfl))); exact hG; exact hct; exact .nil _; intro y hy; refine bD ?_) | refine c_ (fun hc => ?_) (fun hc => ?_))
   all_goals first
     | exact av x_ rfl (-1) ⟨by omega, by omega, fun h => by omega⟩ rfl (.nil R) (.refl _) (.tmp _ _ rfl) rfl
     | exact ag (i + 1, y) ⟨by dsimp only; omega, by dsimp only; omega, by dsimp only; omega, hta (hy.2.2 (by omega))⟩ (by dsimp only; omega) (.of _ nw_ od_ pk_)
  ·rw [List.take_of_length_le (by omega)] at hs
   repeat' refine W_ ?_
   exact av x_ rfl lf ⟨by omega, by omega, fun _ => ⟨by omega, hs⟩⟩ rfl (.nil R) (.refl _) (.tmp _ _ rfl) rfl
theorem jh (hst : aB G) (lo : Nat) (x : ad) (hb : x.small 1048576) : Ct Tryz.prog G 23 [.agg (x.tw lo)] (fun K => .agg (x.tw K)) := by
 refine am Tryz.func23 rfl Tryz.ntmps23 rfl rfl fun w0 _ hG => ?_
 unfold ad.small at hb
 skip
 repeat' (first | refine W_ ?_ | refine aD ?_ | (refine aj ?_; intro ss bb) | refine ac ?_)
 refine aE x_ rfl (.cell _ _ _ _ _ rfl mm_ (by kernel_rfl) (by kernel_rfl) (by kernel_rfl)) (fun _ => ?_)
 exact gR (ad.fin _ _ _ x)
theorem jf (hst : aB G) (l1 l2 : Nat) (x : ad) (hb : x.small 1048576) : Ct Tryz.prog G 50 [.agg (x.tw l1), .agg (x.tw l2)] (fun _ => .bool true) := by
 refine am Tryz.func50 rfl Tryz.ntmps50 rfl rfl fun w0 _ hG => ?_
 unfold ad.small at hb
 have hnetext : ¬ x.text ≠ x.text := fun h => h rfl
 unfold ad.tw
 repeat' (first | refine W_ ?_ | refine aD ?_)
 all_goals first
   | (exfalso; simp at hc; done)
   | (exact r1_)
theorem gx (hst : aB G) (l1 l2 : Nat) (l : List ad) (hb : l.length <= 1048576 /\ ∀ y ∈ l, ad.small 1048576 y) : Ct Tryz.prog G 210 [.sl l1 3 (l.map (ad.tw l1)), .sl l2 3 (l.map (ad.tw l2))] (fun _ => .bool true) := by
 refine am Tryz.func210 rfl Tryz.ntmps210 rfl rfl fun w0 _ hG => ?_
 have hlen := ad.len l1 l
 have hlen2 := ad.len l2 l
 have hl1 := hb.1
 repeat' refine W_ ?_
 apply ak (X := Nat) [0, 1] (fun i => [(5, .int .i64 (i : Int))]) (fun _ => []) (fun i => i <= l.length) (fun i => l.length - i) 0 (Nat.zero_le _)
 exact kp_; exact nw_
 ·exact .refl _
 intro i hi
 try dsimp only
 by_cases hlt : i < l.length
 ·have hr1 : (l.map (ad.tw l1))[i]? = some (l[i].tw l1) := aM hlt
  have hr2 : (l.map (ad.tw l2))[i]? = some (l[i].tw l2) := aM hlt
  have hbi := hb.2 _ (List.getElem_mem hlt)
  generalize l[i] = x at hr1 hr2 hbi
  have hct := jf hst l1 l2 x hbi
  unfold ad.tw at hct
  rw [show x.tw l1 = [.int .i64 x.kind, .int .i64 x.number, .str x.text] from rfl] at hr1
  rw [show x.tw l2 = [.int .i64 x.kind, .int .i64 x.number, .str x.text] from rfl] at hr2
  repeat' (first | refine V_ ?_ | refine ae hG hst (hct) ?_)
  exact ag (i + 1) (by omega) (by omega) (.of _ nw_ od_ pk_)
 ·repeat' refine W_ ?_
  exact r1_
end
def ay.tw (lo : Nat) (x : ay) : List TV := [.int .i64 x.kind, .int .i64 x.class_, .sl lo 3 (x.fields.map (ad.tw lo)), .sl lo 1 (aS x.numbers)]
def ay.small (n : Nat) (x : ay) : Prop := (x.fields.length <= n /\ ∀ y ∈ x.fields, ad.small n y) /\ (x.numbers.length <= n)
def ay.tz : List TV := [.int .i64 0, .int .i64 0, .nils, .nils]
theorem ay.fin (B K : Nat) (objs : aH) (x : ay) : iM B objs K (x.tw B) (x.tw K) := .cons (.flat rfl) (.cons (.flat rfl) (.cons (cj (fun x => ad.fin B K objs x) _) (.cons (cj (fun x => .cons (.flat rfl) .nil) _) (.nil))))
theorem ay.len (lo : Nat) (l : List ay) : (l.map (ay.tw lo)).length = l.length := by simp
section
variable {G : World -> Prop}
theorem vg (hst : aB G) (lo : Nat) (x : ay) (left : Int) (h : 0 <= left /\ left <= 1048576) (hb : x.small 9223372036854775807) : CtM Tryz.prog G 175 [.agg (x.tw lo), .int .i64 left] [] (fun y : Int => -1 <= y /\ y <= left /\ (0 <= y -> x.small 1048576)) (fun _ => []) (fun y => .int .i64 y) := by
 refine aC Tryz.func175 rfl Tryz.ntmps175 rfl rfl rfl fun w0 R gs objsR hG hR => ?_
 obtain rfl := hR.inv0
 clear hR
 unfold ay.small at hb
 skip
 unfold ay.tw
 repeat' (first | refine W_ ?_ | refine aD ?_ | ((with_reducible apply aG); rfl; kernel_rfl; (repeat (first | exact aF.nil | ((with_reducible apply aF.cons); rfl))); exact hG; exact gr hst lo x.fields _ (by omega) hb.1; exact .nil _; intro y1 hy1; refine bD ?_) | ((with_reducible apply aG); rfl; kernel_rfl; (repeat (first | exact aF.nil | ((with_reducible apply aF.cons); rfl))); exact hG; exact tQ hst lo x.numbers _ (by omega) hb.2; exact .nil _; intro y2 hy2; refine bD ?_) | refine c_ (fun hc => ?_) (fun hc => ?_))
 all_goals first
   | exact av x_ rfl (-1) ⟨by omega, by omega, fun h => by omega⟩ rfl (.nil R) (.refl _) (.tmp _ _ rfl) rfl
   | (refine av x_ rfl _ ⟨?_, ?_, fun _ => ?_⟩ rfl (.nil R) (.refl _) (.tmp _ _ rfl) rfl
      ·omega
      ·omega
      ·exact ⟨hy1.2.2 (by omega), hy2.2.2 (by omega)⟩)
theorem uF (hst : aB G) (lo : Nat) (l : List ay) (left : Int) (h : 0 <= left /\ left <= 1048576) (hb : l.length <= 9223372036854775807 /\ ∀ y ∈ l, ay.small 9223372036854775807 y) : CtM Tryz.prog G 92 [.sl lo 4 (l.map (ay.tw lo)), .int .i64 left] [] (fun y : Int => -1 <= y /\ y <= left /\ (0 <= y -> l.length <= 1048576 /\ ∀ y ∈ l, ay.small 1048576 y)) (fun _ => []) (fun y => .int .i64 y) := by
 refine aC Tryz.func92 rfl Tryz.ntmps92 rfl rfl rfl fun w0 R gs objsR hG hR => ?_
 obtain rfl := hR.inv0
 clear hR
 have hlen := ay.len lo l
 have hl1 := hb.1
 by_cases hn : left - l.length < 0
 ·repeat' refine W_ ?_
  exact av x_ rfl (-1) ⟨by omega, by omega, fun h => by omega⟩ rfl (.nil R) (.refl _) (.tmp _ _ rfl) rfl
 ·repeat' refine W_ ?_
  apply ak (X := Nat × Int) [0, 1000000] (fun x => [(5, .int .i64 (x.1 : Int)), (1, .int .i64 x.2)]) (fun _ => R) (fun x => x.1 <= l.length /\ 0 <= x.2 /\ x.2 <= left /\ ∀ y ∈ l.take x.1, ay.small 1048576 y) (fun x => l.length - x.1) (0, left - l.length) ⟨Nat.zero_le _, by dsimp only; omega, by dsimp only; omega, by simp⟩
  exact kp_; exact nw_
  ·exact .refl _
  rintro ⟨i, lf⟩ ⟨hi, h0, h1, hs⟩
  dsimp only at hi h0 h1 hs |-
  by_cases hlt : i < l.length
  ·have hrow : (l.map (ay.tw lo))[i]? = some (l[i].tw lo) := aM hlt
   have hbi := hb.2 _ (List.getElem_mem hlt)
   have hta := aV (p := ay.small 1048576) hlt hs
   generalize l[i] = x at hrow hbi hta
   have hct := vg hst lo x lf (by omega) hbi
   unfold ay.tw at hct
   rw [show x.tw lo = [.int .i64 x.kind, .int .i64 x.class_, .sl lo 3 (x.fields.map (ad.tw lo)), .sl lo 1 (aS x.numbers)] from rfl] at hrow
   repeat' (first | refine W_ ?_ | ((with_reducible apply aG); rfl; kernel_rfl; (repeat (first | exact aF.nil | ((with_reducible apply aF.cons); rfl))); exact hG; exact hct; exact .nil _; intro y hy; refine bD ?_) | refine c_ (fun hc => ?_) (fun hc => ?_))
   all_goals first
     | exact av x_ rfl (-1) ⟨by omega, by omega, fun h => by omega⟩ rfl (.nil R) (.refl _) (.tmp _ _ rfl) rfl
     | exact ag (i + 1, y) ⟨by dsimp only; omega, by dsimp only; omega, by dsimp only; omega, hta (hy.2.2 (by omega))⟩ (by dsimp only; omega) (.of _ nw_ od_ pk_)
  ·rw [List.take_of_length_le (by omega)] at hs
   repeat' refine W_ ?_
   exact av x_ rfl lf ⟨by omega, by omega, fun _ => ⟨by omega, hs⟩⟩ rfl (.nil R) (.refl _) (.tmp _ _ rfl) rfl
theorem vk (hst : aB G) (l1 l2 : Nat) (x : ay) (hb : x.small 1048576) : Ct Tryz.prog G 209 [.agg (x.tw l1), .agg (x.tw l2)] (fun _ => .bool true) := by
 refine am Tryz.func209 rfl Tryz.ntmps209 rfl rfl fun w0 _ hG => ?_
 unfold ay.small at hb
 have hsfields := hb.1
 have hsnumbers := hb.2
 unfold ay.tw
 repeat' (first | refine W_ ?_ | refine aD ?_ | refine ab hG hst (gx hst l1 l2 x.fields hsfields) ?_ | refine ab hG hst (tF hst l1 l2 x.numbers hsnumbers) ?_)
 all_goals first
   | (exfalso; simp at hc; done)
   | (exact r1_)
theorem uq (hst : aB G) (l1 l2 : Nat) (l : List ay) (hb : l.length <= 1048576 /\ ∀ y ∈ l, ay.small 1048576 y) : Ct Tryz.prog G 127 [.sl l1 4 (l.map (ay.tw l1)), .sl l2 4 (l.map (ay.tw l2))] (fun _ => .bool true) := by
 refine am Tryz.func127 rfl Tryz.ntmps127 rfl rfl fun w0 _ hG => ?_
 have hlen := ay.len l1 l
 have hlen2 := ay.len l2 l
 have hl1 := hb.1
 repeat' refine W_ ?_
 apply ak (X := Nat) [0, 1] (fun i => [(5, .int .i64 (i : Int))]) (fun _ => []) (fun i => i <= l.length) (fun i => l.length - i) 0 (Nat.zero_le _)
 exact kp_; exact nw_
 ·exact .refl _
 intro i hi
 try dsimp only
 by_cases hlt : i < l.length
 ·have hr1 : (l.map (ay.tw l1))[i]? = some (l[i].tw l1) := aM hlt
  have hr2 : (l.map (ay.tw l2))[i]? = some (l[i].tw l2) := aM hlt
  have hbi := hb.2 _ (List.getElem_mem hlt)
  generalize l[i] = x at hr1 hr2 hbi
  have hct := vk hst l1 l2 x hbi
  unfold ay.tw at hct
  rw [show x.tw l1 = [.int .i64 x.kind, .int .i64 x.class_, .sl l1 3 (x.fields.map (ad.tw l1)), .sl l1 1 (aS x.numbers)] from rfl] at hr1
  rw [show x.tw l2 = [.int .i64 x.kind, .int .i64 x.class_, .sl l2 3 (x.fields.map (ad.tw l2)), .sl l2 1 (aS x.numbers)] from rfl] at hr2
  repeat' (first | refine V_ ?_ | refine ae hG hst (hct) ?_)
  exact ag (i + 1) (by omega) (by omega) (.of _ nw_ od_ pk_)
 ·repeat' refine W_ ?_
  exact r1_
end
def aJ.tw (lo : Nat) (x : aJ) : List TV := [.sl lo 3 (x.classes.map (aa.tw lo)), .sl lo 4 (x.objects.map (ay.tw lo)), .sl lo 1 (a8 x.output), .int .i64 x.ticks, .int .i64 x.budget, .int .i64 x.made]
def aJ.small (n : Nat) (x : aJ) : Prop := (x.classes.length <= n /\ ∀ y ∈ x.classes, aa.small n y) /\ (x.objects.length <= n /\ ∀ y ∈ x.objects, ay.small n y) /\ (x.output.length <= n /\ ∀ y ∈ x.output, ByteArray.size y <= n)
def aJ.tz : List TV := [.nils, .nils, .nils, .int .i64 0, .int .i64 0, .int .i64 0]
theorem aJ.fin (B K : Nat) (objs : aH) (x : aJ) : iM B objs K (x.tw B) (x.tw K) := .cons (cj (fun x => aa.fin B K objs x) _) (.cons (cj (fun x => ay.fin B K objs x) _) (.cons (cj (fun x => .cons (.flat rfl) .nil) _) (.cons (.flat rfl) (.cons (.flat rfl) (.cons (.flat rfl) (.nil))))))
theorem aJ.len (lo : Nat) (l : List aJ) : (l.map (aJ.tw lo)).length = l.length := by simp
section
variable {G : World -> Prop}
theorem yK (hst : aB G) (lo : Nat) (x : aJ) (left : Int) (h : 0 <= left /\ left <= 1048576) (hb : x.small 9223372036854775807) : CtM Tryz.prog G 29 [.agg (x.tw lo), .int .i64 left] [] (fun y : Int => -1 <= y /\ y <= left /\ (0 <= y -> x.small 1048576)) (fun _ => []) (fun y => .int .i64 y) := by
 refine aC Tryz.func29 rfl Tryz.ntmps29 rfl rfl rfl fun w0 R gs objsR hG hR => ?_
 obtain rfl := hR.inv0
 clear hR
 unfold aJ.small at hb
 skip
 unfold aJ.tw
 repeat' (first | refine W_ ?_ | refine aD ?_ | ((with_reducible apply aG); rfl; kernel_rfl; (repeat (first | exact aF.nil | ((with_reducible apply aF.cons); rfl))); exact hG; exact io hst lo x.classes _ (by omega) hb.1; exact .nil _; intro y1 hy1; refine bD ?_) | ((with_reducible apply aG); rfl; kernel_rfl; (repeat (first | exact aF.nil | ((with_reducible apply aF.cons); rfl))); exact hG; exact uF hst lo x.objects _ (by omega) hb.2.1; exact .nil _; intro y2 hy2; refine bD ?_) | ((with_reducible apply aG); rfl; kernel_rfl; (repeat (first | exact aF.nil | ((with_reducible apply aF.cons); rfl))); exact hG; exact lN lo x.output _ (by omega) hb.2.2; exact .nil _; intro y3 hy3; refine bD ?_) | refine c_ (fun hc => ?_) (fun hc => ?_))
 all_goals first
   | exact av x_ rfl (-1) ⟨by omega, by omega, fun h => by omega⟩ rfl (.nil R) (.refl _) (.tmp _ _ rfl) rfl
   | (refine av x_ rfl _ ⟨?_, ?_, fun _ => ?_⟩ rfl (.nil R) (.refl _) (.tmp _ _ rfl) rfl
      ·omega
      ·omega
      ·exact ⟨hy1.2.2 (by omega), hy2.2.2 (by omega), hy3.2.2 (by omega)⟩)
theorem yj (hst : aB G) (l1 l2 : Nat) (x : aJ) (hb : x.small 1048576) : Ct Tryz.prog G 45 [.agg (x.tw l1), .agg (x.tw l2)] (fun _ => .bool true) := by
 refine am Tryz.func45 rfl Tryz.ntmps45 rfl rfl fun w0 _ hG => ?_
 unfold aJ.small at hb
 have hsclasses := hb.1
 have hsobjects := hb.2.1
 have hsoutput := (hb.2.2).1
 unfold aJ.tw
 repeat' (first | refine W_ ?_ | refine aD ?_ | refine ab hG hst (ix hst l1 l2 x.classes hsclasses) ?_ | refine ab hG hst (uq hst l1 l2 x.objects hsobjects) ?_ | refine ab hG hst (im l1 l2 x.output hsoutput) ?_)
 all_goals first
   | (exfalso; simp at hc; done)
   | (exact r1_)
end
def aq.tw (lo : Nat) (x : aq) : List TV := [.int .i64 x.code, .int .i64 x.outer, .int .i64 x.home, .int .i64 x.self.kind, .int .i64 x.self.number, .str x.self.text]
def aq.small (n : Nat) (x : aq) : Prop := (ad.small n x.self)
def aq.tz : List TV := [.int .i64 0, .int .i64 0, .int .i64 0, .int .i64 0, .int .i64 0, .str ⟨#[]⟩]
theorem aq.fin (B K : Nat) (objs : aH) (x : aq) : iM B objs K (x.tw B) (x.tw K) := .cons (.flat rfl) (.cons (.flat rfl) (.cons (.flat rfl) (.cons (.flat rfl) (.cons (.flat rfl) (.cons (.flat rfl) (.nil))))))
theorem aq.len (lo : Nat) (l : List aq) : (l.map (aq.tw lo)).length = l.length := by simp
section
variable {G : World -> Prop}
theorem tg (hst : aB G) (lo : Nat) (x : aq) (left : Int) (h : 0 <= left /\ left <= 1048576) (hb : x.small 9223372036854775807) : CtM Tryz.prog G 94 [.agg (x.tw lo), .int .i64 left] [] (fun y : Int => -1 <= y /\ y <= left /\ (0 <= y -> x.small 1048576)) (fun _ => []) (fun y => .int .i64 y) := by
 refine aC Tryz.func94 rfl Tryz.ntmps94 rfl rfl rfl fun w0 R gs objsR hG hR => ?_
 obtain rfl := hR.inv0
 clear hR
 unfold aq.small at hb
 skip
 unfold aq.tw
 repeat' (first | refine W_ ?_ | refine aD ?_ | ((with_reducible apply aG); rfl; kernel_rfl; (repeat (first | exact aF.nil | ((with_reducible apply aF.cons); rfl))); exact hG; exact iT hst lo x.self _ (by omega) hb; exact .nil _; intro y1 hy1; refine bD ?_) | refine c_ (fun hc => ?_) (fun hc => ?_))
 all_goals first
   | exact av x_ rfl (-1) ⟨by omega, by omega, fun h => by omega⟩ rfl (.nil R) (.refl _) (.tmp _ _ rfl) rfl
   | (refine av x_ rfl _ ⟨?_, ?_, fun _ => ?_⟩ rfl (.nil R) (.refl _) (.tmp _ _ rfl) rfl
      ·omega
      ·omega
      ·exact hy1.2.2 (by omega))
theorem rk (hst : aB G) (lo : Nat) (l : List aq) (left : Int) (h : 0 <= left /\ left <= 1048576) (hb : l.length <= 9223372036854775807 /\ ∀ y ∈ l, aq.small 9223372036854775807 y) : CtM Tryz.prog G 30 [.sl lo 6 (l.map (aq.tw lo)), .int .i64 left] [] (fun y : Int => -1 <= y /\ y <= left /\ (0 <= y -> l.length <= 1048576 /\ ∀ y ∈ l, aq.small 1048576 y)) (fun _ => []) (fun y => .int .i64 y) := by
 refine aC Tryz.func30 rfl Tryz.ntmps30 rfl rfl rfl fun w0 R gs objsR hG hR => ?_
 obtain rfl := hR.inv0
 clear hR
 have hlen := aq.len lo l
 have hl1 := hb.1
 by_cases hn : left - l.length < 0
 ·repeat' refine W_ ?_
  exact av x_ rfl (-1) ⟨by omega, by omega, fun h => by omega⟩ rfl (.nil R) (.refl _) (.tmp _ _ rfl) rfl
 ·repeat' refine W_ ?_
  apply ak (X := Nat × Int) [0, 1000000] (fun x => [(5, .int .i64 (x.1 : Int)), (1, .int .i64 x.2)]) (fun _ => R) (fun x => x.1 <= l.length /\ 0 <= x.2 /\ x.2 <= left /\ ∀ y ∈ l.take x.1, aq.small 1048576 y) (fun x => l.length - x.1) (0, left - l.length) ⟨Nat.zero_le _, by dsimp only; omega, by dsimp only; omega, by simp⟩
  exact kp_; exact nw_
  ·exact .refl _
  rintro ⟨i, lf⟩ ⟨hi, h0, h1, hs⟩
  dsimp only at hi h0 h1 hs |-
  by_cases hlt : i < l.length
  ·have hrow : (l.map (aq.tw lo))[i]? = some (l[i].tw lo) := aM hlt
   have hbi := hb.2 _ (List.getElem_mem hlt)
   have hta := aV (p := aq.small 1048576) hlt hs
   generalize l[i] = x at hrow hbi hta
   have hct := tg hst lo x lf (by omega) hbi
   unfold aq.tw at hct
   rw [show x.tw lo = [.int .i64 x.code, .int .i64 x.outer, .int .i64 x.home, .int .i64 x.self.kind, .int .i64 x.self.number, .str x.self.text] from rfl] at hrow
   repeat' (first | refine W_ ?_ | ((with_reducible apply aG); rfl; kernel_rfl; (repeat (first | exact aF.nil | ((with_reducible apply aF.cons); rfl))); exact hG; exact hct; exact .nil _; intro y hy; refine bD ?_) | refine c_ (fun hc => ?_) (fun hc => ?_))
   all_goals first
     | exact av x_ rfl (-1) ⟨by omega, by omega, fun h => by omega⟩ rfl (.nil R) (.refl _) (.tmp _ _ rfl) rfl
     | exact ag (i + 1, y) ⟨by dsimp only; omega, by dsimp only; omega, by dsimp only; omega, hta (hy.2.2 (by omega))⟩ (by dsimp only; omega) (.of _ nw_ od_ pk_)
  ·rw [List.take_of_length_le (by omega)] at hs
   repeat' refine W_ ?_
   exact av x_ rfl lf ⟨by omega, by omega, fun _ => ⟨by omega, hs⟩⟩ rfl (.nil R) (.refl _) (.tmp _ _ rfl) rfl
theorem tP (hst : aB G) (lo : Nat) (x : aq) (hb : x.small 1048576) : Ct Tryz.prog G 113 [.agg (x.tw lo)] (fun K => .agg (x.tw K)) := by
 refine am Tryz.func113 rfl Tryz.ntmps113 rfl rfl fun w0 _ hG => ?_
 unfold aq.small at hb
 have hsself := hb
 repeat' (first | refine W_ ?_ | refine aD ?_ | (refine aj ?_; intro ss bb) | refine ac ?_ | refine ab hG hst (jh hst lo x.self (hsself)) ?_)
 refine aE x_ rfl (.cell _ _ _ _ _ rfl mm_ (by kernel_rfl) (by kernel_rfl) (by kernel_rfl)) (fun _ => ?_)
 exact gR (aq.fin _ _ _ x)
theorem uy (hst : aB G) (l1 l2 : Nat) (x : aq) (hb : x.small 1048576) : Ct Tryz.prog G 128 [.agg (x.tw l1), .agg (x.tw l2)] (fun _ => .bool true) := by
 refine am Tryz.func128 rfl Tryz.ntmps128 rfl rfl fun w0 _ hG => ?_
 unfold aq.small at hb
 have hsself := hb
 unfold aq.tw
 repeat' (first | refine W_ ?_ | refine aD ?_ | refine ab hG hst (jf hst l1 l2 x.self hsself) ?_)
 all_goals first
   | (exfalso; simp at hc; done)
   | (exact r1_)
theorem se (hst : aB G) (l1 l2 : Nat) (l : List aq) (hb : l.length <= 1048576 /\ ∀ y ∈ l, aq.small 1048576 y) : Ct Tryz.prog G 46 [.sl l1 6 (l.map (aq.tw l1)), .sl l2 6 (l.map (aq.tw l2))] (fun _ => .bool true) := by
 refine am Tryz.func46 rfl Tryz.ntmps46 rfl rfl fun w0 _ hG => ?_
 have hlen := aq.len l1 l
 have hlen2 := aq.len l2 l
 have hl1 := hb.1
 repeat' refine W_ ?_
 apply ak (X := Nat) [0, 1] (fun i => [(5, .int .i64 (i : Int))]) (fun _ => []) (fun i => i <= l.length) (fun i => l.length - i) 0 (Nat.zero_le _)
 exact kp_; exact nw_
 ·exact .refl _
 intro i hi
 try dsimp only
 by_cases hlt : i < l.length
 ·have hr1 : (l.map (aq.tw l1))[i]? = some (l[i].tw l1) := aM hlt
  have hr2 : (l.map (aq.tw l2))[i]? = some (l[i].tw l2) := aM hlt
  have hbi := hb.2 _ (List.getElem_mem hlt)
  generalize l[i] = x at hr1 hr2 hbi
  have hct := uy hst l1 l2 x hbi
  unfold aq.tw at hct
  rw [show x.tw l1 = [.int .i64 x.code, .int .i64 x.outer, .int .i64 x.home, .int .i64 x.self.kind, .int .i64 x.self.number, .str x.self.text] from rfl] at hr1
  rw [show x.tw l2 = [.int .i64 x.code, .int .i64 x.outer, .int .i64 x.home, .int .i64 x.self.kind, .int .i64 x.self.number, .str x.self.text] from rfl] at hr2
  repeat' (first | refine V_ ?_ | refine ae hG hst (hct) ?_)
  exact ag (i + 1) (by omega) (by omega) (.of _ nw_ od_ pk_)
 ·repeat' refine W_ ?_
  exact r1_
end
def ap.tw (lo : Nat) (x : ap) : List TV := [.int .i64 x.mark, .int .i64 x.code, .int .i64 x.pc, .int .i64 x.sender, .int .i64 x.outer, .int .i64 x.home, .int .i64 x.self.kind, .int .i64 x.self.number, .str x.self.text, .sl lo 3 (x.slots.map (ad.tw lo)), .sl lo 3 (x.stack.map (ad.tw lo)), .sl lo 3 (x.values.map (ad.tw lo)), .int .i64 x.other, .bool x.retry]
def ap.small (n : Nat) (x : ap) : Prop := (ad.small n x.self) /\ (x.slots.length <= n /\ ∀ y ∈ x.slots, ad.small n y) /\ (x.stack.length <= n /\ ∀ y ∈ x.stack, ad.small n y) /\ (x.values.length <= n /\ ∀ y ∈ x.values, ad.small n y)
def ap.tz : List TV := [.int .i64 0, .int .i64 0, .int .i64 0, .int .i64 0, .int .i64 0, .int .i64 0, .int .i64 0, .int .i64 0, .str ⟨#[]⟩, .nils, .nils, .nils, .int .i64 0, .bool false]
theorem ap.fin (B K : Nat) (objs : aH) (x : ap) : iM B objs K (x.tw B) (x.tw K) := .cons (.flat rfl) (.cons (.flat rfl) (.cons (.flat rfl) (.cons (.flat rfl) (.cons (.flat rfl) (.cons (.flat rfl) (.cons (.flat rfl) (.cons (.flat rfl) (.cons (.flat rfl) (.cons (cj (fun x => ad.fin B K objs x) _) (.cons (cj (fun x => ad.fin B K objs x) _) (.cons (cj (fun x => ad.fin B K objs x) _) (.cons (.flat rfl) (.cons (.flat rfl) (.nil))))))))))))))
theorem ap.len (lo : Nat) (l : List ap) : (l.map (ap.tw lo)).length = l.length := by simp
section
variable {G : World -> Prop}
theorem uG (hst : aB G) (lo : Nat) (x : ap) (left : Int) (h : 0 <= left /\ left <= 1048576) (hb : x.small 9223372036854775807) : CtM Tryz.prog G 95 [.agg (x.tw lo), .int .i64 left] [] (fun y : Int => -1 <= y /\ y <= left /\ (0 <= y -> x.small 1048576)) (fun _ => []) (fun y => .int .i64 y) := by
 refine aC Tryz.func95 rfl Tryz.ntmps95 rfl rfl rfl fun w0 R gs objsR hG hR => ?_
 obtain rfl := hR.inv0
 clear hR
 unfold ap.small at hb
 skip
 unfold ap.tw
 repeat' (first | refine W_ ?_ | refine aD ?_ | ((with_reducible apply aG); rfl; kernel_rfl; (repeat (first | exact aF.nil | ((with_reducible apply aF.cons); rfl))); exact hG; exact iT hst lo x.self _ (by omega) hb.1; exact .nil _; intro y1 hy1; refine bD ?_) | ((with_reducible apply aG); rfl; kernel_rfl; (repeat (first | exact aF.nil | ((with_reducible apply aF.cons); rfl))); exact hG; exact gr hst lo x.slots _ (by omega) hb.2.1; exact .nil _; intro y2 hy2; refine bD ?_) | ((with_reducible apply aG); rfl; kernel_rfl; (repeat (first | exact aF.nil | ((with_reducible apply aF.cons); rfl))); exact hG; exact gr hst lo x.stack _ (by omega) hb.2.2.1; exact .nil _; intro y3 hy3; refine bD ?_) | ((with_reducible apply aG); rfl; kernel_rfl; (repeat (first | exact aF.nil | ((with_reducible apply aF.cons); rfl))); exact hG; exact gr hst lo x.values _ (by omega) hb.2.2.2; exact .nil _; intro y4 hy4; refine bD ?_) | refine c_ (fun hc => ?_) (fun hc => ?_))
 all_goals first
   | exact av x_ rfl (-1) ⟨by omega, by omega, fun h => by omega⟩ rfl (.nil R) (.refl _) (.tmp _ _ rfl) rfl
   | (refine av x_ rfl _ ⟨?_, ?_, fun _ => ?_⟩ rfl (.nil R) (.refl _) (.tmp _ _ rfl) rfl
      ·omega
      ·omega
      ·exact ⟨hy1.2.2 (by omega), hy2.2.2 (by omega), hy3.2.2 (by omega), hy4.2.2 (by omega)⟩)
theorem rz (hst : aB G) (lo : Nat) (l : List ap) (left : Int) (h : 0 <= left /\ left <= 1048576) (hb : l.length <= 9223372036854775807 /\ ∀ y ∈ l, ap.small 9223372036854775807 y) : CtM Tryz.prog G 31 [.sl lo 14 (l.map (ap.tw lo)), .int .i64 left] [] (fun y : Int => -1 <= y /\ y <= left /\ (0 <= y -> l.length <= 1048576 /\ ∀ y ∈ l, ap.small 1048576 y)) (fun _ => []) (fun y => .int .i64 y) := by
 refine aC Tryz.func31 rfl Tryz.ntmps31 rfl rfl rfl fun w0 R gs objsR hG hR => ?_
 obtain rfl := hR.inv0
 clear hR
 have hlen := ap.len lo l
 have hl1 := hb.1
 by_cases hn : left - l.length < 0
 ·repeat' refine W_ ?_
  exact av x_ rfl (-1) ⟨by omega, by omega, fun h => by omega⟩ rfl (.nil R) (.refl _) (.tmp _ _ rfl) rfl
 ·repeat' refine W_ ?_
  apply ak (X := Nat × Int) [0, 1000000] (fun x => [(5, .int .i64 (x.1 : Int)), (1, .int .i64 x.2)]) (fun _ => R) (fun x => x.1 <= l.length /\ 0 <= x.2 /\ x.2 <= left /\ ∀ y ∈ l.take x.1, ap.small 1048576 y) (fun x => l.length - x.1) (0, left - l.length) ⟨Nat.zero_le _, by dsimp only; omega, by dsimp only; omega, by simp⟩
  exact kp_; exact nw_
  ·exact .refl _
  rintro ⟨i, lf⟩ ⟨hi, h0, h1, hs⟩
  dsimp only at hi h0 h1 hs |-
  by_cases hlt : i < l.length
  ·have hrow : (l.map (ap.tw lo))[i]? = some (l[i].tw lo) := aM hlt
   have hbi := hb.2 _ (List.getElem_mem hlt)
   have hta := aV (p := ap.small 1048576) hlt hs
   generalize l[i] = x at hrow hbi hta
   have hct := uG hst lo x lf (by omega) hbi
   unfold ap.tw at hct
   rw [show x.tw lo = [.int .i64 x.mark, .int .i64 x.code, .int .i64 x.pc, .int .i64 x.sender, .int .i64 x.outer, .int .i64 x.home, .int .i64 x.self.kind, .int .i64 x.self.number, .str x.self.text, .sl lo 3 (x.slots.map (ad.tw lo)), .sl lo 3 (x.stack.map (ad.tw lo)), .sl lo 3 (x.values.map (ad.tw lo)), .int .i64 x.other, .bool x.retry] from rfl] at hrow
   repeat' (first | refine W_ ?_ | ((with_reducible apply aG); rfl; kernel_rfl; (repeat (first | exact aF.nil | ((with_reducible apply aF.cons); rfl))); exact hG; exact hct; exact .nil _; intro y hy; refine bD ?_) | refine c_ (fun hc => ?_) (fun hc => ?_))
   all_goals first
     | exact av x_ rfl (-1) ⟨by omega, by omega, fun h => by omega⟩ rfl (.nil R) (.refl _) (.tmp _ _ rfl) rfl
     | exact ag (i + 1, y) ⟨by dsimp only; omega, by dsimp only; omega, by dsimp only; omega, hta (hy.2.2 (by omega))⟩ (by dsimp only; omega) (.of _ nw_ od_ pk_)
  ·rw [List.take_of_length_le (by omega)] at hs
   repeat' refine W_ ?_
   exact av x_ rfl lf ⟨by omega, by omega, fun _ => ⟨by omega, hs⟩⟩ rfl (.nil R) (.refl _) (.tmp _ _ rfl) rfl
theorem tK (hst : aB G) (l1 l2 : Nat) (x : ap) (hb : x.small 1048576) : Ct Tryz.prog G 129 [.agg (x.tw l1), .agg (x.tw l2)] (fun _ => .bool true) := by
 refine am Tryz.func129 rfl Tryz.ntmps129 rfl rfl fun w0 _ hG => ?_
 unfold ap.small at hb
 have hsself := hb.1
 have hsslots := hb.2.1
 have hsstack := hb.2.2.1
 have hsvalues := hb.2.2.2
 unfold ap.tw
 repeat' (first | refine W_ ?_ | refine aD ?_ | refine ab hG hst (jf hst l1 l2 x.self hsself) ?_ | refine ab hG hst (gx hst l1 l2 x.slots hsslots) ?_ | refine ab hG hst (gx hst l1 l2 x.stack hsstack) ?_ | refine ab hG hst (gx hst l1 l2 x.values hsvalues) ?_ | refine c_ (fun hc => ?_) (fun hc => ?_))
 all_goals first
   | (exfalso; simp at hc; done)
   | (exact r1_)
theorem rS (hst : aB G) (l1 l2 : Nat) (l : List ap) (hb : l.length <= 1048576 /\ ∀ y ∈ l, ap.small 1048576 y) : Ct Tryz.prog G 47 [.sl l1 14 (l.map (ap.tw l1)), .sl l2 14 (l.map (ap.tw l2))] (fun _ => .bool true) := by
 refine am Tryz.func47 rfl Tryz.ntmps47 rfl rfl fun w0 _ hG => ?_
 have hlen := ap.len l1 l
 have hlen2 := ap.len l2 l
 have hl1 := hb.1
 repeat' refine W_ ?_
 apply ak (X := Nat) [0, 1] (fun i => [(5, .int .i64 (i : Int))]) (fun _ => []) (fun i => i <= l.length) (fun i => l.length - i) 0 (Nat.zero_le _)
 exact kp_; exact nw_
 ·exact .refl _
 intro i hi
 try dsimp only
 by_cases hlt : i < l.length
 ·have hr1 : (l.map (ap.tw l1))[i]? = some (l[i].tw l1) := aM hlt
  have hr2 : (l.map (ap.tw l2))[i]? = some (l[i].tw l2) := aM hlt
  have hbi := hb.2 _ (List.getElem_mem hlt)
  generalize l[i] = x at hr1 hr2 hbi
  have hct := tK hst l1 l2 x hbi
  unfold ap.tw at hct
  rw [show x.tw l1 = [.int .i64 x.mark, .int .i64 x.code, .int .i64 x.pc, .int .i64 x.sender, .int .i64 x.outer, .int .i64 x.home, .int .i64 x.self.kind, .int .i64 x.self.number, .str x.self.text, .sl l1 3 (x.slots.map (ad.tw l1)), .sl l1 3 (x.stack.map (ad.tw l1)), .sl l1 3 (x.values.map (ad.tw l1)), .int .i64 x.other, .bool x.retry] from rfl] at hr1
  rw [show x.tw l2 = [.int .i64 x.mark, .int .i64 x.code, .int .i64 x.pc, .int .i64 x.sender, .int .i64 x.outer, .int .i64 x.home, .int .i64 x.self.kind, .int .i64 x.self.number, .str x.self.text, .sl l2 3 (x.slots.map (ad.tw l2)), .sl l2 3 (x.stack.map (ad.tw l2)), .sl l2 3 (x.values.map (ad.tw l2)), .int .i64 x.other, .bool x.retry] from rfl] at hr2
  repeat' (first | refine V_ ?_ | refine ae hG hst (hct) ?_)
  exact ag (i + 1) (by omega) (by omega) (.of _ nw_ od_ pk_)
 ·repeat' refine W_ ?_
  exact r1_
end
def au.tw (lo : Nat) (x : au) : List TV := [.int .i64 x.at_, .bool x.main]
def au.small (n : Nat) (x : au) : Prop := True
def au.tz : List TV := [.int .i64 0, .bool false]
theorem au.fin (B K : Nat) (objs : aH) (x : au) : iM B objs K (x.tw B) (x.tw K) := .cons (.flat rfl) (.cons (.flat rfl) (.nil))
theorem au.len (lo : Nat) (l : List au) : (l.map (au.tw lo)).length = l.length := by simp
section
variable {G : World -> Prop}
theorem rI (_ : aB G) (lo : Nat) (l : List au) (left : Int) (h : 0 <= left /\ left <= 1048576) (hb : l.length <= 9223372036854775807 /\ ∀ y ∈ l, au.small 9223372036854775807 y) : CtM Tryz.prog G 32 [.sl lo 2 (l.map (au.tw lo)), .int .i64 left] [] (fun y : Int => -1 <= y /\ y <= left /\ (0 <= y -> l.length <= 1048576 /\ ∀ y ∈ l, au.small 1048576 y)) (fun _ => []) (fun y => .int .i64 y) := by
 refine aC Tryz.func32 rfl Tryz.ntmps32 rfl rfl rfl fun w0 R gs objsR hG hR => ?_
 obtain rfl := hR.inv0
 clear hR
 have hlen := au.len lo l
 have hl1 := hb.1
 by_cases hn : left - l.length < 0
 ·repeat' refine W_ ?_
  exact av x_ rfl (-1) ⟨by omega, by omega, fun h => by omega⟩ rfl (.nil R) (.refl _) (.tmp _ _ rfl) rfl
 ·repeat' refine W_ ?_
  exact av x_ rfl (left - l.length) ⟨by omega, by omega, fun _ => ⟨by omega, fun _ _ => trivial⟩⟩ rfl (.nil R) (.refl _) (.tmp _ _ rfl) rfl
theorem sG (hst : aB G) (lo : Nat) (x : au) (hb : x.small 1048576) : Ct Tryz.prog G 115 [.agg (x.tw lo)] (fun K => .agg (x.tw K)) := by
 refine am Tryz.func115 rfl Tryz.ntmps115 rfl rfl fun w0 _ hG => ?_
 unfold au.small at hb
 skip
 repeat' (first | refine W_ ?_ | refine aD ?_ | (refine aj ?_; intro ss bb) | refine ac ?_)
 refine aE x_ rfl (.cell _ _ _ _ _ rfl mm_ (by kernel_rfl) (by kernel_rfl) (by kernel_rfl)) (fun _ => ?_)
 exact gR (au.fin _ _ _ x)
theorem ur (hst : aB G) (l1 l2 : Nat) (x : au) (hb : x.small 1048576) : Ct Tryz.prog G 130 [.agg (x.tw l1), .agg (x.tw l2)] (fun _ => .bool true) := by
 refine am Tryz.func130 rfl Tryz.ntmps130 rfl rfl fun w0 _ hG => ?_
 unfold au.small at hb
 skip
 unfold au.tw
 repeat' (first | refine W_ ?_ | refine aD ?_ | refine c_ (fun hc => ?_) (fun hc => ?_))
 all_goals first
   | (exfalso; simp at hc; done)
   | (exact r1_)
theorem rh (hst : aB G) (l1 l2 : Nat) (l : List au) (hb : l.length <= 1048576 /\ ∀ y ∈ l, au.small 1048576 y) : Ct Tryz.prog G 48 [.sl l1 2 (l.map (au.tw l1)), .sl l2 2 (l.map (au.tw l2))] (fun _ => .bool true) := by
 refine am Tryz.func48 rfl Tryz.ntmps48 rfl rfl fun w0 _ hG => ?_
 have hlen := au.len l1 l
 have hlen2 := au.len l2 l
 have hl1 := hb.1
 repeat' refine W_ ?_
 apply ak (X := Nat) [0, 1] (fun i => [(5, .int .i64 (i : Int))]) (fun _ => []) (fun i => i <= l.length) (fun i => l.length - i) 0 (Nat.zero_le _)
 exact kp_; exact nw_
 ·exact .refl _
 intro i hi
 try dsimp only
 by_cases hlt : i < l.length
 ·have hr1 : (l.map (au.tw l1))[i]? = some (l[i].tw l1) := aM hlt
  have hr2 : (l.map (au.tw l2))[i]? = some (l[i].tw l2) := aM hlt
  have hbi := hb.2 _ (List.getElem_mem hlt)
  generalize l[i] = x at hr1 hr2 hbi
  have hct := ur hst l1 l2 x hbi
  unfold au.tw at hct
  rw [show x.tw l1 = [.int .i64 x.at_, .bool x.main] from rfl] at hr1
  rw [show x.tw l2 = [.int .i64 x.at_, .bool x.main] from rfl] at hr2
  repeat' (first | refine V_ ?_ | refine ae hG hst (hct) ?_)
  exact ag (i + 1) (by omega) (by omega) (.of _ nw_ od_ pk_)
 ·repeat' refine W_ ?_
  exact r1_
end
def ai.tw (lo : Nat) (x : ai) : List TV := [.sl lo 3 (x.base.classes.map (aa.tw lo)), .sl lo 4 (x.base.codes.map (aA.tw lo)), .sl lo 4 (x.base.entries.map (az.tw lo)), .int .i64 x.base.main, .sl lo 3 (x.store.classes.map (aa.tw lo)), .sl lo 4 (x.store.objects.map (ay.tw lo)), .sl lo 1 (a8 x.store.output), .int .i64 x.store.ticks, .int .i64 x.store.budget, .int .i64 x.store.made, .sl lo 6 (x.blocks.map (aq.tw lo)), .sl lo 14 (x.contexts.map (ap.tw lo)), .sl lo 2 (x.processes.map (au.tw lo)), .sl lo 1 (aS x.ready), .int .i64 x.now, .int .i64 x.status, .int .i64 x.value.kind, .int .i64 x.value.number, .str x.value.text, .str x.fault]
def ai.small (n : Nat) (x : ai) : Prop := (aw.small n x.base) /\ (aJ.small n x.store) /\ (x.blocks.length <= n /\ ∀ y ∈ x.blocks, aq.small n y) /\ (x.contexts.length <= n /\ ∀ y ∈ x.contexts, ap.small n y) /\ (x.processes.length <= n /\ ∀ y ∈ x.processes, au.small n y) /\ (x.ready.length <= n) /\ (ad.small n x.value) /\ (x.fault.size <= n)
def ai.tz : List TV := [.nils, .nils, .nils, .int .i64 0, .nils, .nils, .nils, .int .i64 0, .int .i64 0, .int .i64 0, .nils, .nils, .nils, .nils, .int .i64 0, .int .i64 0, .int .i64 0, .int .i64 0, .str ⟨#[]⟩, .str ⟨#[]⟩]
theorem ai.fin (B K : Nat) (objs : aH) (x : ai) : iM B objs K (x.tw B) (x.tw K) := .cons (cj (fun x => aa.fin B K objs x) _) (.cons (cj (fun x => aA.fin B K objs x) _) (.cons (cj (fun x => az.fin B K objs x) _) (.cons (.flat rfl) (.cons (cj (fun x => aa.fin B K objs x) _) (.cons (cj (fun x => ay.fin B K objs x) _) (.cons (cj (fun x => .cons (.flat rfl) .nil) _) (.cons (.flat rfl) (.cons (.flat rfl) (.cons (.flat rfl) (.cons (cj (fun x => aq.fin B K objs x) _) (.cons (cj (fun x => ap.fin B K objs x) _) (.cons (cj (fun x => au.fin B K objs x) _) (.cons (cj (fun x => .cons (.flat rfl) .nil) _) (.cons (.flat rfl) (.cons (.flat rfl) (.cons (.flat rfl) (.cons (.flat rfl) (.cons (.flat rfl) (.cons (.flat rfl) (.nil))))))))))))))))))))
theorem ai.len (lo : Nat) (l : List ai) : (l.map (ai.tw lo)).length = l.length := by simp
section
variable {G : World -> Prop}
theorem qn (hst : aB G) (lo : Nat) (x : ai) (left : Int) (h : 0 <= left /\ left <= 1048576) (hb : x.small 9223372036854775807) : CtM Tryz.prog G 7 [.agg (x.tw lo), .int .i64 left] [] (fun y : Int => -1 <= y /\ y <= left /\ (0 <= y -> x.small 1048576)) (fun _ => []) (fun y => .int .i64 y) := by
 refine aC Tryz.func7 rfl Tryz.ntmps7 rfl rfl rfl fun w0 R gs objsR hG hR => ?_
 obtain rfl := hR.inv0
 clear hR
 unfold ai.small at hb
 have hb8 : x.fault.size <= 9223372036854775807 := hb.2.2.2.2.2.2.2
 unfold ai.tw
 repeat' (first | refine W_ ?_ | refine aD ?_ | ((with_reducible apply aG); rfl; kernel_rfl; (repeat (first | exact aF.nil | ((with_reducible apply aF.cons); rfl))); exact hG; exact sb hst lo x.base _ (by omega) hb.1; exact .nil _; intro y1 hy1; refine bD ?_) | ((with_reducible apply aG); rfl; kernel_rfl; (repeat (first | exact aF.nil | ((with_reducible apply aF.cons); rfl))); exact hG; exact yK hst lo x.store _ (by omega) hb.2.1; exact .nil _; intro y2 hy2; refine bD ?_) | ((with_reducible apply aG); rfl; kernel_rfl; (repeat (first | exact aF.nil | ((with_reducible apply aF.cons); rfl))); exact hG; exact rk hst lo x.blocks _ (by omega) hb.2.2.1; exact .nil _; intro y3 hy3; refine bD ?_) | ((with_reducible apply aG); rfl; kernel_rfl; (repeat (first | exact aF.nil | ((with_reducible apply aF.cons); rfl))); exact hG; exact rz hst lo x.contexts _ (by omega) hb.2.2.2.1; exact .nil _; intro y4 hy4; refine bD ?_) | ((with_reducible apply aG); rfl; kernel_rfl; (repeat (first | exact aF.nil | ((with_reducible apply aF.cons); rfl))); exact hG; exact rI hst lo x.processes _ (by omega) hb.2.2.2.2.1; exact .nil _; intro y5 hy5; refine bD ?_) | ((with_reducible apply aG); rfl; kernel_rfl; (repeat (first | exact aF.nil | ((with_reducible apply aF.cons); rfl))); exact hG; exact tQ hst lo x.ready _ (by omega) hb.2.2.2.2.2.1; exact .nil _; intro y6 hy6; refine bD ?_) | ((with_reducible apply aG); rfl; kernel_rfl; (repeat (first | exact aF.nil | ((with_reducible apply aF.cons); rfl))); exact hG; exact iT hst lo x.value _ (by omega) hb.2.2.2.2.2.2.1; exact .nil _; intro y7 hy7; refine bD ?_) | refine c_ (fun hc => ?_) (fun hc => ?_))
 all_goals first
   | exact av x_ rfl (-1) ⟨by omega, by omega, fun h => by omega⟩ rfl (.nil R) (.refl _) (.tmp _ _ rfl) rfl
   | (refine av x_ rfl _ ⟨?_, ?_, fun _ => ?_⟩ rfl (.nil R) (.refl _) (.tmp _ _ rfl) rfl
      ·omega
      ·omega
      ·exact ⟨hy1.2.2 (by omega), hy2.2.2 (by omega), hy3.2.2 (by omega), hy4.2.2 (by omega), hy5.2.2 (by omega), hy6.2.2 (by omega), hy7.2.2 (by omega), by omega⟩)
theorem pT (hst : aB G) (l1 l2 : Nat) (x : ai) (hb : x.small 1048576) : Ct Tryz.prog G 12 [.agg (x.tw l1), .agg (x.tw l2)] (fun _ => .bool true) := by
 refine am Tryz.func12 rfl Tryz.ntmps12 rfl rfl fun w0 _ hG => ?_
 unfold ai.small at hb
 have hsbase := hb.1
 have hsstore := hb.2.1
 have hsblocks := hb.2.2.1
 have hscontexts := hb.2.2.2.1
 have hsprocesses := hb.2.2.2.2.1
 have hsready := hb.2.2.2.2.2.1
 have hsvalue := hb.2.2.2.2.2.2.1
 have hnefault : ¬ x.fault ≠ x.fault := fun h => h rfl
 unfold ai.tw
 repeat' (first | refine W_ ?_ | refine aD ?_ | refine ab hG hst (rA hst l1 l2 x.base hsbase) ?_ | refine ab hG hst (yj hst l1 l2 x.store hsstore) ?_ | refine ab hG hst (se hst l1 l2 x.blocks hsblocks) ?_ | refine ab hG hst (rS hst l1 l2 x.contexts hscontexts) ?_ | refine ab hG hst (rh hst l1 l2 x.processes hsprocesses) ?_ | refine ab hG hst (tF hst l1 l2 x.ready hsready) ?_ | refine ab hG hst (jf hst l1 l2 x.value hsvalue) ?_)
 all_goals first
   | (exfalso; simp at hc; done)
   | (exact r1_)
end
end Go.Proofs.YtofnnnpahglfdaaGreatDoor
