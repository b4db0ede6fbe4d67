/- Part 12 of the proof: the texts LwT, IvA, NeA, MkN, MkC, CpA, CpB, CpC, CpD, MkV. -/
import Derived.Test.YtigipcbnfeoliaaGreatDoorRf7
import Derived.Test.YtigipcbnfeoliaaGreatDoorRf9
import Derived.Test.YtigipcbnfeoliaaGreatDoorRf3
import Derived.Test.YtigipcbnfeoliaaGreatDoorRf2
import Derived.Test.YtigipcbnfeoliaaGreatDoorRf10
set_option linter.all false
set_option maxHeartbeats 2000000
set_option maxRecDepth 20000
namespace Go.Proofs.YtigipcbnfeoliaaGreatDoor
open Go Go.RowKit
theorem aX {α : Type} {p : α -> Prop} {l : List α} {i : Nat} (h : i < l.length) (ha : ∀ y ∈ l.take i, p y) (hx : p l[i]) : ∀ y ∈ l.take (i + 1), p y := fun y hy => by
 rw [List.take_add_one, List.getElem?_eq_getElem h] at hy
 rcases List.mem_append.1 hy with hy | hy
 ·exact ha y hy
 ·simp at hy; subst hy; exact hx
def gC {α : Type} (tw : α -> List TV) (z : List TV) (l : List α) (i : Nat) : List (List TV) := (l.take i).map tw ++ List.replicate (l.length - i) z
theorem eQ {α : Type} (tw : α -> List TV) (z : List TV) (l : List α) : List.replicate l.length z = gC tw z l 0 := by simp [gC]
theorem eH {α : Type} (tw : α -> List TV) (z : List TV) (l : List α) : gC tw z l l.length = l.map tw := by simp [gC]
theorem fK {α : Type} (tw : α -> List TV) (z : List TV) {l : List α} {i : Nat} (h : i < l.length) : (gC tw z l i)[i]? = some z /\ (gC tw z l i).set i (tw l[i]) = gC tw z l (i + 1) := by
 have e : l.length - i = (l.length - (i + 1)) + 1 := by omega
 have hl : ((l.take i).map tw).length = i := by simp; omega
 unfold gC
 refine ⟨?_, ?_⟩
 ·rw [List.getElem?_append_right (by omega), hl, Nat.sub_self, e, List.replicate_succ]; rfl
 ·rw [List.set_append_right _ _ (by omega), hl, Nat.sub_self, e, List.replicate_succ, List.set_cons_zero, show l.take (i + 1) = l.take i ++ [l[i]] from by rw [List.take_add_one, List.getElem?_eq_getElem h]; rfl, List.map_append, List.append_assoc]
  rfl
def kX (B : Nat) (objs : aF) (K : Nat) (l l' : List TV) : Prop := l'.length = l.length /\ ∀ (j : Nat) (t t' : TV), l[j]? = some t -> l'[j]? = some t' -> Fin B objs K t t'
theorem kX.nil {B : Nat} {objs : aF} {K : Nat} : kX B objs K [] [] := ⟨rfl, by simp⟩
theorem kX.cons {B : Nat} {objs : aF} {K : Nat} {t t' : TV} {l l' : List TV} (h : Fin B objs K t t') (hr : kX B objs K l l') : kX B objs K (t :: l) (t' :: l') := ⟨by simp [hr.1], fun j u u' h1 h2 => by
 cases j with
 | zero => simp at h1 h2; subst h1; subst h2; exact h
 | succ j => exact hr.2 j u u' (by simpa using h1) (by simpa using h2)⟩
theorem kX.append {B : Nat} {objs : aF} {K : Nat} {a a' b b' : List TV} (h : kX B objs K a a') (k : kX B objs K b b') : kX B objs K (a ++ b) (a' ++ b') := ⟨by simp [h.1, k.1], fun j u u' h1 h2 => by
 by_cases hj : j < a.length
 ·rw [List.getElem?_append_left hj] at h1
  rw [List.getElem?_append_left (by rw [h.1]; exact hj)] at h2
  exact h.2 j u u' h1 h2
 ·rw [List.getElem?_append_right (by omega)] at h1
  rw [List.getElem?_append_right (by rw [h.1]; omega)] at h2
  rw [h.1] at h2
  exact k.2 _ u u' h1 h2⟩
theorem kX.rows {α : Type} {B : Nat} {objs : aF} {K : Nat} {f f' : α -> List TV} (h : ∀ x, kX B objs K (f x) (f' x)) : ∀ l : List α, kX B objs K (l.map f).flatten (l.map f').flatten
 | [] => .nil
 | x :: r => by simpa using (h x).append (kX.rows h r)
theorem kX.lens {α : Type} {f f' : α -> List TV} (h : ∀ x, (f' x).length = (f x).length) (l : List α) : (l.map f').map List.length = (l.map f).map List.length := by
 induction l with
 | nil => rfl
 | cons x r ih => simpa [h x] using ih
theorem oA {α : Type} {B : Nat} {objs : aF} {K m : Nat} {f f' : α -> List TV} (h : ∀ x, kX B objs K (f x) (f' x)) (l : List α) : Fin B objs K (.sl B m (l.map f)) (.sl K m (l.map f')) :=
 .sl B m _ _ (Nat.le_refl _) (kX.lens (fun x => (h x).1) l) (kX.rows h l).2
theorem aaG {α : Type} {B : Nat} {objs : aF} {K s b m : Nat} {f f' : α -> List TV} (h : ∀ x, kX B objs K (f x) (f' x)) {l : List α} (hm : (s, b, aZ.row m (l.map f)) ∈ objs) : Fin B objs K (.ms s b 0 l.length) (.sl K m (l.map f')) :=
 .ms s b 0 l.length m _ (l.map f) _ hm (by simp) (by rw [List.drop_zero, List.take_of_length_le (by simp)]) (kX.lens (fun x => (h x).1) l) (kX.rows h l).2
theorem lv {B : Nat} {objs : aF} {K : Nat} {l l' : List TV} (h : kX B objs K l l') : Fin B objs K (.agg l) (.agg l') := .agg l l' h.1 h.2
theorem eo {l : List ByteArray} {i : Nat} (h : i < l.length) : (bK l)[i]? = some [.str l[i]] := aI h
theorem bP (l : List ByteArray) : (bK l).length = l.length := by simp [bK]
section
variable {G : World -> Prop}
theorem lN (lo : Nat) (l : List ByteArray) (left : Int) (h : 0 <= left /\ left <= 1048576) (hb : l.length <= 9223372036854775807 /\ ∀ y ∈ l, ByteArray.size y <= 9223372036854775807) : CtM Tryz.prog G 97 [.sl lo 1 (bK l), .int .i64 left] [] (fun y : Int => -1 <= y /\ y <= left /\ (0 <= y -> l.length <= 1048576 /\ ∀ y ∈ l, ByteArray.size y <= 1048576)) (fun _ => []) (fun y => .int .i64 y) := by
 refine aw Tryz.func97 rfl Tryz.ntmps97 rfl rfl rfl fun w0 R gs objsR hG hR => ?_
 obtain rfl := hR.inv0
 clear hR
 have hlen := bP l
 have hl1 := hb.1
 by_cases hn : left - l.length < 0
 ·repeat' refine W_ ?_
  exact av x_ rfl (-1) ⟨by omega, by omega, fun h => by omega⟩ rfl (.nil R) (.refl _) (.tmp _ _ rfl) rfl
 ·repeat' refine W_ ?_
  apply am (X := Nat × Int) [0, 1000000] (fun x => [(5, .int .i64 (x.1 : Int)), (1, .int .i64 x.2)]) (fun _ => R) (fun x => x.1 <= l.length /\ 0 <= x.2 /\ x.2 <= left /\ ∀ y ∈ l.take x.1, ByteArray.size y <= 1048576) (fun x => l.length - x.1) (0, left - l.length) ⟨Nat.zero_le _, by dsimp only; omega, by dsimp only; omega, by simp⟩
  exact kp_; exact nw_
  ·exact .refl _
  rintro ⟨i, lf⟩ ⟨hi, h0, h1, hs⟩
  dsimp only at hi h0 h1 hs |-
  by_cases hlt : i < l.length
  ·have hrow := eo hlt
   have hbi := hb.2 _ (List.getElem_mem hlt)
   have hta := aX (p := fun y => ByteArray.size y <= 1048576) hlt hs
   generalize l[i] = x at hrow hbi hta
   repeat' (first | refine W_ ?_ | refine c_ (fun hc => ?_) (fun hc => ?_))
   all_goals first
     | exact av x_ rfl (-1) ⟨by omega, by omega, fun h => by omega⟩ rfl (.nil R) (.refl _) (.tmp _ _ rfl) rfl
     | exact ag (i + 1, lf - x.size) ⟨by dsimp only; omega, by dsimp only; omega, by dsimp only; omega, hta (by omega)⟩ (by dsimp only; omega) (.of _ nw_ od_ pk_)
  ·rw [List.take_of_length_le (by omega)] at hs
   repeat' refine W_ ?_
   exact av x_ rfl lf ⟨by omega, by omega, fun _ => ⟨by omega, hs⟩⟩ rfl (.nil R) (.refl _) (.tmp _ _ rfl) rfl
theorem qS (l1 l2 : Nat) (l : List ByteArray) (hn : l.length <= 1099600000000) : Ct Tryz.prog G 17 [.sl l1 1 (bK l), .sl l2 1 (bK l)] (fun _ => .bool true) := by
 refine aq Tryz.func17 rfl Tryz.ntmps17 rfl rfl fun w0 _ hG => ?_
 have hlen := bP l
 repeat' refine W_ ?_
 apply am (X := Nat) [0, 1] (fun i => [(5, .int .i64 (i : Int))]) (fun _ => []) (fun i => i <= l.length) (fun i => l.length - i) 0 (Nat.zero_le _)
 exact kp_; exact nw_
 ·exact .refl _
 intro i hi
 try dsimp only
 by_cases hlt : i < l.length
 ·have hrow := eo hlt
  generalize l[i] = x at hrow
  have hx : ¬ x ≠ x := fun h => h rfl
  repeat' refine V_ ?_
  exact ag (i + 1) (by omega) (by omega) (.of _ nw_ od_ pk_)
 ·repeat' refine W_ ?_
  exact r1_
theorem lJ (l1 l2 : Nat) (l : List ByteArray) (hn : l.length <= 1048576) : Ct Tryz.prog G 17 [.sl l1 1 (bK l), .sl l2 1 (bK l)] (fun _ => .bool true) := qS l1 l2 l (by omega)
end
def ai.tw (lo : Nat) (x : ai) : List TV := [.int .i64 x.op, .int .i64 x.a, .int .i64 x.b, .str x.text]
def ai.small (n : Nat) (x : ai) : Prop := (x.text.size <= n)
def ai.tz : List TV := [.int .i64 0, .int .i64 0, .int .i64 0, .str ⟨#[]⟩]
theorem ai.fin (B K : Nat) (objs : aF) (x : ai) : kX B objs K (x.tw B) (x.tw K) := .cons (.flat rfl) (.cons (.flat rfl) (.cons (.flat rfl) (.cons (.flat rfl) (.nil))))
theorem ai.len (lo : Nat) (l : List ai) : (l.map (ai.tw lo)).length = l.length := by simp
section
variable {G : World -> Prop}
theorem xY (hst : ay G) (lo : Nat) (x : ai) (left : Int) (h : 0 <= left /\ left <= 1048576) (hb : x.small 9223372036854775807) : CtM Tryz.prog G 294 [.agg (x.tw lo), .int .i64 left] [] (fun y : Int => -1 <= y /\ y <= left /\ (0 <= y -> x.small 1048576)) (fun _ => []) (fun y => .int .i64 y) := by
 refine aw Tryz.func294 rfl Tryz.ntmps294 rfl rfl rfl fun w0 R gs objsR hG hR => ?_
 obtain rfl := hR.inv0
 clear hR
 unfold ai.small at hb
 have hb1 : x.text.size <= 9223372036854775807 := hb
 unfold ai.tw
 repeat' (first | refine W_ ?_ | refine aH ?_ | refine c_ (fun hc => ?_) (fun hc => ?_))
 all_goals first
   | exact av x_ rfl (-1) ⟨by omega, by omega, fun h => by omega⟩ rfl (.nil R) (.refl _) (.tmp _ _ rfl) rfl
   | (refine av x_ rfl _ ⟨?_, ?_, fun _ => ?_⟩ rfl (.nil R) (.refl _) (.tmp _ _ rfl) rfl
      ·omega
      ·omega
      ·show _ <= _; omega)
theorem uu (hst : ay G) (lo : Nat) (l : List ai) (left : Int) (h : 0 <= left /\ left <= 1048576) (hb : l.length <= 9223372036854775807 /\ ∀ y ∈ l, ai.small 9223372036854775807 y) : CtM Tryz.prog G 246 [.sl lo 4 (l.map (ai.tw lo)), .int .i64 left] [] (fun y : Int => -1 <= y /\ y <= left /\ (0 <= y -> l.length <= 1048576 /\ ∀ y ∈ l, ai.small 1048576 y)) (fun _ => []) (fun y => .int .i64 y) := by
 refine aw Tryz.func246 rfl Tryz.ntmps246 rfl rfl rfl fun w0 R gs objsR hG hR => ?_
 obtain rfl := hR.inv0
 clear hR
 have hlen := ai.len lo l
 have hl1 := hb.1
 by_cases hn : left - l.length < 0
 ·repeat' refine W_ ?_
  exact av x_ rfl (-1) ⟨by omega, by omega, fun h => by omega⟩ rfl (.nil R) (.refl _) (.tmp _ _ rfl) rfl
 ·repeat' refine W_ ?_
  apply am (X := Nat × Int) [0, 1000000] (fun x => [(5, .int .i64 (x.1 : Int)), (1, .int .i64 x.2)]) (fun _ => R) (fun x => x.1 <= l.length /\ 0 <= x.2 /\ x.2 <= left /\ ∀ y ∈ l.take x.1, ai.small 1048576 y) (fun x => l.length - x.1) (0, left - l.length) ⟨Nat.zero_le _, by dsimp only; omega, by dsimp only; omega, by simp⟩
  exact kp_; exact nw_
  ·exact .refl _
  rintro ⟨i, lf⟩ ⟨hi, h0, h1, hs⟩
  dsimp only at hi h0 h1 hs |-
  by_cases hlt : i < l.length
  ·have hrow : (l.map (ai.tw lo))[i]? = some (l[i].tw lo) := aI hlt
   have hbi := hb.2 _ (List.getElem_mem hlt)
   have hta := aX (p := ai.small 1048576) hlt hs
   generalize l[i] = x at hrow hbi hta
   have hct := xY hst lo x lf (by omega) hbi
   unfold ai.tw at hct
   rw [show x.tw lo = [.int .i64 x.op, .int .i64 x.a, .int .i64 x.b, .str x.text] from rfl] at hrow
   repeat' (first | refine W_ ?_ | ((with_reducible apply aG); rfl; kernel_rfl; (repeat (first | exact aE.nil | ((with_reducible apply aE.cons); rfl))); exact hG; exact hct; exact .nil _; intro y hy; refine bI ?_) | refine c_ (fun hc => ?_) (fun hc => ?_))
   all_goals first
     | exact av x_ rfl (-1) ⟨by omega, by omega, fun h => by omega⟩ rfl (.nil R) (.refl _) (.tmp _ _ rfl) rfl
     | exact ag (i + 1, y) ⟨by dsimp only; omega, by dsimp only; omega, by dsimp only; omega, hta (hy.2.2 (by omega))⟩ (by dsimp only; omega) (.of _ nw_ od_ pk_)
  ·rw [List.take_of_length_le (by omega)] at hs
   repeat' refine W_ ?_
   exact av x_ rfl lf ⟨by omega, by omega, fun _ => ⟨by omega, hs⟩⟩ rfl (.nil R) (.refl _) (.tmp _ _ rfl) rfl
theorem yG (hst : ay G) (lo : Nat) (x : ai) (hb : x.small 1048576) : Ct Tryz.prog G 303 [.agg (x.tw lo)] (fun K => .agg (x.tw K)) := by
 refine aq Tryz.func303 rfl Tryz.ntmps303 rfl rfl fun w0 _ hG => ?_
 unfold ai.small at hb
 skip
 repeat' (first | refine W_ ?_ | refine aH ?_ | (refine ak ?_; intro ss bb) | refine ac ?_)
 refine aK x_ rfl (.cell _ _ _ _ _ rfl mm_ (by kernel_rfl) (by kernel_rfl) (by kernel_rfl)) (fun _ => ?_)
 exact lv (ai.fin _ _ _ x)
theorem yv (hst : ay G) (l1 l2 : Nat) (x : ai) (hb : x.small 1048576) : Ct Tryz.prog G 304 [.agg (x.tw l1), .agg (x.tw l2)] (fun _ => .bool true) := by
 refine aq Tryz.func304 rfl Tryz.ntmps304 rfl rfl fun w0 _ hG => ?_
 unfold ai.small at hb
 have hnetext : ¬ x.text ≠ x.text := fun h => h rfl
 unfold ai.tw
 repeat' (first | refine W_ ?_ | refine aH ?_)
 all_goals first
   | (exfalso; simp at hc; done)
   | (exact r1_)
theorem uI (hst : ay G) (l1 l2 : Nat) (l : List ai) (hb : l.length <= 1048576 /\ ∀ y ∈ l, ai.small 1048576 y) : Ct Tryz.prog G 259 [.sl l1 4 (l.map (ai.tw l1)), .sl l2 4 (l.map (ai.tw l2))] (fun _ => .bool true) := by
 refine aq Tryz.func259 rfl Tryz.ntmps259 rfl rfl fun w0 _ hG => ?_
 have hlen := ai.len l1 l
 have hlen2 := ai.len l2 l
 have hl1 := hb.1
 repeat' refine W_ ?_
 apply am (X := Nat) [0, 1] (fun i => [(5, .int .i64 (i : Int))]) (fun _ => []) (fun i => i <= l.length) (fun i => l.length - i) 0 (Nat.zero_le _)
 exact kp_; exact nw_
 ·exact .refl _
 intro i hi
 try dsimp only
 by_cases hlt : i < l.length
 ·have hr1 : (l.map (ai.tw l1))[i]? = some (l[i].tw l1) := aI hlt
  have hr2 : (l.map (ai.tw l2))[i]? = some (l[i].tw l2) := aI hlt
  have hbi := hb.2 _ (List.getElem_mem hlt)
  generalize l[i] = x at hr1 hr2 hbi
  have hct := yv hst l1 l2 x hbi
  unfold ai.tw at hct
  rw [show x.tw l1 = [.int .i64 x.op, .int .i64 x.a, .int .i64 x.b, .str x.text] from rfl] at hr1
  rw [show x.tw l2 = [.int .i64 x.op, .int .i64 x.a, .int .i64 x.b, .str x.text] from rfl] at hr2
  repeat' (first | refine V_ ?_ | refine ae hG hst (hct) ?_)
  exact ag (i + 1) (by omega) (by omega) (.of _ nw_ od_ pk_)
 ·repeat' refine W_ ?_
  exact r1_
end
def aC.tw (lo : Nat) (x : aC) : List TV := [.bool x.block, .int .i64 x.params, .int .i64 x.slots, .sl lo 4 (x.instrs.map (ai.tw lo))]
def aC.small (n : Nat) (x : aC) : Prop := (x.instrs.length <= n /\ ∀ y ∈ x.instrs, ai.small n y)
def aC.tz : List TV := [.bool false, .int .i64 0, .int .i64 0, .nils]
theorem aC.len (lo : Nat) (l : List aC) : (l.map (aC.tw lo)).length = l.length := by simp
section
variable {G : World -> Prop}
theorem zq (hst : ay G) (lo : Nat) (x : aC) (left : Int) (h : 0 <= left /\ left <= 1048576) (hb : x.small 9223372036854775807) : CtM Tryz.prog G 184 [.agg (x.tw lo), .int .i64 left] [] (fun y : Int => -1 <= y /\ y <= left /\ (0 <= y -> x.small 1048576)) (fun _ => []) (fun y => .int .i64 y) := by
 refine aw Tryz.func184 rfl Tryz.ntmps184 rfl rfl rfl fun w0 R gs objsR hG hR => ?_
 obtain rfl := hR.inv0
 clear hR
 unfold aC.small at hb
 skip
 unfold aC.tw
 repeat' (first | refine W_ ?_ | refine aH ?_ | ((with_reducible apply aG); rfl; kernel_rfl; (repeat (first | exact aE.nil | ((with_reducible apply aE.cons); rfl))); exact hG; exact uu hst lo x.instrs _ (by omega) hb; exact .nil _; intro y1 hy1; refine bI ?_) | refine c_ (fun hc => ?_) (fun hc => ?_))
 all_goals first
   | exact av x_ rfl (-1) ⟨by omega, by omega, fun h => by omega⟩ rfl (.nil R) (.refl _) (.tmp _ _ rfl) rfl
   | (refine av x_ rfl _ ⟨?_, ?_, fun _ => ?_⟩ rfl (.nil R) (.refl _) (.tmp _ _ rfl) rfl
      ·omega
      ·omega
      ·exact hy1.2.2 (by omega))
theorem yx (hst : ay G) (lo : Nat) (l : List aC) (left : Int) (h : 0 <= left /\ left <= 1048576) (hb : l.length <= 9223372036854775807 /\ ∀ y ∈ l, aC.small 9223372036854775807 y) : CtM Tryz.prog G 94 [.sl lo 4 (l.map (aC.tw lo)), .int .i64 left] [] (fun y : Int => -1 <= y /\ y <= left /\ (0 <= y -> l.length <= 1048576 /\ ∀ y ∈ l, aC.small 1048576 y)) (fun _ => []) (fun y => .int .i64 y) := by
 refine aw Tryz.func94 rfl Tryz.ntmps94 rfl rfl rfl fun w0 R gs objsR hG hR => ?_
 obtain rfl := hR.inv0
 clear hR
 have hlen := aC.len lo l
 have hl1 := hb.1
 by_cases hn : left - l.length < 0
 ·repeat' refine W_ ?_
  exact av x_ rfl (-1) ⟨by omega, by omega, fun h => by omega⟩ rfl (.nil R) (.refl _) (.tmp _ _ rfl) rfl
 ·repeat' refine W_ ?_
  apply am (X := Nat × Int) [0, 1000000] (fun x => [(5, .int .i64 (x.1 : Int)), (1, .int .i64 x.2)]) (fun _ => R) (fun x => x.1 <= l.length /\ 0 <= x.2 /\ x.2 <= left /\ ∀ y ∈ l.take x.1, aC.small 1048576 y) (fun x => l.length - x.1) (0, left - l.length) ⟨Nat.zero_le _, by dsimp only; omega, by dsimp only; omega, by simp⟩
  exact kp_; exact nw_
  ·exact .refl _
  rintro ⟨i, lf⟩ ⟨hi, h0, h1, hs⟩
  dsimp only at hi h0 h1 hs |-
  by_cases hlt : i < l.length
  ·have hrow : (l.map (aC.tw lo))[i]? = some (l[i].tw lo) := aI hlt
   have hbi := hb.2 _ (List.getElem_mem hlt)
   have hta := aX (p := aC.small 1048576) hlt hs
   generalize l[i] = x at hrow hbi hta
   have hct := zq hst lo x lf (by omega) hbi
   unfold aC.tw at hct
   rw [show x.tw lo = [.bool x.block, .int .i64 x.params, .int .i64 x.slots, .sl lo 4 (x.instrs.map (ai.tw lo))] from rfl] at hrow
   repeat' (first | refine W_ ?_ | ((with_reducible apply aG); rfl; kernel_rfl; (repeat (first | exact aE.nil | ((with_reducible apply aE.cons); rfl))); exact hG; exact hct; exact .nil _; intro y hy; refine bI ?_) | refine c_ (fun hc => ?_) (fun hc => ?_))
   all_goals first
     | exact av x_ rfl (-1) ⟨by omega, by omega, fun h => by omega⟩ rfl (.nil R) (.refl _) (.tmp _ _ rfl) rfl
     | exact ag (i + 1, y) ⟨by dsimp only; omega, by dsimp only; omega, by dsimp only; omega, hta (hy.2.2 (by omega))⟩ (by dsimp only; omega) (.of _ nw_ od_ pk_)
  ·rw [List.take_of_length_le (by omega)] at hs
   repeat' refine W_ ?_
   exact av x_ rfl lf ⟨by omega, by omega, fun _ => ⟨by omega, hs⟩⟩ rfl (.nil R) (.refl _) (.tmp _ _ rfl) rfl
theorem aa2 (hst : ay G) (l1 l2 : Nat) (x : aC) (hb : x.small 1048576) : Ct Tryz.prog G 209 [.agg (x.tw l1), .agg (x.tw l2)] (fun _ => .bool true) := by
 refine aq Tryz.func209 rfl Tryz.ntmps209 rfl rfl fun w0 _ hG => ?_
 unfold aC.small at hb
 have hsinstrs := hb
 unfold aC.tw
 repeat' (first | refine W_ ?_ | refine aH ?_ | refine ad hG hst (uI hst l1 l2 x.instrs hsinstrs) ?_ | refine c_ (fun hc => ?_) (fun hc => ?_))
 all_goals first
   | (exfalso; simp at hc; done)
   | (exact r1_)
theorem yJ (hst : ay G) (l1 l2 : Nat) (l : List aC) (hb : l.length <= 1048576 /\ ∀ y ∈ l, aC.small 1048576 y) : Ct Tryz.prog G 129 [.sl l1 4 (l.map (aC.tw l1)), .sl l2 4 (l.map (aC.tw l2))] (fun _ => .bool true) := by
 refine aq Tryz.func129 rfl Tryz.ntmps129 rfl rfl fun w0 _ hG => ?_
 have hlen := aC.len l1 l
 have hlen2 := aC.len l2 l
 have hl1 := hb.1
 repeat' refine W_ ?_
 apply am (X := Nat) [0, 1] (fun i => [(5, .int .i64 (i : Int))]) (fun _ => []) (fun i => i <= l.length) (fun i => l.length - i) 0 (Nat.zero_le _)
 exact kp_; exact nw_
 ·exact .refl _
 intro i hi
 try dsimp only
 by_cases hlt : i < l.length
 ·have hr1 : (l.map (aC.tw l1))[i]? = some (l[i].tw l1) := aI hlt
  have hr2 : (l.map (aC.tw l2))[i]? = some (l[i].tw l2) := aI hlt
  have hbi := hb.2 _ (List.getElem_mem hlt)
  generalize l[i] = x at hr1 hr2 hbi
  have hct := aa2 hst l1 l2 x hbi
  unfold aC.tw at hct
  rw [show x.tw l1 = [.bool x.block, .int .i64 x.params, .int .i64 x.slots, .sl l1 4 (x.instrs.map (ai.tw l1))] from rfl] at hr1
  rw [show x.tw l2 = [.bool x.block, .int .i64 x.params, .int .i64 x.slots, .sl l2 4 (x.instrs.map (ai.tw l2))] from rfl] at hr2
  repeat' (first | refine V_ ?_ | refine ae hG hst (hct) ?_)
  exact ag (i + 1) (by omega) (by omega) (.of _ nw_ od_ pk_)
 ·repeat' refine W_ ?_
  exact r1_
end
def aB.tw (lo : Nat) (x : aB) : List TV := [.int .i64 x.owner, .bool x.class_, .str x.selector, .int .i64 x.code]
def aB.small (n : Nat) (x : aB) : Prop := (x.selector.size <= n)
def aB.tz : List TV := [.int .i64 0, .bool false, .str ⟨#[]⟩, .int .i64 0]
theorem aB.fin (B K : Nat) (objs : aF) (x : aB) : kX B objs K (x.tw B) (x.tw K) := .cons (.flat rfl) (.cons (.flat rfl) (.cons (.flat rfl) (.cons (.flat rfl) (.nil))))
theorem aB.len (lo : Nat) (l : List aB) : (l.map (aB.tw lo)).length = l.length := by simp
section
variable {G : World -> Prop}
theorem yH (hst : ay G) (lo : Nat) (x : aB) (left : Int) (h : 0 <= left /\ left <= 1048576) (hb : x.small 9223372036854775807) : CtM Tryz.prog G 185 [.agg (x.tw lo), .int .i64 left] [] (fun y : Int => -1 <= y /\ y <= left /\ (0 <= y -> x.small 1048576)) (fun _ => []) (fun y => .int .i64 y) := by
 refine aw Tryz.func185 rfl Tryz.ntmps185 rfl rfl rfl fun w0 R gs objsR hG hR => ?_
 obtain rfl := hR.inv0
 clear hR
 unfold aB.small at hb
 have hb1 : x.selector.size <= 9223372036854775807 := hb
 unfold aB.tw
 repeat' (first | refine W_ ?_ | refine aH ?_ | refine c_ (fun hc => ?_) (fun hc => ?_))
 all_goals first
   | exact av x_ rfl (-1) ⟨by omega, by omega, fun h => by omega⟩ rfl (.nil R) (.refl _) (.tmp _ _ rfl) rfl
   | (refine av x_ rfl _ ⟨?_, ?_, fun _ => ?_⟩ rfl (.nil R) (.refl _) (.tmp _ _ rfl) rfl
      ·omega
      ·omega
      ·show _ <= _; omega)
theorem vO (hst : ay G) (lo : Nat) (l : List aB) (left : Int) (h : 0 <= left /\ left <= 1048576) (hb : l.length <= 9223372036854775807 /\ ∀ y ∈ l, aB.small 9223372036854775807 y) : CtM Tryz.prog G 95 [.sl lo 4 (l.map (aB.tw lo)), .int .i64 left] [] (fun y : Int => -1 <= y /\ y <= left /\ (0 <= y -> l.length <= 1048576 /\ ∀ y ∈ l, aB.small 1048576 y)) (fun _ => []) (fun y => .int .i64 y) := by
 refine aw Tryz.func95 rfl Tryz.ntmps95 rfl rfl rfl fun w0 R gs objsR hG hR => ?_
 obtain rfl := hR.inv0
 clear hR
 have hlen := aB.len lo l
 have hl1 := hb.1
 by_cases hn : left - l.length < 0
 ·repeat' refine W_ ?_
  exact av x_ rfl (-1) ⟨by omega, by omega, fun h => by omega⟩ rfl (.nil R) (.refl _) (.tmp _ _ rfl) rfl
 ·repeat' refine W_ ?_
  apply am (X := Nat × Int) [0, 1000000] (fun x => [(5, .int .i64 (x.1 : Int)), (1, .int .i64 x.2)]) (fun _ => R) (fun x => x.1 <= l.length /\ 0 <= x.2 /\ x.2 <= left /\ ∀ y ∈ l.take x.1, aB.small 1048576 y) (fun x => l.length - x.1) (0, left - l.length) ⟨Nat.zero_le _, by dsimp only; omega, by dsimp only; omega, by simp⟩
  exact kp_; exact nw_
  ·exact .refl _
  rintro ⟨i, lf⟩ ⟨hi, h0, h1, hs⟩
  dsimp only at hi h0 h1 hs |-
  by_cases hlt : i < l.length
  ·have hrow : (l.map (aB.tw lo))[i]? = some (l[i].tw lo) := aI hlt
   have hbi := hb.2 _ (List.getElem_mem hlt)
   have hta := aX (p := aB.small 1048576) hlt hs
   generalize l[i] = x at hrow hbi hta
   have hct := yH hst lo x lf (by omega) hbi
   unfold aB.tw at hct
   rw [show x.tw lo = [.int .i64 x.owner, .bool x.class_, .str x.selector, .int .i64 x.code] from rfl] at hrow
   repeat' (first | refine W_ ?_ | ((with_reducible apply aG); rfl; kernel_rfl; (repeat (first | exact aE.nil | ((with_reducible apply aE.cons); rfl))); exact hG; exact hct; exact .nil _; intro y hy; refine bI ?_) | refine c_ (fun hc => ?_) (fun hc => ?_))
   all_goals first
     | exact av x_ rfl (-1) ⟨by omega, by omega, fun h => by omega⟩ rfl (.nil R) (.refl _) (.tmp _ _ rfl) rfl
     | exact ag (i + 1, y) ⟨by dsimp only; omega, by dsimp only; omega, by dsimp only; omega, hta (hy.2.2 (by omega))⟩ (by dsimp only; omega) (.of _ nw_ od_ pk_)
  ·rw [List.take_of_length_le (by omega)] at hs
   repeat' refine W_ ?_
   exact av x_ rfl lf ⟨by omega, by omega, fun _ => ⟨by omega, hs⟩⟩ rfl (.nil R) (.refl _) (.tmp _ _ rfl) rfl
theorem xA (hst : ay G) (lo : Nat) (x : aB) (hb : x.small 1048576) : Ct Tryz.prog G 204 [.agg (x.tw lo)] (fun K => .agg (x.tw K)) := by
 refine aq Tryz.func204 rfl Tryz.ntmps204 rfl rfl fun w0 _ hG => ?_
 unfold aB.small at hb
 skip
 repeat' (first | refine W_ ?_ | refine aH ?_ | (refine ak ?_; intro ss bb) | refine ac ?_)
 refine aK x_ rfl (.cell _ _ _ _ _ rfl mm_ (by kernel_rfl) (by kernel_rfl) (by kernel_rfl)) (fun _ => ?_)
 exact lv (aB.fin _ _ _ x)
theorem xC (hst : ay G) (l1 l2 : Nat) (x : aB) (hb : x.small 1048576) : Ct Tryz.prog G 210 [.agg (x.tw l1), .agg (x.tw l2)] (fun _ => .bool true) := by
 refine aq Tryz.func210 rfl Tryz.ntmps210 rfl rfl fun w0 _ hG => ?_
 unfold aB.small at hb
 have hneselector : ¬ x.selector ≠ x.selector := fun h => h rfl
 unfold aB.tw
 repeat' (first | refine W_ ?_ | refine aH ?_ | refine c_ (fun hc => ?_) (fun hc => ?_))
 all_goals first
   | (exfalso; simp at hc; done)
   | (exact r1_)
theorem vD (hst : ay G) (l1 l2 : Nat) (l : List aB) (hb : l.length <= 1048576 /\ ∀ y ∈ l, aB.small 1048576 y) : Ct Tryz.prog G 130 [.sl l1 4 (l.map (aB.tw l1)), .sl l2 4 (l.map (aB.tw l2))] (fun _ => .bool true) := by
 refine aq Tryz.func130 rfl Tryz.ntmps130 rfl rfl fun w0 _ hG => ?_
 have hlen := aB.len l1 l
 have hlen2 := aB.len l2 l
 have hl1 := hb.1
 repeat' refine W_ ?_
 apply am (X := Nat) [0, 1] (fun i => [(5, .int .i64 (i : Int))]) (fun _ => []) (fun i => i <= l.length) (fun i => l.length - i) 0 (Nat.zero_le _)
 exact kp_; exact nw_
 ·exact .refl _
 intro i hi
 try dsimp only
 by_cases hlt : i < l.length
 ·have hr1 : (l.map (aB.tw l1))[i]? = some (l[i].tw l1) := aI hlt
  have hr2 : (l.map (aB.tw l2))[i]? = some (l[i].tw l2) := aI hlt
  have hbi := hb.2 _ (List.getElem_mem hlt)
  generalize l[i] = x at hr1 hr2 hbi
  have hct := xC hst l1 l2 x hbi
  unfold aB.tw at hct
  rw [show x.tw l1 = [.int .i64 x.owner, .bool x.class_, .str x.selector, .int .i64 x.code] from rfl] at hr1
  rw [show x.tw l2 = [.int .i64 x.owner, .bool x.class_, .str x.selector, .int .i64 x.code] from rfl] at hr2
  repeat' (first | refine V_ ?_ | refine ae hG hst (hct) ?_)
  exact ag (i + 1) (by omega) (by omega) (.of _ nw_ od_ pk_)
 ·repeat' refine W_ ?_
  exact r1_
end
def aa.tw (lo : Nat) (x : aa) : List TV := [.str x.name, .int .i64 x.parent, .sl lo 1 (bK x.fields)]
def aa.small (n : Nat) (x : aa) : Prop := (x.name.size <= n) /\ (x.fields.length <= n /\ ∀ y ∈ x.fields, ByteArray.size y <= n)
def aa.tz : List TV := [.str ⟨#[]⟩, .int .i64 0, .nils]
theorem aa.fin (B K : Nat) (objs : aF) (x : aa) : kX B objs K (x.tw B) (x.tw K) := .cons (.flat rfl) (.cons (.flat rfl) (.cons (oA (fun x => .cons (.flat rfl) .nil) _) (.nil)))
theorem aa.len (lo : Nat) (l : List aa) : (l.map (aa.tw lo)).length = l.length := by simp
section
variable {G : World -> Prop}
theorem oP (hst : ay G) (lo : Nat) (x : aa) (left : Int) (h : 0 <= left /\ left <= 1048576) (hb : x.small 9223372036854775807) : CtM Tryz.prog G 183 [.agg (x.tw lo), .int .i64 left] [] (fun y : Int => -1 <= y /\ y <= left /\ (0 <= y -> x.small 1048576)) (fun _ => []) (fun y => .int .i64 y) := by
 refine aw Tryz.func183 rfl Tryz.ntmps183 rfl rfl rfl fun w0 R gs objsR hG hR => ?_
 obtain rfl := hR.inv0
 clear hR
 unfold aa.small at hb
 have hb1 : x.name.size <= 9223372036854775807 := hb.1
 unfold aa.tw
 repeat' (first | refine W_ ?_ | refine aH ?_ | ((with_reducible apply aG); rfl; kernel_rfl; (repeat (first | exact aE.nil | ((with_reducible apply aE.cons); rfl))); exact hG; exact lN lo x.fields _ (by omega) hb.2; exact .nil _; intro y2 hy2; refine bI ?_) | refine c_ (fun hc => ?_) (fun hc => ?_))
 all_goals first
   | exact av x_ rfl (-1) ⟨by omega, by omega, fun h => by omega⟩ rfl (.nil R) (.refl _) (.tmp _ _ rfl) rfl
   | (refine av x_ rfl _ ⟨?_, ?_, fun _ => ?_⟩ rfl (.nil R) (.refl _) (.tmp _ _ rfl) rfl
      ·omega
      ·omega
      ·exact ⟨by omega, hy2.2.2 (by omega)⟩)
theorem iH (hst : ay G) (lo : Nat) (l : List aa) (left : Int) (h : 0 <= left /\ left <= 1048576) (hb : l.length <= 9223372036854775807 /\ ∀ y ∈ l, aa.small 9223372036854775807 y) : CtM Tryz.prog G 93 [.sl lo 3 (l.map (aa.tw lo)), .int .i64 left] [] (fun y : Int => -1 <= y /\ y <= left /\ (0 <= y -> l.length <= 1048576 /\ ∀ y ∈ l, aa.small 1048576 y)) (fun _ => []) (fun y => .int .i64 y) := by
 refine aw Tryz.func93 rfl Tryz.ntmps93 rfl rfl rfl fun w0 R gs objsR hG hR => ?_
 obtain rfl := hR.inv0
 clear hR
 have hlen := aa.len lo l
 have hl1 := hb.1
 by_cases hn : left - l.length < 0
 ·repeat' refine W_ ?_
  exact av x_ rfl (-1) ⟨by omega, by omega, fun h => by omega⟩ rfl (.nil R) (.refl _) (.tmp _ _ rfl) rfl
 ·repeat' refine W_ ?_
  apply am (X := Nat × Int) [0, 1000000] (fun x => [(5, .int .i64 (x.1 : Int)), (1, .int .i64 x.2)]) (fun _ => R) (fun x => x.1 <= l.length /\ 0 <= x.2 /\ x.2 <= left /\ ∀ y ∈ l.take x.1, aa.small 1048576 y) (fun x => l.length - x.1) (0, left - l.length) ⟨Nat.zero_le _, by dsimp only; omega, by dsimp only; omega, by simp⟩
  exact kp_; exact nw_
  ·exact .refl _
  rintro ⟨i, lf⟩ ⟨hi, h0, h1, hs⟩
  dsimp only at hi h0 h1 hs |-
  by_cases hlt : i < l.length
  ·have hrow : (l.map (aa.tw lo))[i]? = some (l[i].tw lo) := aI hlt
   have hbi := hb.2 _ (List.getElem_mem hlt)
   have hta := aX (p := aa.small 1048576) hlt hs
   generalize l[i] = x at hrow hbi hta
   have hct := oP hst lo x lf (by omega) hbi
   unfold aa.tw at hct
   rw [show x.tw lo = [.str x.name, .int .i64 x.parent, .sl lo 1 (bK x.fields)] from rfl] at hrow
   repeat' (first | refine W_ ?_ | ((with_reducible apply aG); rfl; kernel_rfl; (repeat (first | exact aE.nil | ((with_reducible apply aE.cons); rfl))); exact hG; exact hct; exact .nil _; intro y hy; refine bI ?_) | refine c_ (fun hc => ?_) (fun hc => ?_))
   all_goals first
     | exact av x_ rfl (-1) ⟨by omega, by omega, fun h => by omega⟩ rfl (.nil R) (.refl _) (.tmp _ _ rfl) rfl
     | exact ag (i + 1, y) ⟨by dsimp only; omega, by dsimp only; omega, by dsimp only; omega, hta (hy.2.2 (by omega))⟩ (by dsimp only; omega) (.of _ nw_ od_ pk_)
  ·rw [List.take_of_length_le (by omega)] at hs
   repeat' refine W_ ?_
   exact av x_ rfl lf ⟨by omega, by omega, fun _ => ⟨by omega, hs⟩⟩ rfl (.nil R) (.refl _) (.tmp _ _ rfl) rfl
theorem pd (hst : ay G) (l1 l2 : Nat) (x : aa) (hb : x.small 1048576) : Ct Tryz.prog G 208 [.agg (x.tw l1), .agg (x.tw l2)] (fun _ => .bool true) := by
 refine aq Tryz.func208 rfl Tryz.ntmps208 rfl rfl fun w0 _ hG => ?_
 unfold aa.small at hb
 have hsfields := (hb.2).1
 have hnename : ¬ x.name ≠ x.name := fun h => h rfl
 unfold aa.tw
 repeat' (first | refine W_ ?_ | refine aH ?_ | refine ad hG hst (lJ l1 l2 x.fields hsfields) ?_)
 all_goals first
   | (exfalso; simp at hc; done)
   | (exact r1_)
theorem ir (hst : ay G) (l1 l2 : Nat) (l : List aa) (hb : l.length <= 1048576 /\ ∀ y ∈ l, aa.small 1048576 y) : Ct Tryz.prog G 128 [.sl l1 3 (l.map (aa.tw l1)), .sl l2 3 (l.map (aa.tw l2))] (fun _ => .bool true) := by
 refine aq Tryz.func128 rfl Tryz.ntmps128 rfl rfl fun w0 _ hG => ?_
 have hlen := aa.len l1 l
 have hlen2 := aa.len l2 l
 have hl1 := hb.1
 repeat' refine W_ ?_
 apply am (X := Nat) [0, 1] (fun i => [(5, .int .i64 (i : Int))]) (fun _ => []) (fun i => i <= l.length) (fun i => l.length - i) 0 (Nat.zero_le _)
 exact kp_; exact nw_
 ·exact .refl _
 intro i hi
 try dsimp only
 by_cases hlt : i < l.length
 ·have hr1 : (l.map (aa.tw l1))[i]? = some (l[i].tw l1) := aI hlt
  have hr2 : (l.map (aa.tw l2))[i]? = some (l[i].tw l2) := aI hlt
  have hbi := hb.2 _ (List.getElem_mem hlt)
  generalize l[i] = x at hr1 hr2 hbi
  have hct := pd hst l1 l2 x hbi
  unfold aa.tw at hct
  rw [show x.tw l1 = [.str x.name, .int .i64 x.parent, .sl l1 1 (bK x.fields)] from rfl] at hr1
  rw [show x.tw l2 = [.str x.name, .int .i64 x.parent, .sl l2 1 (bK x.fields)] from rfl] at hr2
  repeat' (first | refine V_ ?_ | refine ae hG hst (hct) ?_)
  exact ag (i + 1) (by omega) (by omega) (.of _ nw_ od_ pk_)
 ·repeat' refine W_ ?_
  exact r1_
end
def aD.tw (lo : Nat) (x : aD) : List TV := [.sl lo 3 (x.classes.map (aa.tw lo)), .sl lo 4 (x.codes.map (aC.tw lo)), .sl lo 4 (x.entries.map (aB.tw lo)), .int .i64 x.main]
def aD.small (n : Nat) (x : aD) : Prop := (x.classes.length <= n /\ ∀ y ∈ x.classes, aa.small n y) /\ (x.codes.length <= n /\ ∀ y ∈ x.codes, aC.small n y) /\ (x.entries.length <= n /\ ∀ y ∈ x.entries, aB.small n y)
def aD.tz : List TV := [.nils, .nils, .nils, .int .i64 0]
theorem aD.len (lo : Nat) (l : List aD) : (l.map (aD.tw lo)).length = l.length := by simp
section
variable {G : World -> Prop}
theorem rc (hst : ay G) (lo : Nat) (x : aD) (left : Int) (h : 0 <= left /\ left <= 1048576) (hb : x.small 9223372036854775807) : CtM Tryz.prog G 29 [.agg (x.tw lo), .int .i64 left] [] (fun y : Int => -1 <= y /\ y <= left /\ (0 <= y -> x.small 1048576)) (fun _ => []) (fun y => .int .i64 y) := by
 refine aw Tryz.func29 rfl Tryz.ntmps29 rfl rfl rfl fun w0 R gs objsR hG hR => ?_
 obtain rfl := hR.inv0
 clear hR
 unfold aD.small at hb
 skip
 unfold aD.tw
 repeat' (first | refine W_ ?_ | refine aH ?_ | ((with_reducible apply aG); rfl; kernel_rfl; (repeat (first | exact aE.nil | ((with_reducible apply aE.cons); rfl))); exact hG; exact iH hst lo x.classes _ (by omega) hb.1; exact .nil _; intro y1 hy1; refine bI ?_) | ((with_reducible apply aG); rfl; kernel_rfl; (repeat (first | exact aE.nil | ((with_reducible apply aE.cons); rfl))); exact hG; exact yx hst lo x.codes _ (by omega) hb.2.1; exact .nil _; intro y2 hy2; refine bI ?_) | ((with_reducible apply aG); rfl; kernel_rfl; (repeat (first | exact aE.nil | ((with_reducible apply aE.cons); rfl))); exact hG; exact vO hst lo x.entries _ (by omega) hb.2.2; exact .nil _; intro y3 hy3; refine bI ?_) | refine c_ (fun hc => ?_) (fun hc => ?_))
 all_goals first
   | exact av x_ rfl (-1) ⟨by omega, by omega, fun h => by omega⟩ rfl (.nil R) (.refl _) (.tmp _ _ rfl) rfl
   | (refine av x_ rfl _ ⟨?_, ?_, fun _ => ?_⟩ rfl (.nil R) (.refl _) (.tmp _ _ rfl) rfl
      ·omega
      ·omega
      ·exact ⟨hy1.2.2 (by omega), hy2.2.2 (by omega), hy3.2.2 (by omega)⟩)
theorem qE (hst : ay G) (l1 l2 : Nat) (x : aD) (hb : x.small 1048576) : Ct Tryz.prog G 53 [.agg (x.tw l1), .agg (x.tw l2)] (fun _ => .bool true) := by
 refine aq Tryz.func53 rfl Tryz.ntmps53 rfl rfl fun w0 _ hG => ?_
 unfold aD.small at hb
 have hsclasses := hb.1
 have hscodes := hb.2.1
 have hsentries := hb.2.2
 unfold aD.tw
 repeat' (first | refine W_ ?_ | refine aH ?_ | refine ad hG hst (ir hst l1 l2 x.classes hsclasses) ?_ | refine ad hG hst (yJ hst l1 l2 x.codes hscodes) ?_ | refine ad hG hst (vD hst l1 l2 x.entries hsentries) ?_)
 all_goals first
   | (exfalso; simp at hc; done)
   | (exact r1_)
end
section
variable {G : World -> Prop}
end
def bG : List aa := [⟨⟨#[79, 98, 106, 101, 99, 116]⟩, -1, []⟩, ⟨⟨#[69, 120, 99, 101, 112, 116, 105, 111, 110]⟩, 0, [⟨#[116, 101, 120, 116]⟩]⟩, ⟨⟨#[69, 114, 114, 111, 114]⟩, 1, [⟨#[116, 101, 120, 116]⟩]⟩, ⟨⟨#[77, 101, 115, 115, 97, 103, 101, 78, 111, 116, 85, 110, 100, 101, 114, 115, 116, 111, 111, 100]⟩, 2, [⟨#[116, 101, 120, 116]⟩]⟩, ⟨⟨#[90, 101, 114, 111, 68, 105, 118, 105, 100, 101]⟩, 2, [⟨#[116, 101, 120, 116]⟩]⟩, ⟨⟨#[73, 110, 116, 101, 103, 101, 114]⟩, 0, []⟩, ⟨⟨#[66, 111, 111, 108, 101, 97, 110]⟩, 0, []⟩, ⟨⟨#[78, 105, 108]⟩, 0, []⟩, ⟨⟨#[83, 116, 114, 105, 110, 103]⟩, 0, []⟩, ⟨⟨#[83, 121, 109, 98, 111, 108]⟩, 0, []⟩, ⟨⟨#[65, 114, 114, 97, 121]⟩, 0, []⟩, ⟨⟨#[66, 108, 111, 99, 107]⟩, 0, []⟩, ⟨⟨#[83, 101, 109, 97, 112, 104, 111, 114, 101]⟩, 0, []⟩, ⟨⟨#[80, 114, 111, 99, 101, 115, 115]⟩, 0, []⟩, ⟨⟨#[84, 114, 97, 110, 115, 99, 114, 105, 112, 116]⟩, 0, []⟩, ⟨⟨#[67, 108, 97, 115, 115]⟩, 0, []⟩]
def cH : List ByteArray := [⟨#[79, 98, 106, 101, 99, 116]⟩, ⟨#[69, 120, 99, 101, 112, 116, 105, 111, 110]⟩, ⟨#[69, 114, 114, 111, 114]⟩, ⟨#[77, 101, 115, 115, 97, 103, 101, 78, 111, 116, 85, 110, 100, 101, 114, 115, 116, 111, 111, 100]⟩, ⟨#[90, 101, 114, 111, 68, 105, 118, 105, 100, 101]⟩, ⟨#[73, 110, 116, 101, 103, 101, 114]⟩, ⟨#[66, 111, 111, 108, 101, 97, 110]⟩, ⟨#[78, 105, 108]⟩, ⟨#[83, 116, 114, 105, 110, 103]⟩, ⟨#[83, 121, 109, 98, 111, 108]⟩, ⟨#[65, 114, 114, 97, 121]⟩, ⟨#[66, 108, 111, 99, 107]⟩, ⟨#[83, 101, 109, 97, 112, 104, 111, 114, 101]⟩, ⟨#[80, 114, 111, 99, 101, 115, 115]⟩, ⟨#[84, 114, 97, 110, 115, 99, 114, 105, 112, 116]⟩, ⟨#[67, 108, 97, 115, 115]⟩]
def gZ (k : Int) : List ByteArray := if k = 1 \/ k = 2 \/ k = 3 \/ k = 4 then [⟨#[116, 101, 120, 116]⟩] else []
def xj : List (List TV) := [[TV.int .i64 (-1)], [TV.int .i64 0], [TV.int .i64 1], [TV.int .i64 2], [TV.int .i64 2], [TV.int .i64 0], [TV.int .i64 0], [TV.int .i64 0], [TV.int .i64 0], [TV.int .i64 0], [TV.int .i64 0], [TV.int .i64 0], [TV.int .i64 0], [TV.int .i64 0], [TV.int .i64 0], [TV.int .i64 0]]
theorem fG : bG.length = 16 := rfl
theorem jd {i : Nat} (h : i < 16) : ∃ x, bG[i]? = some x /\ (bK cH)[i]? = some [.str x.name] /\ xj[i]? = some [.int .i64 x.parent] /\ gZ (i : Int) = x.fields /\ bG.take (i + 1) = bG.take i ++ [x] := by
 match i, h with
 | 0, _ => exact ⟨_, rfl, rfl, rfl, rfl, rfl⟩
 | 1, _ => exact ⟨_, rfl, rfl, rfl, rfl, rfl⟩
 | 2, _ => exact ⟨_, rfl, rfl, rfl, rfl, rfl⟩
 | 3, _ => exact ⟨_, rfl, rfl, rfl, rfl, rfl⟩
 | 4, _ => exact ⟨_, rfl, rfl, rfl, rfl, rfl⟩
 | 5, _ => exact ⟨_, rfl, rfl, rfl, rfl, rfl⟩
 | 6, _ => exact ⟨_, rfl, rfl, rfl, rfl, rfl⟩
 | 7, _ => exact ⟨_, rfl, rfl, rfl, rfl, rfl⟩
 | 8, _ => exact ⟨_, rfl, rfl, rfl, rfl, rfl⟩
 | 9, _ => exact ⟨_, rfl, rfl, rfl, rfl, rfl⟩
 | 10, _ => exact ⟨_, rfl, rfl, rfl, rfl, rfl⟩
 | 11, _ => exact ⟨_, rfl, rfl, rfl, rfl, rfl⟩
 | 12, _ => exact ⟨_, rfl, rfl, rfl, rfl, rfl⟩
 | 13, _ => exact ⟨_, rfl, rfl, rfl, rfl, rfl⟩
 | 14, _ => exact ⟨_, rfl, rfl, rfl, rfl, rfl⟩
 | 15, _ => exact ⟨_, rfl, rfl, rfl, rfl, rfl⟩
 | n + 16, h => omega
section
variable {G : World -> Prop}
theorem o5 : Ct Tryz.prog G 295 [] (fun K => .sl K 1 (bK cH)) := by
 refine aq Tryz.func295 rfl Tryz.ntmps295 rfl rfl fun w0 _ hG => ?_
 repeat' (first | refine W_ ?_ | refine dA ?_)
 refine aK (r1 := .tmp 0) (t1 := .sl w0.heap.size 1 (bK cH)) (.inr rfl) rfl (.tmp _ _ rfl) (fun _ => ?_)
 exact oA (f := fun s : ByteArray => [TV.str s]) (f' := fun s : ByteArray => [TV.str s]) (fun x => .cons (.flat rfl) .nil) cH
theorem oM : Ct Tryz.prog G 306 [] (fun K => .sl K 1 (bK cH)) := by
 refine aq Tryz.func306 rfl Tryz.ntmps306 rfl rfl fun w0 _ hG => ?_
 repeat' (first | refine W_ ?_ | refine dA ?_)
 refine aK (r1 := .tmp 0) (t1 := .sl w0.heap.size 1 (bK cH)) (.inr rfl) rfl (.tmp _ _ rfl) (fun _ => ?_)
 exact oA (f := fun s : ByteArray => [TV.str s]) (f' := fun s : ByteArray => [TV.str s]) (fun x => .cons (.flat rfl) .nil) cH
theorem vd (tu : TV) (k : Int) (h : k < 16) : Ct Tryz.prog G 296 [tu, .int .i64 k] (fun K => .sl K 1 (bK (gZ k))) := by
 refine aq Tryz.func296 rfl Tryz.ntmps296 rfl rfl fun w0 _ hG => ?_
 by_cases hk : k = 1 \/ k = 2 \/ k = 3 \/ k = 4
 ·rw [show gZ k = [⟨#[116, 101, 120, 116]⟩] from if_pos hk]
  repeat' (first | refine W_ ?_ | refine dA ?_ | refine g_ (fun hg => ?_) (fun hg => ?_))
  all_goals first
    | (exfalso; omega)
    | (refine aK x_ rfl (.tmp _ _ rfl) (fun _ => ?_)
       exact oA (f := fun s : ByteArray => [TV.str s]) (f' := fun s : ByteArray => [TV.str s]) (fun x => .cons (.flat rfl) .nil) [⟨#[116, 101, 120, 116]⟩])
 ·rw [show gZ k = [] from if_neg hk]
  repeat' (first | refine W_ ?_ | refine dA ?_)
  all_goals first
    | (exfalso; omega)
    | (refine aK x_ rfl (.tmp _ _ rfl) (fun _ => ?_)
       exact oA (f := fun s : ByteArray => [TV.str s]) (f' := fun s : ByteArray => [TV.str s]) (fun x => .cons (.flat rfl) .nil) [])
theorem yI (hst : ay G) (rest : List TV) : Ct Tryz.prog G 247 [.cp 0 (.nils :: rest)] (fun K => .sl K 3 (bG.map (aa.tw K))) := by
 refine aq Tryz.func247 rfl Tryz.ntmps247 rfl rfl fun w0 _ hG => ?_
 repeat' (first | refine H_ 3 ?_ | refine ad hG hst (o5) ?_ | (refine iK ?_; intro ss bb))
 refine ⟨?_⟩
 repeat' (first | refine W_ ?_ | refine dA ?_)
 apply am (X := Nat × Nat) [0, 4, 5] (fun x => [(6, .int .i64 (x.1 : Int)), (3, .ms ss x.2 0 x.1)]) (fun x => [(ss, x.2, .row 3 ((bG.take x.1).map (aa.tw w0.heap.size)))]) (fun x => x.1 <= 16) (fun x => 16 - x.1) (0, bb) (Nat.zero_le _)
 exact kp_; exact nw_
 ·exact .refl _
 rintro ⟨i, b⟩ hi
 dsimp only at hi |-
 by_cases hlt : i < 16
 ·obtain ⟨x, hx, h1, h2, h3, h4⟩ := jd hlt
  unfold xj at h2
  have hle : ((bG.take i).map (aa.tw w0.heap.size)).length = i := by rw [List.length_map, List.length_take, fG]; omega
  repeat' (first | refine W_ ?_ | (with_reducible apply ku (id := 7) 14; kernel_rfl; kernel_rfl; kernel_rfl; (repeat (first | exact Cut.zero _ | apply Cut.succ))) | with_reducible refine iG (by kernel_rfl) (by kernel_rfl) ?_ | with_reducible refine lS ?_ | with_reducible refine iY ?_ | with_reducible refine iQ rfl ?_ | refine mb rfl rfl rfl rr_ ?_ | refine iO rfl rfl rfl rr_ rfl rfl rfl ?_ | refine f5 rfl rfl rfl rr_ rfl rfl ?_ | (refine rR rfl rfl rfl rr_ dd_ ?_) | (refine tF rfl rfl rfl rr_ dd_ ?_) | (refine ep rfl rfl rfl rr_ (fun hg => ?_) (fun hg => ?_)) | (refine dS rfl rfl rfl rr_ (fun hg => ?_) (fun hg => ?_)) | ((with_reducible apply d_y); exact y_; rfl) | ((with_reducible apply acK); rfl; kernel_rfl; (repeat (first | exact bS.nil | ((with_reducible apply bS.cons); rfl; exact .same _))); exact hG; exact hst; exact vd _ _ (by omega)) | refine ab2 ?_ | refine aeL ?_ | (refine sN ?_; intro bb))
  have hrow : (bG.take i).map (aa.tw w0.heap.size) ++ [[TV.str x.name, .int .i64 x.parent, .sl w0.heap.size 1 (bK (gZ i))]] = (bG.take (i + 1)).map (aa.tw w0.heap.size) := by
    rw [h4, h3, List.map_append]; rfl
  rw [hrow]
  exact ag (i + 1, bb) (by dsimp only; omega) (by dsimp only; omega) (.of _ nw_ od_ pk_)
 ·obtain rfl : i = 16 := by omega
  repeat' refine W_ ?_
  apply am (X := Unit) [0, 3] (fun _ => [(7, .int .i64 0)]) (fun _ => [(ss, b, .row 3 (bG.map (aa.tw w0.heap.size)))]) (fun _ => True) (fun _ => 0) () trivial
  exact kp_; exact nw_
  ·exact .refl _
  rintro _ -
  repeat' refine W_ ?_
  refine aK x_ rfl (.tmp _ _ rfl) (fun _ => ?_)
  exact aaG (fun x => aa.fin _ _ _ x) List.mem_cons_self
end
def nR {α : Type} (mk : α -> Nat × Nat -> List TV) (l : List α) (ps : List (Nat × Nat)) : List (List TV) := List.zipWith mk l ps
def nO {α : Type} (ob : α -> aZ) (l : List α) (ps : List (Nat × Nat)) : aF := List.zipWith (fun x p => (p.1, p.2, ob x)) l ps
theorem lG {α : Type} (mk : α -> Nat × Nat -> List TV) {l : List α} {ps : List (Nat × Nat)} (h : ps.length = l.length) : (nR mk l ps).length = l.length := by simp [nR, h]
theorem dF {α : Type} {l : List α} {i : Nat} (h : i < l.length) : l.take (i + 1) = l.take i ++ [l[i]] := by rw [List.take_add_one, List.getElem?_eq_getElem h]; rfl
theorem lc {α : Type} (ob : α -> aZ) {l : List α} {ps : List (Nat × Nat)} {i : Nat} (h : i < l.length) (hp : ps.length = i) (p : Nat × Nat) : nO ob (l.take (i + 1)) (ps ++ [p]) = nO ob (l.take i) ps ++ [(p.1, p.2, ob l[i])] := by
 unfold nO
 rw [dF h, List.zipWith_append (by simp; omega)]; rfl
theorem acF {α : Type} (mk : α -> Nat × Nat -> List TV) (z : List TV) {l : List α} {ps : List (Nat × Nat)} {i : Nat} (h : i < l.length) (hp : ps.length = i) (p : Nat × Nat) :
   (nR mk (l.take i) ps ++ List.replicate (l.length - i) z)[i]? = some z /\ (nR mk (l.take i) ps ++ List.replicate (l.length - i) z).set i (mk l[i] p) = nR mk (l.take (i + 1)) (ps ++ [p]) ++ List.replicate (l.length - (i + 1)) z := by
 have hl : (nR mk (l.take i) ps).length = i := by simp [nR]; omega
 have e : l.length - i = (l.length - (i + 1)) + 1 := by omega
 refine ⟨?_, ?_⟩
 ·rw [List.getElem?_append_right (by omega), hl, Nat.sub_self, e, List.replicate_succ]; rfl
 ·rw [List.set_append_right _ _ (by omega), hl, Nat.sub_self, e, List.replicate_succ, List.set_cons_zero]
  unfold nR
  rw [dF h, List.zipWith_append (by simp; omega), List.append_assoc]; rfl
theorem j6 (a z : Nat × Nat × aZ) (T R : aF) : cj (a :: ((T ++ [z]) ++ R)) (z :: a :: (T ++ R)) := .perm (by
 have h : ((T ++ [z]) ++ R).Perm (z :: (T ++ R)) := by rw [List.append_assoc]; exact List.perm_middle
 exact (h.cons a).trans (List.Perm.swap z a _))
def eD (x : aa) (p : Nat × Nat) : List TV := [.str x.name, .int .i64 x.parent, .ms p.1 p.2 0 x.fields.length]
def fD (x : aa) : aZ := .row 1 (bK x.fields)
def cN (x : aC) (p : Nat × Nat) : List TV := [.bool x.block, .int .i64 x.params, .int .i64 x.slots, .ms p.1 p.2 0 x.instrs.length]
def dN (x : aC) : aZ := .row 4 (x.instrs.map (ai.tw 0))
section
variable {G : World -> Prop}
theorem ks (hst : ay G) (lo : Nat) (l : List ByteArray) (hn : l.length <= 1048576) : CtM Tryz.prog G 120 [.sl lo 1 (bK l)] [] (fun _ : Nat × Nat => True) (fun y => [(y.1, y.2, .row 1 (bK l))]) (fun y => .ms y.1 y.2 0 l.length) := by
 refine aw Tryz.func120 rfl Tryz.ntmps120 rfl rfl rfl fun w0 R gs objsR hG hR => ?_
 obtain rfl := hR.inv0
 clear hR
 have hlen := bP l
 have h0 := eQ (fun s : ByteArray => [TV.str s]) [.str ⟨#[]⟩] l
 repeat' (first | refine W_ ?_ | (refine gn ?_; intro ss bb))
 generalize ss = so; generalize bb = bo
 apply am (X := Nat) [0, 3, 1000000] (fun i => [(4, .int .i64 (i : Int))]) (fun i => (so, bo, .row 1 (gC (fun s : ByteArray => [TV.str s]) [.str ⟨#[]⟩] l i)) :: R) (fun i => i <= l.length) (fun i => l.length - i) 0 (Nat.zero_le _)
 exact kp_; exact nw_
 ·rw [<- h0]; exact .refl _
 intro i hi
 try dsimp only
 by_cases hlt : i < l.length
 ·obtain ⟨hrow, hset⟩ := fK (fun s : ByteArray => [TV.str s]) [.str ⟨#[]⟩] hlt
  have hra := eo hlt
  generalize l[i] = x at hset hra
  try dsimp only at hset
  repeat' (first | refine W_ ?_ | refine bm ?_)
  refine ag (i + 1) (by omega) (by omega) (.of _ nw_ od_ (by rw [<- hset]; exact .refl _))
 ·obtain rfl : i = l.length := by omega
  rw [eH]
  repeat' refine W_ ?_
  exact av x_ rfl (so, bo) trivial rfl (.cons _ _ _ _ (.nil R)) pk_ (.tmp _ _ rfl) rfl
theorem tP (hst : ay G) (lo : Nat) (l : List ai) (hb : l.length <= 1048576 /\ ∀ y ∈ l, ai.small 1048576 y) : CtM Tryz.prog G 258 [.sl lo 4 (l.map (ai.tw lo))] [] (fun _ : Nat × Nat => True) (fun y => [(y.1, y.2, .row 4 (l.map (ai.tw 0)))]) (fun y => .ms y.1 y.2 0 l.length) := by
 refine aw Tryz.func258 rfl Tryz.ntmps258 rfl rfl rfl fun w0 R gs objsR hG hR => ?_
 obtain rfl := hR.inv0
 clear hR
 have hlen := ai.len lo l
 have hl1 := hb.1
 have h0 := eQ (ai.tw 0) ai.tz l
 repeat' (first | refine W_ ?_ | (refine gn ?_; intro ss bb))
 generalize ss = so; generalize bb = bo
 apply am (X := Nat) [0, 3, 1000000] (fun i => [(4, .int .i64 (i : Int))]) (fun i => (so, bo, .row 4 (gC (ai.tw 0) ai.tz l i)) :: R) (fun i => i <= l.length) (fun i => l.length - i) 0 (Nat.zero_le _)
 exact kp_; exact nw_
 ·rw [<- h0]; exact .refl _
 intro i hi
 try dsimp only
 by_cases hlt : i < l.length
 ·obtain ⟨hrow, hset⟩ := fK (ai.tw 0) ai.tz hlt
  have hra : (l.map (ai.tw lo))[i]? = some (l[i].tw lo) := aI hlt
  have hbi := hb.2 _ (List.getElem_mem hlt)
  generalize l[i] = x at hset hra hbi
  have hct := yG hst lo x hbi
  unfold ai.tw at hct
  rw [show x.tw lo = [.int .i64 x.op, .int .i64 x.a, .int .i64 x.b, .str x.text] from rfl] at hra
  replace hrow : (gC (ai.tw 0) ai.tz l i)[i]? = some [.int .i64 0, .int .i64 0, .int .i64 0, .str ⟨#[]⟩] := hrow
  repeat' (first | refine W_ ?_ | refine ad hG hst (hct) ?_ | refine bm ?_)
  refine ag (i + 1) (by omega) (by omega) (.of _ nw_ od_ (by rw [<- hset]; exact .refl _))
 ·obtain rfl : i = l.length := by omega
  rw [eH]
  repeat' refine W_ ?_
  exact av x_ rfl (so, bo) trivial rfl (.cons _ _ _ _ (.nil R)) pk_ (.tmp _ _ rfl) rfl
theorem uh (hst : ay G) (lo : Nat) (l : List aB) (hb : l.length <= 1048576 /\ ∀ y ∈ l, aB.small 1048576 y) : CtM Tryz.prog G 118 [.sl lo 4 (l.map (aB.tw lo))] [] (fun _ : Nat × Nat => True) (fun y => [(y.1, y.2, .row 4 (l.map (aB.tw 0)))]) (fun y => .ms y.1 y.2 0 l.length) := by
 refine aw Tryz.func118 rfl Tryz.ntmps118 rfl rfl rfl fun w0 R gs objsR hG hR => ?_
 obtain rfl := hR.inv0
 clear hR
 have hlen := aB.len lo l
 have hl1 := hb.1
 have h0 := eQ (aB.tw 0) aB.tz l
 repeat' (first | refine W_ ?_ | (refine gn ?_; intro ss bb))
 generalize ss = so; generalize bb = bo
 apply am (X := Nat) [0, 3, 1000000] (fun i => [(4, .int .i64 (i : Int))]) (fun i => (so, bo, .row 4 (gC (aB.tw 0) aB.tz l i)) :: R) (fun i => i <= l.length) (fun i => l.length - i) 0 (Nat.zero_le _)
 exact kp_; exact nw_
 ·rw [<- h0]; exact .refl _
 intro i hi
 try dsimp only
 by_cases hlt : i < l.length
 ·obtain ⟨hrow, hset⟩ := fK (aB.tw 0) aB.tz hlt
  have hra : (l.map (aB.tw lo))[i]? = some (l[i].tw lo) := aI hlt
  have hbi := hb.2 _ (List.getElem_mem hlt)
  generalize l[i] = x at hset hra hbi
  have hct := xA hst lo x hbi
  unfold aB.tw at hct
  rw [show x.tw lo = [.int .i64 x.owner, .bool x.class_, .str x.selector, .int .i64 x.code] from rfl] at hra
  replace hrow : (gC (aB.tw 0) aB.tz l i)[i]? = some [.int .i64 0, .bool false, .str ⟨#[]⟩, .int .i64 0] := hrow
  repeat' (first | refine W_ ?_ | refine ad hG hst (hct) ?_ | refine bm ?_)
  refine ag (i + 1) (by omega) (by omega) (.of _ nw_ od_ (by rw [<- hset]; exact .refl _))
 ·obtain rfl : i = l.length := by omega
  rw [eH]
  repeat' refine W_ ?_
  exact av x_ rfl (so, bo) trivial rfl (.cons _ _ _ _ (.nil R)) pk_ (.tmp _ _ rfl) rfl
theorem oo (hst : ay G) (lo : Nat) (x : aa) (hb : x.small 1048576) : CtM Tryz.prog G 202 [.agg [.str x.name, .int .i64 x.parent, .sl lo 1 (bK x.fields)]] [] (fun _ : Nat × Nat => True) (fun y => [(y.1, y.2, .row 1 (bK x.fields))]) (fun y => .agg [.str x.name, .int .i64 x.parent, .ms y.1 y.2 0 x.fields.length]) := by
 refine aw Tryz.func202 rfl Tryz.ntmps202 rfl rfl rfl fun w0 R gs objsR hG hR => ?_
 obtain rfl := hR.inv0
 clear hR
 have hin := ks hst lo x.fields hb.2.1
 repeat' (first | refine W_ ?_ | refine aH ?_ | (refine ak ?_; intro ss bb) | refine ac ?_ | ((with_reducible apply aG); rfl; kernel_rfl; (repeat (first | exact aE.nil | ((with_reducible apply aE.cons); rfl))); exact hG; exact hin; exact .nil _; intro y hy; refine bE ?_))
 refine av x_ rfl y trivial rfl (.cons _ _ _ _ (.nil R)) pk_ (.cell _ _ _ _ _ rfl mm_ (by kernel_rfl) (by kernel_rfl) (by kernel_rfl)) rfl
theorem ik (hst : ay G) (lo : Nat) (l : List aa) (hb : l.length <= 1048576 /\ ∀ y ∈ l, aa.small 1048576 y) : CtM Tryz.prog G 116 [.sl lo 3 (l.map (aa.tw lo))] [] (fun y : (Nat × Nat) × List (Nat × Nat) => y.2.length = l.length) (fun y => (y.1.1, y.1.2, .row 3 (nR eD l y.2)) :: nO fD l y.2) (fun y => .ms y.1.1 y.1.2 0 l.length) := by
 refine aw Tryz.func116 rfl Tryz.ntmps116 rfl rfl rfl fun w0 R gs objsR hG hR => ?_
 obtain rfl := hR.inv0
 clear hR
 have hlen := aa.len lo l
 have hl1 := hb.1
 have h0 : List.replicate l.length aa.tz = nR eD (l.take 0) [] ++ List.replicate (l.length - 0) aa.tz := by simp [nR]
 repeat' (first | refine W_ ?_ | (refine gn ?_; intro ss bb))
 generalize ss = so; generalize bb = bo
 apply am (X := Nat × List (Nat × Nat)) [0, 3, 1000000] (fun x => [(4, .int .i64 (x.1 : Int))]) (fun x => (so, bo, .row 3 (nR eD (l.take x.1) x.2 ++ List.replicate (l.length - x.1) aa.tz)) :: (nO fD (l.take x.1) x.2 ++ R)) (fun x => x.1 <= l.length /\ x.2.length = x.1) (fun x => l.length - x.1) (0, []) ⟨Nat.zero_le _, rfl⟩
 exact kp_; exact nw_
 ·rw [<- h0]; exact .refl _
 rintro ⟨i, ps⟩ ⟨hi, hps⟩
 dsimp only at hi hps |-
 by_cases hlt : i < l.length
 ·have hrs := fun p => acF eD aa.tz hlt hps p
  have hos := fun p => lc fD hlt hps p
  have hra : (l.map (aa.tw lo))[i]? = some (l[i].tw lo) := aI hlt
  have hbi := hb.2 _ (List.getElem_mem hlt)
  generalize l[i] = x at hrs hos hra hbi
  have hct := oo hst lo x hbi
  rw [show x.tw lo = [.str x.name, .int .i64 x.parent, .sl lo 1 (bK x.fields)] from rfl] at hra
  have hrow : (nR eD (l.take i) ps ++ List.replicate (l.length - i) aa.tz)[i]? = some [.str ⟨#[]⟩, .int .i64 0, .nils] := (hrs (0, 0)).1
  generalize nO fD (l.take i) ps = T at hos |-
  repeat' (first | refine W_ ?_ | ((with_reducible apply aG); rfl; kernel_rfl; (repeat (first | exact aE.nil | ((with_reducible apply aE.cons); rfl))); exact hG; exact hct; exact .nil _; intro y hy; refine bE ?_) | refine bm ?_)
  refine ag (i + 1, ps ++ [y]) ⟨by dsimp only; omega, by dsimp only; simp [hps]⟩ (by dsimp only; omega) (.of _ nw_ od_ ?_)
  dsimp only
  rw [hos y, <- (hrs y).2]
  exact j6 _ _ T R
 ·obtain rfl : i = l.length := by omega
  rw [List.take_of_length_le (Nat.le_refl _), Nat.sub_self, List.replicate_zero, List.append_nil]
  repeat' refine W_ ?_
  exact av x_ rfl ((so, bo), ps) hps rfl (.cons _ _ _ _ (.app _ R)) (.refl _) (.tmp _ _ rfl) rfl
theorem x2 (hst : ay G) (lo : Nat) (x : aC) (hb : x.small 1048576) : CtM Tryz.prog G 203 [.agg [.bool x.block, .int .i64 x.params, .int .i64 x.slots, .sl lo 4 (x.instrs.map (ai.tw lo))]] [] (fun _ : Nat × Nat => True) (fun y => [(y.1, y.2, .row 4 (x.instrs.map (ai.tw 0)))]) (fun y => .agg [.bool x.block, .int .i64 x.params, .int .i64 x.slots, .ms y.1 y.2 0 x.instrs.length]) := by
 refine aw Tryz.func203 rfl Tryz.ntmps203 rfl rfl rfl fun w0 R gs objsR hG hR => ?_
 obtain rfl := hR.inv0
 clear hR
 have hin := tP hst lo x.instrs hb
 repeat' (first | refine W_ ?_ | refine aH ?_ | (refine ak ?_; intro ss bb) | refine ac ?_ | ((with_reducible apply aG); rfl; kernel_rfl; (repeat (first | exact aE.nil | ((with_reducible apply aE.cons); rfl))); exact hG; exact hin; exact .nil _; intro y hy; refine bE ?_))
 refine av x_ rfl y trivial rfl (.cons _ _ _ _ (.nil R)) pk_ (.cell _ _ _ _ _ rfl mm_ (by kernel_rfl) (by kernel_rfl) (by kernel_rfl)) rfl
theorem vG (hst : ay G) (lo : Nat) (l : List aC) (hb : l.length <= 1048576 /\ ∀ y ∈ l, aC.small 1048576 y) : CtM Tryz.prog G 117 [.sl lo 4 (l.map (aC.tw lo))] [] (fun y : (Nat × Nat) × List (Nat × Nat) => y.2.length = l.length) (fun y => (y.1.1, y.1.2, .row 4 (nR cN l y.2)) :: nO dN l y.2) (fun y => .ms y.1.1 y.1.2 0 l.length) := by
 refine aw Tryz.func117 rfl Tryz.ntmps117 rfl rfl rfl fun w0 R gs objsR hG hR => ?_
 obtain rfl := hR.inv0
 clear hR
 have hlen := aC.len lo l
 have hl1 := hb.1
 have h0 : List.replicate l.length aC.tz = nR cN (l.take 0) [] ++ List.replicate (l.length - 0) aC.tz := by simp [nR]
 repeat' (first | refine W_ ?_ | (refine gn ?_; intro ss bb))
 generalize ss = so; generalize bb = bo
 apply am (X := Nat × List (Nat × Nat)) [0, 3, 1000000] (fun x => [(4, .int .i64 (x.1 : Int))]) (fun x => (so, bo, .row 4 (nR cN (l.take x.1) x.2 ++ List.replicate (l.length - x.1) aC.tz)) :: (nO dN (l.take x.1) x.2 ++ R)) (fun x => x.1 <= l.length /\ x.2.length = x.1) (fun x => l.length - x.1) (0, []) ⟨Nat.zero_le _, rfl⟩
 exact kp_; exact nw_
 ·rw [<- h0]; exact .refl _
 rintro ⟨i, ps⟩ ⟨hi, hps⟩
 dsimp only at hi hps |-
 by_cases hlt : i < l.length
 ·have hrs := fun p => acF cN aC.tz hlt hps p
  have hos := fun p => lc dN hlt hps p
  have hra : (l.map (aC.tw lo))[i]? = some (l[i].tw lo) := aI hlt
  have hbi := hb.2 _ (List.getElem_mem hlt)
  generalize l[i] = x at hrs hos hra hbi
  have hct := x2 hst lo x hbi
  rw [show x.tw lo = [.bool x.block, .int .i64 x.params, .int .i64 x.slots, .sl lo 4 (x.instrs.map (ai.tw lo))] from rfl] at hra
  have hrow : (nR cN (l.take i) ps ++ List.replicate (l.length - i) aC.tz)[i]? = some [.bool false, .int .i64 0, .int .i64 0, .nils] := (hrs (0, 0)).1
  generalize nO dN (l.take i) ps = T at hos |-
  repeat' (first | refine W_ ?_ | ((with_reducible apply aG); rfl; kernel_rfl; (repeat (first | exact aE.nil | ((with_reducible apply aE.cons); rfl))); exact hG; exact hct; exact .nil _; intro y hy; refine bE ?_) | refine bm ?_)
  refine ag (i + 1, ps ++ [y]) ⟨by dsimp only; omega, by dsimp only; simp [hps]⟩ (by dsimp only; omega) (.of _ nw_ od_ ?_)
  dsimp only
  rw [hos y, <- (hrs y).2]
  exact j6 _ _ T R
 ·obtain rfl : i = l.length := by omega
  rw [List.take_of_length_le (Nat.le_refl _), Nat.sub_self, List.replicate_zero, List.append_nil]
  repeat' refine W_ ?_
  exact av x_ rfl ((so, bo), ps) hps rfl (.cons _ _ _ _ (.app _ R)) (.refl _) (.tmp _ _ rfl) rfl
end
def mkL {α : Type} (mk : Int -> α -> α) (nx : Int -> α -> Int) : Int -> List α -> List α
 | _, [] => []
 | k, x :: r => mk k x :: mkL mk nx (nx k x) r
def kL {α : Type} (nx : Int -> α -> Int) (k : Int) (l : List α) : Int := l.foldl nx k
def ptL {α : Type} (mk : Int -> α -> α) (nx : Int -> α -> Int) (k : Int) (l : List α) (i : Nat) : List α := mkL mk nx k (l.take i) ++ l.drop i
section
variable {α : Type} {mk : Int -> α -> α} {nx : Int -> α -> Int}
theorem bU : ∀ (k : Int) (l : List α), (mkL mk nx k l).length = l.length
 | _, [] => rfl
 | k, x :: r => by simp [mkL, bU (nx k x) r]
theorem vf : ∀ (k : Int) (a b : List α), mkL mk nx k (a ++ b) = mkL mk nx k a ++ mkL mk nx (kL nx k a) b
 | _, [], b => rfl
 | k, x :: r, b => by
   show mk k x :: mkL mk nx (nx k x) (r ++ b) = mk k x :: (mkL mk nx (nx k x) r ++ mkL mk nx (kL nx (nx k x) r) b)
   rw [vf]
theorem cF {k : Int} {l : List α} {i : Nat} (h : i < l.length) : kL nx k (l.take (i + 1)) = nx (kL nx k (l.take i)) l[i] := by
 rw [dF h]
 unfold kL
 rw [List.foldl_append]; rfl
theorem de {k : Int} {l : List α} {i : Nat} (h : i <= l.length) : (ptL mk nx k l i).length = l.length := by
 unfold ptL
 rw [List.length_append, bU, List.length_take, List.length_drop]; omega
theorem dU {k : Int} {l : List α} {i : Nat} (h : i < l.length) : (ptL mk nx k l i)[i]? = some l[i] := by
 unfold ptL
 rw [List.getElem?_append_right (by rw [bU, List.length_take]; omega), bU, List.length_take, show i - min i l.length = 0 by omega, List.drop_eq_getElem_cons h]; rfl
theorem fE {k : Int} {l : List α} {i : Nat} (h : i < l.length) : (ptL mk nx k l i).set i (mk (kL nx k (l.take i)) l[i]) = ptL mk nx k l (i + 1) := by
 unfold ptL
 rw [List.set_append_right _ _ (by rw [bU, List.length_take]; omega), bU, List.length_take, show i - min i l.length = 0 by omega, List.drop_eq_getElem_cons h, List.set_cons_zero, dF h, vf, List.append_assoc]; rfl
theorem ef (k : Int) (l : List α) : ptL mk nx k l l.length = mkL mk nx k l := by
 unfold ptL
 rw [List.take_length, List.drop_length, List.append_nil]
theorem fw {k : Int} {l : List α} {i : Nat} (h : i < l.length) : (mkL mk nx k l)[i]? = some (mk (kL nx k (l.take i)) l[i]) := by
 conv => lhs; rw [<- List.take_append_drop i l, vf]
 rw [List.getElem?_append_right (by rw [bU, List.length_take]; omega), bU, List.length_take, show i - min i l.length = 0 by omega, List.drop_eq_getElem_cons h]; rfl
theorem gl {c : Nat} : ∀ {l : List α} {k : Int}, (∀ x ∈ l, ∀ q, q <= nx q x /\ nx q x <= q + c) -> k <= kL nx k l /\ kL nx k l <= k + c * l.length
 | [], k, _ => by show k <= k /\ k <= k + _; simp
 | x :: r, k, h => by
   have h1 := h x List.mem_cons_self k
   have h2 := gl (l := r) (k := nx k x) (fun y hy => h y (List.mem_cons_of_mem _ hy))
   have e : kL nx k (x :: r) = kL nx (nx k x) r := rfl
   have e2 : (c : Int) * (((x :: r).length : Nat) : Int) = c * (r.length : Nat) + c := by rw [List.length_cons, Int.natCast_add, Int.mul_add]; simp
   rw [e, e2]
   omega
theorem aS {c : Nat} {l : List α} {k : Int} {i : Nat} {n : Nat} (hn : l.length <= n) (h : ∀ x ∈ l, ∀ q, q <= nx q x /\ nx q x <= q + c) (hi : i <= l.length) : k <= kL nx k (l.take i) /\ kL nx k (l.take i) <= k + c * n := by
 have h1 := gl (nx := nx) (c := c) (l := l.take i) (k := k) (fun x hx => h x (List.mem_of_mem_take hx))
 have h2 : (l.take i).length <= n := by rw [List.length_take]; omega
 have h3 : (c : Int) * ((l.take i).length : Nat) <= c * n := by exact_mod_cast Nat.mul_le_mul_left c h2
 omega
end
theorem aek {α : Type} (ob : α -> aZ) {l : List α} {ps : List (Nat × Nat)} {i : Nat} {p : Nat × Nat} {x : α} (hx : l[i]? = some x) (hp : ps[i]? = some p) : (nO ob l ps)[i]? = some (p.1, p.2, ob x) := by
 unfold nO
 rw [List.getElem?_zipWith, hx, hp]
theorem wc {α : Type} (mk : α -> Nat × Nat -> List TV) {l : List α} {ps : List (Nat × Nat)} {i : Nat} {p : Nat × Nat} {x : α} (hx : l[i]? = some x) (hp : ps[i]? = some p) : (nR mk l ps)[i]? = some (mk x p) := by
 unfold nR
 rw [List.getElem?_zipWith, hx, hp]
theorem oI {α β γ : Type} (f : α -> β -> γ) : ∀ {l : List α} {ps : List β} {i : Nat} {p : β} {x : α}, ps[i]? = some p -> List.zipWith f (l.set i x) ps = (List.zipWith f l ps).set i (f x p)
 | [], _, _, _, _, _ => by simp
 | _ :: _, [], _, _, _, h => by simp at h
 | a :: l, q :: ps, 0, p, x, h => by simp at h; subst h; simp
 | a :: l, q :: ps, i + 1, p, x, h => by
   have := oI f (l := l) (ps := ps) (i := i) (p := p) (x := x) (by simpa using h)
   simp [this]
theorem act {α : Type} (mk : α -> Nat × Nat -> List TV) {l : List α} {ps : List (Nat × Nat)} {i : Nat} {p : Nat × Nat} {x : α} (hp : ps[i]? = some p) : nR mk (l.set i x) ps = (nR mk l ps).set i (mk x p) := oI mk hp
theorem rj {α : Type} : ∀ {l : List α} {i : Nat} {x : α}, l[i]? = some x -> l.Perm (x :: l.eraseIdx i)
 | [], _, _, h => by simp at h
 | a :: l, 0, x, h => by simp at h; subst h; exact .refl _
 | a :: l, i + 1, x, h => by
   have := rj (l := l) (i := i) (x := x) (by simpa using h)
   exact (this.cons a).trans (.swap x a _)
theorem j5 {α : Type} : ∀ (l : List α) (i : Nat) (x : α), (l.set i x).eraseIdx i = l.eraseIdx i
 | [], _, _ => rfl
 | a :: l, 0, x => rfl
 | a :: l, i + 1, x => by simp [j5 l i x]
theorem aaR {α : Type} (ob : α -> aZ) {l : List α} {ps : List (Nat × Nat)} {i : Nat} {p : Nat × Nat} {x : α} (hx : l[i]? = some x) (hp : ps[i]? = some p) : (nO ob l ps).Perm ((p.1, p.2, ob x) :: (nO ob l ps).eraseIdx i) := rj (aek ob hx hp)
theorem aeo {α : Type} (ob : α -> aZ) {l : List α} {ps : List (Nat × Nat)} {i : Nat} {p : Nat × Nat} {x : α} (hl : i < l.length) (hp : ps[i]? = some p) : (nO ob (l.set i x) ps).Perm ((p.1, p.2, ob x) :: (nO ob l ps).eraseIdx i) := by
 have h := aaR ob (l := l.set i x) (ps := ps) (i := i) (p := p) (x := x) (by rw [List.getElem?_set_self hl]) hp
 have e : (nO ob (l.set i x) ps).eraseIdx i = (nO ob l ps).eraseIdx i := by
   unfold nO
   rw [oI _ hp, j5]
 rw [e] at h
 exact h
theorem xm {a z : Nat × Nat × aZ} {N E : aF} (h : N.Perm (z :: E)) (R : aF) : cj (z :: a :: (E ++ R)) (a :: (N ++ R)) := .perm (by
 have h1 : (a :: (N ++ R)).Perm (a :: z :: (E ++ R)) := ((h.append_right R)).cons a
 exact (List.Perm.swap a z _).trans h1.symm)
theorem zJ {a z : Nat × Nat × aZ} {N E : aF} (h : N.Perm (z :: E)) (R : aF) : cj (a :: (N ++ R)) (z :: a :: (E ++ R)) := .perm (by
 have h1 : (a :: (N ++ R)).Perm (a :: z :: (E ++ R)) := ((h.append_right R)).cons a
 exact h1.trans (List.Perm.swap z a _))
theorem re (A B C : aF) : cj (B ++ (A ++ C)) (A ++ (B ++ C)) := .perm (by
 rw [<- List.append_assoc, <- List.append_assoc]
 exact List.perm_append_comm.append_right C)
def cE (k : Int) (_ : ByteArray) : ByteArray := dB k
def aU (k : Int) (_ : ByteArray) : Int := k + 1
theorem eK (l : List ByteArray) : ∀ x ∈ l, ∀ q, q <= aU q x /\ aU q x <= q + (1 : Nat) := fun x _ q => by unfold aU; omega
theorem abc (l : List ByteArray) (k : Nat) (s : ByteArray) : (bK l).set k [TV.str s] = bK (l.set k s) := by simp [bK, List.map_set]
def dZ (k : Int) (_ : ai) : ai := ⟨k, k + 1, k + 1 + 1, dB (k + 1 + 1 + 1)⟩
def bv (k : Int) (_ : ai) : Int := k + 1 + 1 + 1 + 1
theorem ja (l : List ai) : ∀ x ∈ l, ∀ q, q <= bv q x /\ bv q x <= q + (4 : Nat) := fun x _ q => by unfold bv; omega
def en (k : Int) (_ : aB) : aB := ⟨k, decide ((k + 1).tmod 3 = 0), dB (k + 1 + 1), k + 1 + 1 + 1⟩
def bF (k : Int) (_ : aB) : Int := k + 1 + 1 + 1 + 1
theorem jm (l : List aB) : ∀ x ∈ l, ∀ q, q <= bF q x /\ bF q x <= q + (4 : Nat) := fun x _ q => by unfold bF; omega
def aV (k : Int) (x : aa) : aa := ⟨dB (k), k + 1, mkL cE aU (k + 1 + 1) x.fields⟩
def az (k : Int) (x : aa) : Int := kL aU (k + 1 + 1) x.fields
theorem cn {l : List aa} (h : ∀ y ∈ l, aa.small 1048576 y) : ∀ x ∈ l, ∀ q, q <= az q x /\ az q x <= q + (1048578 : Nat) := fun x hx q => by
 have h1 := h x hx
 have h2 := h1.2.1
 have h3 := gl (nx := aU) (l := x.fields) (k := q + 1 + 1) (eK _)
 unfold az
 omega
def dt (k : Int) (x : aC) : aC := ⟨decide ((k).tmod 3 = 0), k + 1, k + 1 + 1, mkL dZ bv (k + 1 + 1 + 1) x.instrs⟩
def bQ (k : Int) (x : aC) : Int := kL bv (k + 1 + 1 + 1) x.instrs
theorem iW {l : List aC} (h : ∀ y ∈ l, aC.small 1048576 y) : ∀ x ∈ l, ∀ q, q <= bQ q x /\ bQ q x <= q + (4194307 : Nat) := fun x hx q => by
 have h1 := h x hx
 have h2 := h1.1
 have h3 := gl (nx := bv) (l := x.instrs) (k := q + 1 + 1 + 1) (ja _)
 unfold bQ
 omega
section
variable {G : World -> Prop}
theorem ml (hst : ay G) (s b : Nat) (l : List ByteArray) (k : Int) (hn : l.length <= 1099600000000) (hk : 0 <= k /\ k <= 1000000000000000) : CtM Tryz.prog G 18 [.ms s b 0 l.length, .int .i64 k] [(s, b, .row 1 (bK (l)))] (fun _ : Unit => True) (fun _ => [(s, b, .row 1 (bK (mkL cE aU k l)))]) (fun _ => .int .i64 (kL aU k l)) := by
 refine aw Tryz.func18 rfl Tryz.ntmps18 rfl rfl rfl fun w0 R gs objsR hG hR => ?_
 obtain rfl := hR.inv1
 clear hR
 repeat' refine W_ ?_
 apply am (X := Nat) [0, 1000000] (fun x => [(5, .int .i64 (x : Int)), (1, .int .i64 (kL aU k (l.take x)))]) (fun x => (s, b, .row 1 (bK (ptL cE aU k l x))) :: R) (fun x => x <= l.length) (fun x => l.length - x) 0 (Nat.zero_le _)
 exact kp_; exact nw_
 ·exact .refl _
 intro i hi
 try dsimp only
 have hq := aS (k := k) (i := i) hn (eK l) hi
 by_cases hlt : i < l.length
 ·have hrow : (bK (ptL cE aU k l i))[i]? = some ((fun s : ByteArray => [TV.str s]) l[i]) := by
    simp only [bK, List.getElem?_map, dU hlt]; rfl
  have hset : (bK (ptL cE aU k l i)).set i ((fun s : ByteArray => [TV.str s]) (cE (kL aU k (l.take i)) l[i])) = bK (ptL cE aU k l (i + 1)) := by
    rw [<- fE hlt, abc]
  have hks := cF (nx := aU) (k := k) hlt
  have hrl : (bK (ptL cE aU k l i)).length = l.length := by simp [bK, de hi]
  generalize bK (ptL cE aU k l i) = rows at hrow hset hrl |-
  generalize kL aU k (l.take i) = q at hq hset hks |-
  generalize l[i] = x at hrow hset hks
  replace hrow : rows[i]? = some [.str x] := hrow
  have hks2 : kL aU k (l.take (i + 1)) = q + 1 := hks
  repeat' (first | refine W_ ?_ | refine bm ?_ | ((with_reducible apply lO); rfl; kernel_rfl; (repeat (first | exact bS.nil | ((with_reducible apply bS.cons); rfl; exact .same _))); exact hG; exact hst; exact bO _ (by omega) (by omega)))
  refine ag (i + 1) (by omega) (by omega) (.of _ (cD.envCons rfl (cD.envCons (dx rfl (by rw [hks2])) cD.envNil)) od_ ?_)
  rw [<- hset]
  (try simp only [List.set_set])
  exact .refl _
 ·obtain rfl : i = l.length := by omega
  rw [ef, List.take_length]
  repeat' refine W_ ?_
  exact av x_ rfl () trivial rfl (.cons _ _ _ _ (.nil R)) pk_ (.tmp _ _ rfl) rfl
theorem iS (hst : ay G) (s b : Nat) (l : List ByteArray) (k : Int) (hn : l.length <= 1048576) (hk : 0 <= k /\ k <= 1000000000000000) : CtM Tryz.prog G 18 [.ms s b 0 l.length, .int .i64 k] [(s, b, .row 1 (bK (l)))] (fun _ : Unit => True) (fun _ => [(s, b, .row 1 (bK (mkL cE aU k l)))]) (fun _ => .int .i64 (kL aU k l)) := ml hst s b l k (by omega) hk
theorem oX (hst : ay G) (s b : Nat) (l : List ai) (k : Int) (hn : l.length <= 1048576) (hk : 0 <= k /\ k <= 1000000000000000) : CtM Tryz.prog G 213 [.ms s b 0 l.length, .int .i64 k] [(s, b, .row 4 ((l).map (ai.tw 0)))] (fun _ : Unit => True) (fun _ => [(s, b, .row 4 ((mkL dZ bv k l).map (ai.tw 0)))]) (fun _ => .int .i64 (kL bv k l)) := by
 refine aw Tryz.func213 rfl Tryz.ntmps213 rfl rfl rfl fun w0 R gs objsR hG hR => ?_
 obtain rfl := hR.inv1
 clear hR
 repeat' refine W_ ?_
 apply am (X := Nat) [0, 1000000] (fun x => [(5, .int .i64 (x : Int)), (1, .int .i64 (kL bv k (l.take x)))]) (fun x => (s, b, .row 4 ((ptL dZ bv k l x).map (ai.tw 0))) :: R) (fun x => x <= l.length) (fun x => l.length - x) 0 (Nat.zero_le _)
 exact kp_; exact nw_
 ·exact .refl _
 intro i hi
 try dsimp only
 have hq := aS (k := k) (i := i) hn (ja l) hi
 by_cases hlt : i < l.length
 ·have hrow : ((ptL dZ bv k l i).map (ai.tw 0))[i]? = some ((ai.tw 0) l[i]) := by
    simp only [bK, List.getElem?_map, dU hlt]; rfl
  have hset : ((ptL dZ bv k l i).map (ai.tw 0)).set i ((ai.tw 0) (dZ (kL bv k (l.take i)) l[i])) = (ptL dZ bv k l (i + 1)).map (ai.tw 0) := by
    rw [<- fE hlt, List.map_set]
  have hks := cF (nx := bv) (k := k) hlt
  have hrl : ((ptL dZ bv k l i).map (ai.tw 0)).length = l.length := by simp [bK, de hi]
  generalize (ptL dZ bv k l i).map (ai.tw 0) = rows at hrow hset hrl |-
  generalize kL bv k (l.take i) = q at hq hset hks |-
  generalize l[i] = x at hrow hset hks
  replace hrow : rows[i]? = some [.int .i64 x.op, .int .i64 x.a, .int .i64 x.b, .str x.text] := hrow
  have hr1 : (rows.set i [.int .i64 q, .int .i64 x.a, .int .i64 x.b, .str x.text])[i]? = some [.int .i64 q, .int .i64 x.a, .int .i64 x.b, .str x.text] := by rw [List.getElem?_set_self (by omega)]
  have hks2 : kL bv k (l.take (i + 1)) = q + 1 + 1 + 1 + 1 := hks
  repeat' (first | refine W_ ?_ | refine bm ?_ | ((with_reducible apply lO); rfl; kernel_rfl; (repeat (first | exact bS.nil | ((with_reducible apply bS.cons); rfl; exact .same _))); exact hG; exact hst; exact bO _ (by omega) (by omega)))
  refine ag (i + 1) (by omega) (by omega) (.of _ (cD.envCons rfl (cD.envCons (dx rfl (by rw [hks2])) cD.envNil)) od_ ?_)
  rw [<- hset]
  (try simp only [List.set_set])
  exact .refl _
 ·obtain rfl : i = l.length := by omega
  rw [ef, List.take_length]
  repeat' refine W_ ?_
  exact av x_ rfl () trivial rfl (.cons _ _ _ _ (.nil R)) pk_ (.tmp _ _ rfl) rfl
theorem oY (hst : ay G) (s b : Nat) (l : List aB) (k : Int) (hn : l.length <= 1048576) (hk : 0 <= k /\ k <= 1000000000000000) : CtM Tryz.prog G 137 [.ms s b 0 l.length, .int .i64 k] [(s, b, .row 4 ((l).map (aB.tw 0)))] (fun _ : Unit => True) (fun _ => [(s, b, .row 4 ((mkL en bF k l).map (aB.tw 0)))]) (fun _ => .int .i64 (kL bF k l)) := by
 refine aw Tryz.func137 rfl Tryz.ntmps137 rfl rfl rfl fun w0 R gs objsR hG hR => ?_
 obtain rfl := hR.inv1
 clear hR
 repeat' refine W_ ?_
 apply am (X := Nat) [0, 1000000] (fun x => [(5, .int .i64 (x : Int)), (1, .int .i64 (kL bF k (l.take x)))]) (fun x => (s, b, .row 4 ((ptL en bF k l x).map (aB.tw 0))) :: R) (fun x => x <= l.length) (fun x => l.length - x) 0 (Nat.zero_le _)
 exact kp_; exact nw_
 ·exact .refl _
 intro i hi
 try dsimp only
 have hq := aS (k := k) (i := i) hn (jm l) hi
 by_cases hlt : i < l.length
 ·have hrow : ((ptL en bF k l i).map (aB.tw 0))[i]? = some ((aB.tw 0) l[i]) := by
    simp only [bK, List.getElem?_map, dU hlt]; rfl
  have hset : ((ptL en bF k l i).map (aB.tw 0)).set i ((aB.tw 0) (en (kL bF k (l.take i)) l[i])) = (ptL en bF k l (i + 1)).map (aB.tw 0) := by
    rw [<- fE hlt, List.map_set]
  have hks := cF (nx := bF) (k := k) hlt
  have hrl : ((ptL en bF k l i).map (aB.tw 0)).length = l.length := by simp [bK, de hi]
  generalize (ptL en bF k l i).map (aB.tw 0) = rows at hrow hset hrl |-
  generalize kL bF k (l.take i) = q at hq hset hks |-
  generalize l[i] = x at hrow hset hks
  replace hrow : rows[i]? = some [.int .i64 x.owner, .bool x.class_, .str x.selector, .int .i64 x.code] := hrow
  have hr1 : (rows.set i [.int .i64 q, .bool x.class_, .str x.selector, .int .i64 x.code])[i]? = some [.int .i64 q, .bool x.class_, .str x.selector, .int .i64 x.code] := by rw [List.getElem?_set_self (by omega)]
  have hks2 : kL bF k (l.take (i + 1)) = q + 1 + 1 + 1 + 1 := hks
  repeat' (first | refine W_ ?_ | refine bm ?_ | ((with_reducible apply lO); rfl; kernel_rfl; (repeat (first | exact bS.nil | ((with_reducible apply bS.cons); rfl; exact .same _))); exact hG; exact hst; exact bO _ (by omega) (by omega)))
  refine ag (i + 1) (by omega) (by omega) (.of _ (cD.envCons rfl (cD.envCons (dx rfl (by rw [hks2])) cD.envNil)) od_ ?_)
  rw [<- hset]
  (try simp only [List.set_set])
  exact .refl _
 ·obtain rfl : i = l.length := by omega
  rw [ef, List.take_length]
  repeat' refine W_ ?_
  exact av x_ rfl () trivial rfl (.cons _ _ _ _ (.nil R)) pk_ (.tmp _ _ rfl) rfl
theorem f7 (hst : ay G) (s b : Nat) (l : List aa) (ps : List (Nat × Nat)) (hps : ps.length = l.length) (k : Int) (hn : l.length <= 1048576 /\ ∀ y ∈ l, aa.small 1048576 y) (hk : 0 <= k /\ k <= 100000000000000) :
   CtM Tryz.prog G 135 [.ms s b 0 l.length, .int .i64 k] ((s, b, .row 3 (nR eD l ps)) :: nO fD l ps) (fun _ : Unit => True) (fun _ => (s, b, .row 3 (nR eD (mkL aV az k l) ps)) :: nO fD (mkL aV az k l) ps) (fun _ => .int .i64 (kL az k l)) := by
 refine aw Tryz.func135 rfl Tryz.ntmps135 rfl rfl rfl fun w0 R gs objsR hG hR => ?_
 obtain rfl := hR.eq
 clear hR
 obtain ⟨hn, hsm⟩ := hn
 repeat' refine W_ ?_
 apply am (X := Nat) [0, 1000000] (fun x => [(5, .int .i64 (x : Int)), (1, .int .i64 (kL az k (l.take x)))]) (fun x => (s, b, .row 3 (nR eD (ptL aV az k l x) ps)) :: (nO fD (ptL aV az k l x) ps ++ R)) (fun x => x <= l.length) (fun x => l.length - x) 0 (Nat.zero_le _)
 exact kp_; exact nw_
 ·exact .refl _
 intro i hi
 try dsimp only
 have hq := aS (k := k) (i := i) hn (cn hsm) hi
 by_cases hlt : i < l.length
 ·obtain ⟨p, hp⟩ : ∃ p, ps[i]? = some p := ⟨_, List.getElem?_eq_getElem (by omega)⟩
  have hpl : i < (ptL aV az k l i).length := by rw [de hi]; exact hlt
  have hrow := wc eD (dU (mk := aV) (nx := az) (k := k) hlt) hp
  have hset := act eD (l := ptL aV az k l i) (x := aV (kL az k (l.take i)) l[i]) hp
  have hout := aaR fD (dU (mk := aV) (nx := az) (k := k) hlt) hp
  have hin := aeo fD (x := aV (kL az k (l.take i)) l[i]) hpl hp
  rw [fE hlt] at hset hin
  have hks := cF (nx := az) (k := k) hlt
  have hrl : (nR eD (ptL aV az k l i) ps).length = l.length := by rw [lG _ (by rw [de hi]; exact hps), de hi]
  have hb := hsm _ (List.getElem_mem hlt)
  generalize (nO fD (ptL aV az k l i) ps).eraseIdx i = E at hout hin
  generalize nO fD (ptL aV az k l i) ps = N0 at hout |-
  generalize nR eD (ptL aV az k l i) ps = rows at hrow hset hrl |-
  generalize kL az k (l.take i) = q at hq hset hks hin |-
  generalize l[i] = x at hrow hset hks hout hin hb
  replace hrow : rows[i]? = some [.str x.name, .int .i64 x.parent, .ms p.1 p.2 0 x.fields.length] := hrow
  have hr1 : (rows.set i [.str (dB (q)), .int .i64 x.parent, .ms p.1 p.2 0 x.fields.length])[i]? = some [.str (dB (q)), .int .i64 x.parent, .ms p.1 p.2 0 x.fields.length] := by rw [List.getElem?_set_self (by omega)]
  have hct := iS hst p.1 p.2 x.fields (q + 1 + 1) hb.2.1 (by omega)
  repeat' (first | refine W_ ?_ | refine bm ?_ | ((with_reducible apply lO); rfl; kernel_rfl; (repeat (first | exact bS.nil | ((with_reducible apply bS.cons); rfl; exact .same _))); exact hG; exact hst; exact bO _ (by omega) (by omega)))
  refine lh (xm hout R) ?_
  repeat' (first | refine W_ ?_ | ((with_reducible apply aG); rfl; kernel_rfl; (repeat (first | exact aE.nil | ((with_reducible apply aE.cons); rfl))); exact hG; exact hct; exact .cons _ _ _ _ (.nil _); intro y hy; refine bE ?_))
  refine ag (i + 1) (by omega) (by omega) (.of _ (cD.envCons rfl (cD.envCons (dx rfl (by rw [hks]; rfl)) cD.envNil)) od_ ?_)
  rw [hset]
  simp only [List.set_set]
  have hcl : eD (aV q x) p = [.str (dB (q)), .int .i64 (q + 1), .ms p.1 p.2 0 x.fields.length] := by
    unfold eD aV
    dsimp only
    rw [bU]
  rw [hcl]
  exact zJ hin R
 ·obtain rfl : i = l.length := by omega
  rw [ef, List.take_length]
  repeat' refine W_ ?_
  exact av x_ rfl () trivial rfl (.cons _ _ _ _ (.app _ R)) (.refl _) (.tmp _ _ rfl) rfl
theorem qM (hst : ay G) (s b : Nat) (l : List aC) (ps : List (Nat × Nat)) (hps : ps.length = l.length) (k : Int) (hn : l.length <= 1048576 /\ ∀ y ∈ l, aC.small 1048576 y) (hk : 0 <= k /\ k <= 100000000000000) :
   CtM Tryz.prog G 136 [.ms s b 0 l.length, .int .i64 k] ((s, b, .row 4 (nR cN l ps)) :: nO dN l ps) (fun _ : Unit => True) (fun _ => (s, b, .row 4 (nR cN (mkL dt bQ k l) ps)) :: nO dN (mkL dt bQ k l) ps) (fun _ => .int .i64 (kL bQ k l)) := by
 refine aw Tryz.func136 rfl Tryz.ntmps136 rfl rfl rfl fun w0 R gs objsR hG hR => ?_
 obtain rfl := hR.eq
 clear hR
 obtain ⟨hn, hsm⟩ := hn
 repeat' refine W_ ?_
 apply am (X := Nat) [0, 1000000] (fun x => [(5, .int .i64 (x : Int)), (1, .int .i64 (kL bQ k (l.take x)))]) (fun x => (s, b, .row 4 (nR cN (ptL dt bQ k l x) ps)) :: (nO dN (ptL dt bQ k l x) ps ++ R)) (fun x => x <= l.length) (fun x => l.length - x) 0 (Nat.zero_le _)
 exact kp_; exact nw_
 ·exact .refl _
 intro i hi
 try dsimp only
 have hq := aS (k := k) (i := i) hn (iW hsm) hi
 by_cases hlt : i < l.length
 ·obtain ⟨p, hp⟩ : ∃ p, ps[i]? = some p := ⟨_, List.getElem?_eq_getElem (by omega)⟩
  have hpl : i < (ptL dt bQ k l i).length := by rw [de hi]; exact hlt
  have hrow := wc cN (dU (mk := dt) (nx := bQ) (k := k) hlt) hp
  have hset := act cN (l := ptL dt bQ k l i) (x := dt (kL bQ k (l.take i)) l[i]) hp
  have hout := aaR dN (dU (mk := dt) (nx := bQ) (k := k) hlt) hp
  have hin := aeo dN (x := dt (kL bQ k (l.take i)) l[i]) hpl hp
  rw [fE hlt] at hset hin
  have hks := cF (nx := bQ) (k := k) hlt
  have hrl : (nR cN (ptL dt bQ k l i) ps).length = l.length := by rw [lG _ (by rw [de hi]; exact hps), de hi]
  have hb := hsm _ (List.getElem_mem hlt)
  generalize (nO dN (ptL dt bQ k l i) ps).eraseIdx i = E at hout hin
  generalize nO dN (ptL dt bQ k l i) ps = N0 at hout |-
  generalize nR cN (ptL dt bQ k l i) ps = rows at hrow hset hrl |-
  generalize kL bQ k (l.take i) = q at hq hset hks hin |-
  generalize l[i] = x at hrow hset hks hout hin hb
  replace hrow : rows[i]? = some [.bool x.block, .int .i64 x.params, .int .i64 x.slots, .ms p.1 p.2 0 x.instrs.length] := hrow
  have hr1 : (rows.set i [.bool (decide ((q).tmod 3 = 0)), .int .i64 x.params, .int .i64 x.slots, .ms p.1 p.2 0 x.instrs.length])[i]? = some [.bool (decide ((q).tmod 3 = 0)), .int .i64 x.params, .int .i64 x.slots, .ms p.1 p.2 0 x.instrs.length] := by rw [List.getElem?_set_self (by omega)]
  have hct := oX hst p.1 p.2 x.instrs (q + 1 + 1 + 1) hb.1 (by omega)
  repeat' (first | refine W_ ?_ | refine bm ?_)
  refine lh (xm hout R) ?_
  repeat' (first | refine W_ ?_ | ((with_reducible apply aG); rfl; kernel_rfl; (repeat (first | exact aE.nil | ((with_reducible apply aE.cons); rfl))); exact hG; exact hct; exact .cons _ _ _ _ (.nil _); intro y hy; refine bE ?_))
  refine ag (i + 1) (by omega) (by omega) (.of _ (cD.envCons rfl (cD.envCons (dx rfl (by rw [hks]; rfl)) cD.envNil)) od_ ?_)
  rw [hset]
  simp only [List.set_set]
  have hcl : cN (dt q x) p = [.bool (decide ((q).tmod 3 = 0)), .int .i64 (q + 1), .int .i64 (q + 1 + 1), .ms p.1 p.2 0 x.instrs.length] := by
    unfold cN dt
    dsimp only
    rw [bU]
  rw [hcl]
  exact zJ hin R
 ·obtain rfl : i = l.length := by omega
  rw [ef, List.take_length]
  repeat' refine W_ ?_
  exact av x_ rfl () trivial rfl (.cons _ _ _ _ (.app _ R)) (.refl _) (.tmp _ _ rfl) rfl
end
def mF (l : List aa) (y : (Nat × Nat) × List (Nat × Nat)) : aF := (y.1.1, y.1.2, .row 3 (nR eD l y.2)) :: nO fD l y.2
def aeP (l : List aC) (y : (Nat × Nat) × List (Nat × Nat)) : aF := (y.1.1, y.1.2, .row 4 (nR cN l y.2)) :: nO dN l y.2
def z6 (l : List aB) (y : Nat × Nat) : aF := [(y.1, y.2, .row 4 (l.map (aB.tw 0)))]
def CbP : Type := ((Nat × Nat) × List (Nat × Nat)) × ((Nat × Nat) × List (Nat × Nat)) × (Nat × Nat)
def cbO (x : aD) (y : CbP) : aF := mF x.classes y.1 ++ (aeP x.codes y.2.1 ++ z6 x.entries y.2.2)
def cbC (x : aD) (y : CbP) : List TV := [.ms y.1.1.1 y.1.1.2 0 x.classes.length, .ms y.2.1.1.1 y.2.1.1.2 0 x.codes.length, .ms y.2.2.1 y.2.2.2 0 x.entries.length, .int .i64 x.main]
def cbI (x : aD) (y : CbP) : Prop := y.1.2.length = x.classes.length /\ y.2.1.2.length = x.codes.length
theorem iE (A : aF) (x z : Nat × Nat × aZ) (R : aF) : cj (x :: z :: (A ++ R)) (A ++ (x :: z :: R)) := .perm (by
 have h1 : (A ++ (x :: z :: R)).Perm (x :: (A ++ (z :: R))) := List.perm_middle
 have h2 : (A ++ (z :: R)).Perm (z :: (A ++ R)) := List.perm_middle
 exact (h1.trans (h2.cons x)).symm)
theorem vm (A B C R : aF) : ((A ++ (B ++ C)) ++ R).Perm (C ++ (B ++ (A ++ R))) := by
 have h1 : (A ++ (B ++ C)).Perm (C ++ (B ++ A)) := by
   have : (A ++ (B ++ C)).Perm ((B ++ C) ++ A) := List.perm_append_comm
   refine this.trans ?_
   have h2 : ((B ++ C) ++ A).Perm ((C ++ B) ++ A) := (List.perm_append_comm).append_right A
   rw [List.append_assoc] at h2
   rw [List.append_assoc] at h2 |-
   exact h2
 have h3 := h1.append_right R
 simpa [List.append_assoc] using h3
theorem qW (A B C R : aF) : cj (C ++ (A ++ (B ++ R))) (B ++ (A ++ (C ++ R))) := .perm (by
 have h1 : (C ++ (A ++ B)).Perm (B ++ (A ++ C)) := by
   have h := (vm C A B [])
   simpa using h
 simpa [List.append_assoc] using h1.append_right R)
theorem qa (A B C R : aF) : cj (A ++ (B ++ (C ++ R))) (C ++ (A ++ (B ++ R))) := .perm (by
 have h1 : (A ++ (B ++ C)).Perm (C ++ (A ++ B)) := by
   rw [<- List.append_assoc]
   exact List.perm_append_comm
 simpa [List.append_assoc] using h1.append_right R)
section
variable {G : World -> Prop}
theorem oV (hst : ay G) (lo : Nat) (x : aD) (hb : x.small 1048576) : CtM Tryz.prog G 39 [.agg (x.tw lo)] [] (cbI x) (cbO x) (fun y => .agg (cbC x y)) := by
 refine aw Tryz.func39 rfl Tryz.ntmps39 rfl rfl rfl fun w0 R gs objsR hG hR => ?_
 obtain rfl := hR.inv0
 clear hR
 have c1 := ik hst lo x.classes hb.1
 have c2 := vG hst lo x.codes hb.2.1
 have c3 := uh hst lo x.entries hb.2.2
 unfold aD.tw
 repeat' (first | refine W_ ?_ | refine aH ?_ | (refine ak ?_; intro ss bb) | refine ac ?_ | ((with_reducible apply aG); rfl; kernel_rfl; (repeat (first | exact aE.nil | ((with_reducible apply aE.cons); rfl))); exact hG; (first | exact c1 | exact c2 | exact c3); exact .nil _; intro y hy; refine cL (iE _ _ _ _) ?_))
 rename_i yc hyc yd hyd
 refine av (t1 := .agg [.ms yc.1.1 yc.1.2 0 x.classes.length, .ms yd.1.1 yd.1.2 0 x.codes.length, .ms y.1 y.2 0 x.entries.length, .int .i64 x.main]) x_ rfl (yc, yd, y) ⟨hyc, hyd⟩ rfl (.app _ R) (.drop (.drop (.perm (vm _ _ _ R)))) (.cell _ _ _ _ _ rfl mm_ (by kernel_rfl) (by kernel_rfl) (by kernel_rfl)) rfl
def cG (k : Int) (x : aD) : aD := ⟨mkL aV az k x.classes, mkL dt bQ (kL az k x.classes) x.codes, mkL en bF (kL bQ (kL az k x.classes) x.codes) x.entries, x.main⟩
def aW (k : Int) (x : aD) : Int := kL bF (kL bQ (kL az k x.classes) x.codes) x.entries
theorem gL {x : aD} (hb : x.small 1048576) (k : Int) : k <= aW k x /\ aW k x <= k + 6000000000000 := by
 have h1 := aS (k := k) (i := x.classes.length) hb.1.1 (cn hb.1.2) (Nat.le_refl _)
 have h2 := aS (k := kL az k x.classes) (i := x.codes.length) hb.2.1.1 (iW hb.2.1.2) (Nat.le_refl _)
 have h3 := aS (k := kL bQ (kL az k x.classes) x.codes) (i := x.entries.length) hb.2.2.1 (jm x.entries) (Nat.le_refl _)
 rw [List.take_length] at h1 h2 h3
 unfold aW
 omega
theorem mg (hst : ay G) (x : aD) (y : CbP) (hy : cbI x y) (hb : x.small 1048576) (k : Int) (hk : 0 <= k /\ k <= 50000000000000) :
   CtM Tryz.prog G 60 [.agg (cbC x y), .int .i64 k] (cbO x y) (fun _ : Unit => True) (fun _ => cbO (cG k x) y) (fun _ => .int .i64 (aW k x)) := by
 refine aw Tryz.func60 rfl Tryz.ntmps60 rfl rfl rfl fun w0 R gs objsR hG hR => ?_
 obtain rfl := hR.eq
 clear hR
 have h1 := aS (k := k) (i := x.classes.length) hb.1.1 (cn hb.1.2) (Nat.le_refl _)
 have h2 := aS (k := kL az k x.classes) (i := x.codes.length) hb.2.1.1 (iW hb.2.1.2) (Nat.le_refl _)
 rw [List.take_length] at h1 h2
 have c1 := f7 hst y.1.1.1 y.1.1.2 x.classes y.1.2 hy.1 k hb.1 (by omega)
 have c2 := qM hst y.2.1.1.1 y.2.1.1.2 x.codes y.2.1.2 hy.2 (kL az k x.classes) hb.2.1 (by omega)
 have c3 := oY hst y.2.2.1 y.2.2.2 x.entries (kL bQ (kL az k x.classes) x.codes) hb.2.2.1 (by omega)
 have e0 : cbO x y ++ R = mF x.classes y.1 ++ (aeP x.codes y.2.1 ++ (z6 x.entries y.2.2 ++ R)) := by unfold cbO; simp [List.append_assoc]
 have e1 : cbO (cG k x) y ++ R = mF (cG k x).classes y.1 ++ (aeP (cG k x).codes y.2.1 ++ (z6 (cG k x).entries y.2.2 ++ R)) := by unfold cbO; simp [List.append_assoc]
 rw [e0]
 unfold cbC
 repeat' (first | refine W_ ?_ | refine aH ?_ | ((with_reducible apply aG); rfl; kernel_rfl; (repeat (first | exact aE.nil | ((with_reducible apply aE.cons); rfl))); exact hG; exact c1; exact .app _ _; intro z hz; refine cL (re _ _ _) ?_) | ((with_reducible apply aG); rfl; kernel_rfl; (repeat (first | exact aE.nil | ((with_reducible apply aE.cons); rfl))); exact hG; exact c2; exact .app _ _; intro z hz; refine cL (qW _ _ _ _) ?_) | ((with_reducible apply aG); rfl; kernel_rfl; (repeat (first | exact aE.nil | ((with_reducible apply aE.cons); rfl))); exact hG; exact c3; exact .app _ _; intro z hz))
 refine av x_ rfl () trivial rfl (.app _ R) ?_ (.tmp _ _ rfl) rfl
 rw [e1]
 exact qa _ _ _ R
end
theorem rL {α : Type} (mk : α -> Nat × Nat -> List TV) {l : List α} {ps : List (Nat × Nat)} {i : Nat} (h : i < l.length) (hp : ps.length = i) (p : Nat × Nat) : nR mk (l.take i) ps ++ [mk l[i] p] = nR mk (l.take (i + 1)) (ps ++ [p]) := by
 unfold nR
 rw [dF h, List.zipWith_append (by rw [List.length_take]; omega)]; rfl
section
variable {G : World -> Prop}
theorem iC (hst : ay G) (lo : Nat) (l : List aa) (hb : l.length <= 1048576 /\ ∀ y ∈ l, aa.small 1048576 y) : CtM Tryz.prog G 207 [.sl lo 3 (l.map (aa.tw lo))] [] (fun y : (Nat × Nat) × List (Nat × Nat) => y.2.length = l.length) (fun y => (y.1.1, y.1.2, .row 3 (nR eD l y.2)) :: nO fD l y.2) (fun y => .ms y.1.1 y.1.2 0 l.length) := by
 refine aw Tryz.func207 rfl Tryz.ntmps207 rfl rfl rfl fun w0 R gs objsR hG hR => ?_
 obtain rfl := hR.inv0
 clear hR
 have hlen := aa.len lo l
 have hl1 := hb.1
 repeat' (first | refine W_ ?_ | (refine iK ?_; intro ss bb))
 generalize ss = so; generalize bb = bo
 apply am (X := Nat × Nat × List (Nat × Nat)) [7, 8, 1000000] (fun x => [(9, .int .i64 (x.1 : Int)), (3, .ms so x.2.1 0 x.1)]) (fun x => (so, x.2.1, .row 3 (nR eD (l.take x.1) x.2.2)) :: (nO fD (l.take x.1) x.2.2 ++ R)) (fun x => x.1 <= l.length /\ x.2.2.length = x.1) (fun x => l.length - x.1) (0, bo, []) ⟨Nat.zero_le _, rfl⟩
 exact kp_; exact nw_
 ·exact .refl _
 rintro ⟨i, bo, ps⟩ ⟨hi, hps⟩
 dsimp only at hi hps |-
 by_cases hlt : i < l.length
 ·have hrs := fun p => rL eD hlt hps p
  have hos := fun p => lc fD hlt hps p
  have hra : (l.map (aa.tw lo))[i]? = some (l[i].tw lo) := aI hlt
  have hrl : (nR eD (l.take i) ps).length = i := by rw [lG _ (by rw [List.length_take]; omega), List.length_take]; omega
  have hbi := hb.2 _ (List.getElem_mem hlt)
  generalize l[i] = x at hrs hos hra hbi
  rw [show x.tw lo = [.str x.name, .int .i64 x.parent, .sl lo 1 (bK x.fields)] from rfl] at hra
  have hsl := bP x.fields
  have hf := hbi.2.1
  generalize nO fD (l.take i) ps = T at hos |-
  repeat' (first | refine W_ ?_ | (refine ak ?_; intro ss bb) | refine ac ?_ | ((with_reducible apply mo (n := 0)); rfl; rfl; kernel_rfl; kernel_rfl; rfl; kernel_rfl; rfl; rfl; rfl; rfl; intro ss bb) | refine dA ?_ | ((with_reducible apply dL); rfl; rfl; rfl; kernel_rfl; (repeat (first | with_reducible exact mh | with_reducible refine mt ?_)); (first | with_reducible assumption | exact bytR_length _ | exact aj _ | exact strR_length _ | exact List.length_map _ | assumption | rfl); omega; (intro bq; (repeat (first | with_reducible exact Upd.head _ | with_reducible apply Upd.tail))); intro bb) | ((with_reducible apply dP); rfl; rfl; rfl; kernel_rfl; (repeat (first | with_reducible exact mh | with_reducible refine mt ?_)); exact hrl; (first | (show List.length _ = 1; rfl) | (show List.length _ = 2; rfl) | (show List.length _ = 0; rfl) | (show List.length _ = 3; rfl) | (first | with_reducible assumption | exact bytR_length _ | exact aj _ | exact strR_length _ | exact List.length_map _ | assumption | rfl)); omega; exact hrs (_, _); (intro bq; (repeat (first | with_reducible exact Upd.head _ | with_reducible apply Upd.tail))); intro bb))
  rename_i s5 b5 _ bx
  generalize ss = sx
  refine nB (objs' := (sx, bx, .row 1 (bK x.fields)) :: (so, bb, .row 3 (nR eD (l.take (i + 1)) (ps ++ [(sx, bx)]))) :: (T ++ R)) pk_ ?_
  refine ag (i + 1, bb, ps ++ [(sx, bx)]) ⟨by dsimp only; omega, by dsimp only; simp [hps]⟩ (by dsimp only; omega) (.of _ nw_ od_ ?_)
  dsimp only
  rw [hos (sx, bx)]
  exact j6 _ _ T R
 ·obtain rfl : i = l.length := by omega
  rw [List.take_of_length_le (Nat.le_refl _)]
  repeat' refine W_ ?_
  exact av x_ rfl ((so, bo), ps) hps rfl (.cons _ _ _ _ (.app _ R)) (.refl _) (.tmp _ _ rfl) rfl
end
theorem rK {α β γ : Type} {f : α -> β -> γ} {l : List α} {ps : List β} {z : γ} (h : z ∈ List.zipWith f l ps) : ∃ x p, f x p = z /\ ∀ {δ : Type} (g : α -> β -> δ), g x p ∈ List.zipWith g l ps := by
 induction l generalizing ps with
 | nil => simp at h
 | cons a l ih =>
   cases ps with
   | nil => simp at h
   | cons q ps =>
     rw [List.zipWith_cons_cons, List.mem_cons] at h
     rcases h with rfl | h
     ·exact ⟨a, q, rfl, fun g => by rw [List.zipWith_cons_cons]; exact List.mem_cons_self⟩
     ·obtain ⟨x, p, h1, h2⟩ := ih h
      exact ⟨x, p, h1, fun g => by rw [List.zipWith_cons_cons]; exact List.mem_cons_of_mem _ (h2 g)⟩
theorem hH {α : Type} {mk : α -> Nat × Nat -> List TV} {ob : α -> aZ} {m s b n : Nat} (hmk : ∀ x p objs, (p.1, p.2, ob x) ∈ objs -> ∀ t ∈ mk x p, dy objs t) (hob : ∀ x objs, co objs (ob x)) (l : List α) (ps : List (Nat × Nat)) :
   (∀ s' b' o, (s', b', o) ∈ (s, b, aZ.row m (nR mk l ps)) :: nO ob l ps -> co ((s, b, aZ.row m (nR mk l ps)) :: nO ob l ps) o) /\ dy ((s, b, aZ.row m (nR mk l ps)) :: nO ob l ps) (.ms s b 0 n) := by
 refine ⟨fun s' b' o h => ?_, .ms _ _ _ _ _ _ List.mem_cons_self⟩
 rcases List.mem_cons.1 h with h | h
 ·simp only [Prod.mk.injEq] at h
  obtain ⟨_, _, rfl⟩ := h
  intro t ht
  obtain ⟨r, hr, htr⟩ := List.mem_flatten.1 ht
  obtain ⟨x, p, rfl, hg⟩ := rK hr
  exact hmk x p _ (List.mem_cons_of_mem _ (hg fun x p => (p.1, p.2, ob x))) t htr
 ·obtain ⟨x, p, he, _⟩ := rK h
  simp only [Prod.mk.injEq] at he
  obtain ⟨_, _, rfl⟩ := he
  exact hob x _
theorem gp (x : aa) (p : Nat × Nat) (objs : aF) (h : (p.1, p.2, fD x) ∈ objs) : ∀ t ∈ eD x p, dy objs t := fun t ht => by
 simp only [eD, List.mem_cons, List.not_mem_nil, or_false] at ht
 rcases ht with rfl | rfl | rfl
 ·exact .flat _ rfl
 ·exact .flat _ rfl
 ·exact .ms _ _ _ _ _ _ h
theorem gu (x : aa) (objs : aF) : co objs (fD x) := eW (tJ _)
theorem yg (a b z : Nat × Nat × aZ) (T R : aF) : cj (a :: b :: ((T ++ [z]) ++ R)) (z :: a :: b :: (T ++ R)) := .perm (by
 have h : ((T ++ [z]) ++ R).Perm (z :: (T ++ R)) := by
   rw [List.append_assoc]
   exact List.perm_middle
 exact ((h.cons b).cons a).trans (((List.Perm.swap z b _).cons a).trans (List.Perm.swap z a _)))
theorem acX (a e z2 z3 : Nat × Nat × aZ) (C A R : aF) : cj (z2 :: z3 :: a :: (A ++ (e :: (C ++ R)))) (z3 :: a :: (A ++ (e :: (C ++ (z2 :: R))))) := .perm (by
 have h : ((z3 :: a :: A) ++ (e :: C) ++ z2 :: R).Perm (z2 :: ((z3 :: a :: A) ++ (e :: C) ++ R)) := List.perm_middle
 simpa using h.symm)
theorem ve (a e : Nat × Nat × aZ) (C A R : aF) : ((C ++ ((a :: A) ++ [e])) ++ R).Perm (a :: (A ++ (e :: (C ++ R)))) := by
 rw [List.append_assoc, List.append_assoc]
 refine (List.perm_append_comm_assoc C (a :: A) ([e] ++ R)).trans ?_
 exact List.Perm.append_left (a :: A) (List.perm_append_comm_assoc C [e] R)
section
variable {G : World -> Prop}
theorem mz (hst : ay G) (lo : Nat) (x : aD) (hb : x.small 1048576) : CtM Tryz.prog G 125 [.agg (x.tw lo)] [] (cbI x) (cbO x) (fun y => .agg (cbC x y)) := by
 refine aw Tryz.func125 rfl Tryz.ntmps125 rfl rfl rfl fun w0 R gs objsR hG hR => ?_
 obtain rfl := hR.inv0
 clear hR
 have c1 := iC hst lo x.classes hb.1
 have n1 := fun (y : (Nat × Nat) × List (Nat × Nat)) (_ : y.2.length = x.classes.length) => hH (m := 3) (s := y.1.1) (b := y.1.2) (n := x.classes.length) gp gu x.classes y.2
 have hel := aB.len lo x.entries
 have he1 := hb.2.2.1
 unfold aD.tw
 repeat' (first | refine W_ ?_ | refine aH ?_ | (refine ak ?_; intro ss bb) | ((with_reducible apply fl (id := 1) 11); kernel_rfl; kernel_rfl; kernel_rfl; rfl; (repeat (first | exact Cut.zero _ | apply Cut.succ))) | ((with_reducible apply m_q); exact ym_; rfl; exact i8) | ((with_reducible apply ei); rfl; (intro p; try dsimp only); (repeat (first | exact TB.nil _ | ((with_reducible apply TB.cons); rfl; rfl; (first | exact .nil _ | exact .put _ _ _ _ _ (.nil _) | exact .skip _ _ _ _ _ (.put _ _ _ _ _ (.nil _)) | exact .skip _ _ _ _ _ (.skip _ _ _ _ _ (.put _ _ _ _ _ (.nil _))) | (repeat (first | exact .nil _ | apply bw.put | apply bw.skip))); kernel_rfl))); rfl; kernel_rfl; kernel_rfl; exact i8) | ((with_reducible apply jS); rfl; rfl; kernel_rfl) | ((with_reducible apply tI); (intro p; rfl); rfl; kernel_rfl; kernel_rfl; rfl; kernel_rfl; rfl; rfl; rfl; rfl) | ((with_reducible apply lL); (intro p; rfl); (intro p; rfl); rfl; kernel_rfl; (intro p; rfl); (first | with_reducible assumption | exact bytR_length _ | exact aj _ | exact strR_length _ | exact List.length_map _ | assumption | rfl); omega; exact ⟨by decide, ah_⟩; rfl; (focus (simp; done))) | ((with_reducible apply jw hG hst c1); rfl; kernel_rfl; (intro p; (repeat (first | exact bS.nil | ((with_reducible apply bS.cons); rfl; exact .same _)))); exact n1) | (with_reducible refine DM.nil _ _ _ ?_))
 generalize ss = s2; generalize bb = b2
 intro p hp
 simp only [List.forall_mem_cons] at hp
 obtain ⟨_, _, _, hI, _⟩ := hp
 refine dJ (objs' := ((p 10).a, (p 10).b, .box [.nils, .nils, .nils, .int .i64 0]) :: ((p 3).a, (p 6).b, .row 4 (x.entries.map (aB.tw lo))) :: (mF x.classes (Enc.dec (p 2)) ++ ((s2, b2, .box [.nils, .nils, .nils, .int .i64 0]) :: R))) (by rw [show gy _ = [_, _, _] from rfl]; simp only [List.flatMap_cons, List.flatMap_nil, List.append_nil, List.append_assoc, List.cons_append, List.nil_append]; rfl) ?_
 dsimp only [Nat.reduceAdd] at hI |-
 generalize (Enc.dec (p 2) : (Nat × Nat) × List (Nat × Nat)) = yc at hI |-
 generalize Yu.a (p 10) = s3
 generalize Yu.b (p 10) = b3
 generalize Yu.a (p 3) = se
 generalize Yu.b (p 6) = be
 have hcl := aC.len lo x.codes
 have hc1 := hb.2.1.1
 have hsm := hb.2.1.2
 repeat' (first | refine W_ ?_ | refine ac ?_)
 refine ny 1 4 (by decide) rfl fun sc => ?_
 obtain ⟨RR, hRR⟩ : ∃ RR : aF, RR = ((se, be, .row 4 (x.entries.map (aB.tw 0))) :: (mF x.classes yc ++ ((s2, b2, aZ.box [.nils, .nils, .nils, .int .i64 0]) :: R))) := ⟨_, rfl⟩
 refine bD (objs' := (s3, b3, .box [.ms yc.1.1 yc.1.2 0 x.classes.length, .ms sc 0 0 0, .ms se be 0 x.entries.length, .int .i64 x.main]) :: (sc, 0, .row 4 []) :: RR) (by rw [hRR]; exact .refl _) ?_
 apply am (X := Nat × Nat × List (Nat × Nat)) [2, 3, 17, 18, 1000000] (fun y => [(19, .int .i64 (y.1 : Int))])
   (fun y => (s3, b3, .box [.ms yc.1.1 yc.1.2 0 x.classes.length, .ms sc y.2.1 0 y.1, .ms se be 0 x.entries.length, .int .i64 x.main]) :: (sc, y.2.1, .row 4 (nR cN (x.codes.take y.1) y.2.2)) :: (nO dN (x.codes.take y.1) y.2.2 ++ RR))
   (fun y => y.1 <= x.codes.length /\ y.2.2.length = y.1) (fun y => x.codes.length - y.1) (0, 0, []) ⟨Nat.zero_le _, rfl⟩
 exact kp_; exact nw_
 ·exact .refl _
 rintro ⟨i, bc, ps⟩ ⟨hi, hps⟩
 dsimp only at hi hps |-
 by_cases hlt : i < x.codes.length
 ·have hrs := fun p => rL cN hlt hps p
  have hos := fun p => lc dN hlt hps p
  have hra : (x.codes.map (aC.tw lo))[i]? = some (x.codes[i].tw lo) := aI hlt
  have hrl : (nR cN (x.codes.take i) ps).length = i := by rw [lG _ (by rw [List.length_take]; omega), List.length_take]; omega
  have hbi := hsm _ (List.getElem_mem hlt)
  generalize x.codes[i] = c at hrs hos hra hbi
  have hil : c.instrs.length <= 1048576 := hbi.1
  rw [show c.tw lo = [.bool c.block, .int .i64 c.params, .int .i64 c.slots, .sl lo 4 (c.instrs.map (ai.tw lo))] from rfl] at hra
  generalize nO dN (x.codes.take i) ps = T at hos |-
  repeat' (first | refine W_ ?_ | (refine ak ?_; intro ss bb) | refine ac ?_ | ((with_reducible apply mo (n := 0)); rfl; rfl; kernel_rfl; kernel_rfl; rfl; kernel_rfl; rfl; rfl; rfl; rfl; intro ss bb) | refine dA ?_ | ((with_reducible apply dL); rfl; rfl; rfl; kernel_rfl; (repeat (first | with_reducible exact mh | with_reducible refine mt ?_)); (first | with_reducible assumption | exact bytR_length _ | exact aj _ | exact strR_length _ | exact List.length_map _ | assumption | rfl); omega; (intro bq; (repeat (first | with_reducible exact Upd.head _ | with_reducible apply Upd.tail))); intro bb) | ((with_reducible apply dP); rfl; rfl; rfl; kernel_rfl; (repeat (first | with_reducible exact mh | with_reducible refine mt ?_)); exact hrl; (first | (show List.length _ = 1; rfl) | (show List.length _ = 2; rfl) | (show List.length _ = 0; rfl) | (show List.length _ = 3; rfl) | (first | with_reducible assumption | exact bytR_length _ | exact aj _ | exact strR_length _ | exact List.length_map _ | assumption | rfl)); omega; exact hrs (_, _); (intro bq; (repeat (first | with_reducible exact Upd.head _ | with_reducible apply Upd.tail))); intro bb))
  rename_i s5 b5 _ bx
  generalize ss = sx
  refine nB (objs' := (sx, bx, .row 4 (c.instrs.map (ai.tw 0))) :: (s3, b3, .box [.ms yc.1.1 yc.1.2 0 x.classes.length, .ms sc bb 0 (i + 1), .ms se be 0 x.entries.length, .int .i64 x.main]) :: (sc, bb, .row 4 (nR cN (x.codes.take (i + 1)) (ps ++ [(sx, bx)]))) :: (T ++ RR)) pk_ ?_
  refine ag (i + 1, bb, ps ++ [(sx, bx)]) ⟨by dsimp only; omega, by dsimp only; simp [hps]⟩ (by dsimp only; omega) (.of _ nw_ od_ ?_)
  dsimp only
  rw [hos (sx, bx)]
  exact yg _ _ _ T RR
 ·obtain rfl : i = x.codes.length := by omega
  rw [List.take_of_length_le (Nat.le_refl _), hRR]
  refine bD (acX _ _ _ _ _ _ _) ?_
  repeat' (first | refine W_ ?_ | refine ac ?_)
  exact av (t1 := .agg [.ms yc.1.1 yc.1.2 0 x.classes.length, .ms sc bc 0 x.codes.length, .ms se be 0 x.entries.length, .int .i64 x.main]) x_ rfl (yc, ((sc, bc), ps), (se, be)) ⟨hI, hps⟩ rfl (.app _ R) (.drop (.drop (.perm (ve _ _ _ _ R)))) (.cell _ _ _ _ _ rfl mm_ (by kernel_rfl) (by kernel_rfl) (by kernel_rfl)) rfl
end
section
variable {G : World -> Prop}
theorem fX (hst : ay G) (lo : Nat) (l : List aa) (hb : l.length <= 1048576 /\ ∀ y ∈ l, aa.small 1048576 y) : CtM Tryz.prog G 199 [.sl lo 3 (l.map (aa.tw lo))] [] (fun y : (Nat × Nat) × List (Nat × Nat) => y.2.length = l.length) (fun y => (y.1.1, y.1.2, .row 3 (nR eD l y.2)) :: nO fD l y.2) (fun y => .ms y.1.1 y.1.2 0 l.length) := by
 refine aw Tryz.func199 rfl Tryz.ntmps199 rfl rfl rfl fun w0 R gs objsR hG hR => ?_
 obtain rfl := hR.inv0
 clear hR
 have hlen := aa.len lo l
 have hl1 := hb.1
 repeat' (first | refine W_ ?_ | (refine iK ?_; intro ss bb))
 generalize ss = so; generalize bb = bo
 apply am (X := Nat × Nat × List (Nat × Nat)) [0, 1000000] (fun x => [(4, .int .i64 (x.1 : Int)), (3, .ms so x.2.1 0 x.1)]) (fun x => (so, x.2.1, .row 3 (nR eD (l.take x.1) x.2.2)) :: (nO fD (l.take x.1) x.2.2 ++ R)) (fun x => x.1 <= l.length /\ x.2.2.length = x.1) (fun x => l.length - x.1) (0, bo, []) ⟨Nat.zero_le _, rfl⟩
 exact kp_; exact nw_
 ·exact .refl _
 rintro ⟨i, bo, ps⟩ ⟨hi, hps⟩
 dsimp only at hi hps |-
 by_cases hlt : i < l.length
 ·have hrs := fun p => rL eD hlt hps p
  have hos := fun p => lc fD hlt hps p
  have hra : (l.map (aa.tw lo))[i]? = some (l[i].tw lo) := aI hlt
  have hrl : (nR eD (l.take i) ps).length = i := by rw [lG _ (by rw [List.length_take]; omega), List.length_take]; omega
  have hbi := hb.2 _ (List.getElem_mem hlt)
  generalize l[i] = x at hrs hos hra hbi
  rw [show x.tw lo = [.str x.name, .int .i64 x.parent, .sl lo 1 (bK x.fields)] from rfl] at hra
  have hsl := bP x.fields
  have hf := hbi.2.1
  generalize nO fD (l.take i) ps = T at hos |-
  repeat' (first | refine W_ ?_ | ((with_reducible apply fl (id := 5) 20); kernel_rfl; kernel_rfl; kernel_rfl; rfl; (repeat (first | exact Cut.zero _ | apply Cut.succ))) | ((with_reducible apply m_q); exact ym_; rfl; exact i8) | ((with_reducible apply ei); rfl; (intro p; try dsimp only); (repeat (first | exact TB.nil _ | ((with_reducible apply TB.cons); rfl; rfl; (first | exact .nil _ | exact .put _ _ _ _ _ (.nil _) | exact .skip _ _ _ _ _ (.put _ _ _ _ _ (.nil _)) | exact .skip _ _ _ _ _ (.skip _ _ _ _ _ (.put _ _ _ _ _ (.nil _))) | (repeat (first | exact .nil _ | apply bw.put | apply bw.skip))); kernel_rfl))); rfl; kernel_rfl; kernel_rfl; exact i8) | ((with_reducible apply lL); (intro p; rfl); (intro p; rfl); rfl; kernel_rfl; (intro p; rfl); (first | with_reducible assumption | exact bytR_length _ | exact aj _ | exact strR_length _ | exact List.length_map _ | assumption | rfl); omega; exact ⟨by decide, ah_⟩; rfl; (focus (simp; done))) | ((with_reducible apply tI (n := 0)); (intro p; rfl); rfl; kernel_rfl; kernel_rfl; rfl; kernel_rfl; rfl; rfl; rfl; rfl) | ((with_reducible apply qb); (intro p; rfl); rfl; kernel_rfl; kernel_rfl; rfl; kernel_rfl; rfl; (intro p; rfl); rfl; (intro p; rfl); exact i8) | (with_reducible refine DM.nil _ _ _ ?_))
  intro p hp
  refine dJ (objs' := ((p 11).a, (p 17).b, .row 1 (bK x.fields)) :: (so, bo, .row 3 (nR eD (l.take i) ps)) :: (T ++ R)) (by rw [show gy _ = [_] from rfl]; simp only [List.flatMap_cons, List.flatMap_nil, List.append_nil, List.append_assoc, List.cons_append, List.nil_append]; (try rfl)) ?_
  dsimp only [Nat.reduceAdd]
  generalize Yu.a (p 11) = sx
  generalize Yu.b (p 17) = bx
  repeat' (first | refine W_ ?_ | ((with_reducible apply dP); rfl; rfl; rfl; kernel_rfl; (repeat (first | with_reducible exact mh | with_reducible refine mt ?_)); exact hrl; (first | (show List.length _ = 1; rfl) | (show List.length _ = 2; rfl) | (show List.length _ = 0; rfl) | (show List.length _ = 3; rfl) | (first | with_reducible assumption | exact bytR_length _ | exact aj _ | exact strR_length _ | exact List.length_map _ | assumption | rfl)); omega; exact hrs (_, _); (intro bq; (repeat (first | with_reducible exact Upd.head _ | with_reducible apply Upd.tail))); intro bb))
  refine ag (i + 1, bb, ps ++ [(sx, bx)]) ⟨by dsimp only; omega, by dsimp only; simp [hps]⟩ (by dsimp only; omega) (.of _ nw_ od_ ?_)
  dsimp only
  rw [hos (sx, bx)]
  exact j6 _ _ T R
 ·obtain rfl : i = l.length := by omega
  rw [List.take_of_length_le (Nat.le_refl _)]
  repeat' refine W_ ?_
  exact av x_ rfl ((so, bo), ps) hps rfl (.cons _ _ _ _ (.app _ R)) (.refl _) (.tmp _ _ rfl) rfl
theorem vg (hst : ay G) (lo : Nat) (x : aC) (hb : x.small 1048576) : CtM Tryz.prog G 200 [.agg [.bool x.block, .int .i64 x.params, .int .i64 x.slots, .sl lo 4 (x.instrs.map (ai.tw lo))]] [] (fun _ : Nat × Nat => True) (fun y => [(y.1, y.2, dN x)]) (fun y => .agg (cN x y)) := by
 refine aw Tryz.func200 rfl Tryz.ntmps200 rfl rfl rfl fun w0 R gs objsR hG hR => ?_
 obtain rfl := hR.inv0
 clear hR
 have hil : x.instrs.length <= 1048576 := hb.1
 repeat' (first | refine W_ ?_ | refine aH ?_ | (refine ak ?_; intro ss bb) | ((with_reducible apply fl (id := 1) 11); kernel_rfl; kernel_rfl; kernel_rfl; rfl; (repeat (first | exact Cut.zero _ | apply Cut.succ))) | ((with_reducible apply m_q); exact ym_; rfl; exact i8) | ((with_reducible apply ei); rfl; (intro p; try dsimp only); (repeat (first | exact TB.nil _ | ((with_reducible apply TB.cons); rfl; rfl; (first | exact .nil _ | exact .put _ _ _ _ _ (.nil _) | exact .skip _ _ _ _ _ (.put _ _ _ _ _ (.nil _)) | exact .skip _ _ _ _ _ (.skip _ _ _ _ _ (.put _ _ _ _ _ (.nil _))) | (repeat (first | exact .nil _ | apply bw.put | apply bw.skip))); kernel_rfl))); rfl; kernel_rfl; kernel_rfl; exact i8) | ((with_reducible apply tI); (intro p; rfl); rfl; kernel_rfl; kernel_rfl; rfl; kernel_rfl; rfl; rfl; rfl; rfl) | ((with_reducible apply lL); (intro p; rfl); (intro p; rfl); rfl; kernel_rfl; (intro p; rfl); (first | with_reducible assumption | exact bytR_length _ | exact aj _ | exact strR_length _ | exact List.length_map _ | assumption | rfl); omega; exact ⟨by decide, ah_⟩; rfl; (focus (simp; done))) | (with_reducible refine DM.nil _ _ _ ?_))
 generalize ss = s2; generalize bb = b2
 intro p hp
 refine dJ (objs' := ((p 6).a, (p 9).b, .row 4 (x.instrs.map (ai.tw 0))) :: (s2, b2, .box [.bool false, .int .i64 0, .int .i64 0, .nils]) :: R) (by rw [show gy _ = [_] from rfl]; simp only [List.flatMap_cons, List.flatMap_nil, List.append_nil, List.append_assoc, List.cons_append, List.nil_append]; (try rfl)) ?_
 dsimp only [Nat.reduceAdd]
 generalize Yu.a (p 6) = sx
 generalize Yu.b (p 9) = bx
 repeat' (first | refine W_ ?_ | refine ac ?_)
 exact av (t1 := .agg [.bool x.block, .int .i64 x.params, .int .i64 x.slots, .ms sx bx 0 x.instrs.length]) x_ rfl (sx, bx) trivial rfl (.cons _ _ _ _ (.nil R)) pk_ (.cell _ _ _ _ _ rfl mm_ (by kernel_rfl) (by kernel_rfl) (by kernel_rfl)) rfl
end
theorem zP (x : aC) (y : Nat × Nat) : (∀ s b o, (s, b, o) ∈ [(y.1, y.2, dN x)] -> co [(y.1, y.2, dN x)] o) /\ dy [(y.1, y.2, dN x)] (.agg (cN x y)) := by
 refine ⟨fun s b o h => ?_, .agg _ fun t ht => ?_⟩
 ·simp only [List.mem_singleton, Prod.mk.injEq] at h
  obtain ⟨_, _, rfl⟩ := h
  refine eW fun t ht => ?_
  obtain ⟨r, hr, htr⟩ := List.mem_flatten.1 ht
  obtain ⟨i, _, rfl⟩ := List.mem_map.1 hr
  simp only [ai.tw, List.mem_cons, List.not_mem_nil, or_false] at htr
  rcases htr with rfl | rfl | rfl | rfl <;> rfl
 ·simp only [cN, List.mem_cons, List.not_mem_nil, or_false] at ht
  rcases ht with rfl | rfl | rfl | rfl
  ·exact .flat _ rfl
  ·exact .flat _ rfl
  ·exact .flat _ rfl
  ·exact .ms _ _ _ _ _ _ List.mem_cons_self
theorem yM (a b z : Nat × Nat × aZ) (T R : aF) : cj (a :: b :: ((T ++ [z]) ++ R)) (a :: z :: b :: (T ++ R)) := .perm (by
 have h : ((T ++ [z]) ++ R).Perm (z :: (T ++ R)) := by
   rw [List.append_assoc]
   exact List.perm_middle
 exact (((h.cons b).trans (List.Perm.swap z b _)).cons a))
theorem aba (a e z2 z3 : Nat × Nat × aZ) (C A R : aF) : cj (z2 :: z3 :: a :: (A ++ (e :: (C ++ R)))) (a :: z3 :: (A ++ (e :: (C ++ (z2 :: R))))) := .perm (by
 have h : ((z3 :: a :: A) ++ (e :: C) ++ z2 :: R).Perm (z2 :: ((z3 :: a :: A) ++ (e :: C) ++ R)) := List.perm_middle
 exact .trans (by simpa using h.symm) (List.Perm.swap a z3 _))
section
variable {G : World -> Prop}
theorem uB (hst : ay G) (f lo : Nat) (x : aD) (hb : x.small 1048576) : CtM Tryz.prog G 113 [.cp f (x.tw lo)] [] (cbI x) (cbO x) (fun y => .agg (cbC x y)) := by
 refine aw Tryz.func113 rfl Tryz.ntmps113 rfl rfl rfl fun w0 R gs objsR hG hR => ?_
 obtain rfl := hR.inv0
 clear hR
 have c1 := fX hst lo x.classes hb.1
 have n1 := fun (y : (Nat × Nat) × List (Nat × Nat)) (_ : y.2.length = x.classes.length) => hH (m := 3) (s := y.1.1) (b := y.1.2) (n := x.classes.length) gp gu x.classes y.2
 have hel := aB.len lo x.entries
 have he1 := hb.2.2.1
 unfold aD.tw
 repeat' (first | refine W_ ?_ | (refine ak ?_; intro ss bb) | ((with_reducible apply fl (id := 1) 17); kernel_rfl; kernel_rfl; kernel_rfl; rfl; (repeat (first | exact Cut.zero _ | apply Cut.succ))) | ((with_reducible apply m_q); exact ym_; rfl; exact i8) | ((with_reducible apply ei); rfl; (intro p; try dsimp only); (repeat (first | exact TB.nil _ | ((with_reducible apply TB.cons); rfl; rfl; (first | exact .nil _ | exact .put _ _ _ _ _ (.nil _) | exact .skip _ _ _ _ _ (.put _ _ _ _ _ (.nil _)) | exact .skip _ _ _ _ _ (.skip _ _ _ _ _ (.put _ _ _ _ _ (.nil _))) | (repeat (first | exact .nil _ | apply bw.put | apply bw.skip))); kernel_rfl))); rfl; kernel_rfl; kernel_rfl; exact i8) | ((with_reducible apply jS); rfl; rfl; kernel_rfl) | ((with_reducible apply tI); (intro p; rfl); rfl; kernel_rfl; kernel_rfl; rfl; kernel_rfl; rfl; rfl; rfl; rfl) | ((with_reducible apply lL); (intro p; rfl); (intro p; rfl); rfl; kernel_rfl; (intro p; rfl); (first | with_reducible assumption | exact bytR_length _ | exact aj _ | exact strR_length _ | exact List.length_map _ | assumption | rfl); omega; exact ⟨by decide, ah_⟩; rfl; (focus (simp; done))) | ((with_reducible apply jw hG hst c1); rfl; kernel_rfl; (intro p; (repeat (first | exact bS.nil | ((with_reducible apply bS.cons); rfl; exact .same _)))); exact n1) | (with_reducible refine DM.nil _ _ _ ?_))
 generalize ss = s2; generalize bb = b2
 intro p hp
 simp only [List.forall_mem_cons] at hp
 obtain ⟨_, _, _, hI, _⟩ := hp
 refine dJ (objs' := ((p 16).a, (p 16).b, .box [.nils, .nils, .nils, .int .i64 0]) :: ((p 5).a, (p 10).b, .row 4 (x.entries.map (aB.tw lo))) :: (mF x.classes (Enc.dec (p 4)) ++ ((s2, b2, .box [.nils, .nils, .nils, .int .i64 0]) :: R))) (by rw [show gy _ = [_, _, _] from rfl]; simp only [List.flatMap_cons, List.flatMap_nil, List.append_nil, List.append_assoc, List.cons_append, List.nil_append]; (try rfl)) ?_
 dsimp only [Nat.reduceAdd] at hI |-
 generalize (Enc.dec (p 4) : (Nat × Nat) × List (Nat × Nat)) = yc at hI |-
 generalize Yu.a (p 16) = s3
 generalize Yu.b (p 16) = b3
 generalize Yu.a (p 5) = se
 generalize Yu.b (p 10) = be
 have hcl := aC.len lo x.codes
 have hc1 := hb.2.1.1
 have hsm := hb.2.1.2
 repeat' (first | refine W_ ?_ | refine ac ?_)
 refine ny 1 4 (by decide) rfl fun sc => ?_
 obtain ⟨RR, hRR⟩ : ∃ RR : aF, RR = ((se, be, .row 4 (x.entries.map (aB.tw 0))) :: (mF x.classes yc ++ ((s2, b2, aZ.box [.nils, .nils, .nils, .int .i64 0]) :: R))) := ⟨_, rfl⟩
 refine bD (objs' := (sc, 0, .row 4 []) :: (s3, b3, .box [.ms yc.1.1 yc.1.2 0 x.classes.length, .ms sc 0 0 0, .ms se be 0 x.entries.length, .int .i64 x.main]) :: RR) (by rw [hRR]; exact pk_) ?_
 apply am (X := Nat × Nat × List (Nat × Nat)) [0, 2, 3, 1000000] (fun y => [(4, .int .i64 (y.1 : Int))])
   (fun y => (sc, y.2.1, .row 4 (nR cN (x.codes.take y.1) y.2.2)) :: (s3, b3, .box [.ms yc.1.1 yc.1.2 0 x.classes.length, .ms sc y.2.1 0 y.1, .ms se be 0 x.entries.length, .int .i64 x.main]) :: (nO dN (x.codes.take y.1) y.2.2 ++ RR))
   (fun y => y.1 <= x.codes.length /\ y.2.2.length = y.1) (fun y => x.codes.length - y.1) (0, 0, []) ⟨Nat.zero_le _, rfl⟩
 exact kp_; exact nw_
 ·exact .refl _
 rintro ⟨i, bc, ps⟩ ⟨hi, hps⟩
 dsimp only at hi hps |-
 by_cases hlt : i < x.codes.length
 ·have hrs := fun p => rL cN hlt hps p
  have hos := fun p => lc dN hlt hps p
  have hra : (x.codes.map (aC.tw lo))[i]? = some (x.codes[i].tw lo) := aI hlt
  have hrl : (nR cN (x.codes.take i) ps).length = i := by rw [lG _ (by rw [List.length_take]; omega), List.length_take]; omega
  have hbi := hsm _ (List.getElem_mem hlt)
  generalize x.codes[i] = c at hrs hos hra hbi
  have hil : c.instrs.length <= 1048576 := hbi.1
  rw [show c.tw lo = [.bool c.block, .int .i64 c.params, .int .i64 c.slots, .sl lo 4 (c.instrs.map (ai.tw lo))] from rfl] at hra
  have c2 := vg hst lo c hbi
  have n2 := fun (y : Nat × Nat) (_ : True) => zP c y
  generalize nO dN (x.codes.take i) ps = T at hos |-
  repeat' (first | refine W_ ?_ | ((with_reducible apply ky (id := 5) 13); kernel_rfl; kernel_rfl; kernel_rfl; rfl; (repeat (first | exact Cut.zero _ | apply Cut.succ))) | ((with_reducible apply m_q); exact ym_; rfl; exact i8) | ((with_reducible apply ei); rfl; (intro p; try dsimp only); (repeat (first | exact TB.nil _ | ((with_reducible apply TB.cons); rfl; rfl; (first | exact .nil _ | exact .put _ _ _ _ _ (.nil _) | exact .skip _ _ _ _ _ (.put _ _ _ _ _ (.nil _)) | exact .skip _ _ _ _ _ (.skip _ _ _ _ _ (.put _ _ _ _ _ (.nil _))) | (repeat (first | exact .nil _ | apply bw.put | apply bw.skip))); kernel_rfl))); rfl; kernel_rfl; kernel_rfl; exact i8) | ((with_reducible apply qb); (intro p; rfl); rfl; kernel_rfl; kernel_rfl; rfl; kernel_rfl; rfl; (intro p; rfl); rfl; (intro p; rfl); exact i8) | ((with_reducible apply jw hG hst c2); rfl; kernel_rfl; (intro p; (repeat (first | exact bS.nil | ((with_reducible apply bS.cons); rfl; exact .same _)))); exact n2) | ((with_reducible apply sZ); (intro p; rfl); (intro p; rfl); rfl; kernel_rfl; (intro p; rfl); exact hrl; (intro p; show List.length _ = 1; rfl); omega; exact fun p => hrs (Enc.dec (p _)); exact ⟨by decide, by decide⟩; exact aal; rfl; (focus (simp; done))) | (with_reducible refine DM.nil _ _ _ ?_))
  intro p hp
  refine dJ (objs' := (sc, (p 11).b, .row 4 (nR cN (x.codes.take (i + 1)) (ps ++ [Enc.dec (p 9)]))) :: ((Enc.dec (p 9) : Nat × Nat).1, (Enc.dec (p 9) : Nat × Nat).2, dN c) :: (s3, b3, .box [.ms yc.1.1 yc.1.2 0 x.classes.length, .ms sc bc 0 i, .ms se be 0 x.entries.length, .int .i64 x.main]) :: (T ++ RR)) (by rw [show gy _ = [_, _] from rfl]; (try simp only [List.flatMap_cons, List.flatMap_nil, List.append_nil, List.append_assoc, List.cons_append, List.nil_append]); (try rfl)) ?_
  dsimp only [Nat.reduceAdd] at hp |-
  generalize (Enc.dec (p 9) : Nat × Nat) = q
  generalize Yu.b (p 11) = bb
  repeat' (first | refine W_ ?_ | refine ac ?_)
  refine ag (i + 1, bb, ps ++ [q]) ⟨by dsimp only; omega, by dsimp only; simp [hps]⟩ (by dsimp only; omega) (.of _ nw_ od_ ?_)
  dsimp only
  rw [hos q]
  exact yM _ _ _ T RR
 ·obtain rfl : i = x.codes.length := by omega
  rw [List.take_of_length_le (Nat.le_refl _), hRR]
  refine bD (aba _ _ _ _ _ _ _) ?_
  repeat' (first | refine W_ ?_ | refine ac ?_)
  exact av (t1 := .agg [.ms yc.1.1 yc.1.2 0 x.classes.length, .ms sc bc 0 x.codes.length, .ms se be 0 x.entries.length, .int .i64 x.main]) x_ rfl (yc, ((sc, bc), ps), (se, be)) ⟨hI, hps⟩ rfl (.app _ R) (.drop (.drop (.perm (ve _ _ _ _ R)))) (.cell _ _ _ _ _ rfl mm_ (by kernel_rfl) (by kernel_rfl) (by kernel_rfl)) rfl
end
def kA (objs : aF) (l l' : List TV) : Prop := l'.length = l.length /\ ∀ (j : Nat) (t t' : TV), l[j]? = some t -> l'[j]? = some t' -> ca objs t t'
theorem kA.nil {objs : aF} : kA objs [] [] := ⟨rfl, by simp⟩
theorem kA.cons {objs : aF} {t t' : TV} {l l' : List TV} (h : ca objs t t') (hr : kA objs l l') : kA objs (t :: l) (t' :: l') := ⟨by simp [hr.1], fun j u u' h1 h2 => by
 cases j with
 | zero => simp at h1 h2; subst h1; subst h2; exact h
 | succ j => exact hr.2 j u u' (by simpa using h1) (by simpa using h2)⟩
theorem kA.append {objs : aF} {a a' b b' : List TV} (h : kA objs a a') (k : kA objs b b') : kA objs (a ++ b) (a' ++ b') := ⟨by simp [h.1, k.1], fun j u u' h1 h2 => by
 by_cases hj : j < a.length
 ·rw [List.getElem?_append_left hj] at h1
  rw [List.getElem?_append_left (by rw [h.1]; exact hj)] at h2
  exact h.2 j u u' h1 h2
 ·rw [List.getElem?_append_right (by omega)] at h1
  rw [List.getElem?_append_right (by rw [h.1]; omega)] at h2
  rw [h.1] at h2
  exact k.2 _ u u' h1 h2⟩
end Go.Proofs.YtigipcbnfeoliaaGreatDoor
