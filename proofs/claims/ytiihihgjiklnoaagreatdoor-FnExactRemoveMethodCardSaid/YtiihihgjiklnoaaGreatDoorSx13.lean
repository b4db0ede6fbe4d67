/- Part 13 of the proof. -/
import Derived.Test.YtiihihgjiklnoaaGreatDoorSx8
set_option maxHeartbeats 2000000
set_option maxRecDepth 20000
namespace Go.Proofs.YtiihihgjiklnoaaGreatDoor
open Go Go.RowKit
section
variable {G : World -> Prop}
theorem tQ (_ : ay G) (lo : Nat) (l : List Int) (left : Int) (h : 0 <= left /\ left <= 1048576) (hb : l.length <= 9223372036854775807) : CtM Tryz.prog G 81 [.sl lo 1 (aS l), .int .i64 left] [] (fun y : Int => -1 <= y /\ y <= left /\ (0 <= y -> l.length <= 1048576)) (fun _ => []) (fun y => .int .i64 y) := by
 refine aA Tryz.func81 rfl Tryz.ntmps81 rfl rfl rfl fun w0 R gs objsR hG hR => ?_
 obtain rfl := hR.inv0
 clear hR
 have hlen := am l
 by_cases hn : left - l.length < 0
 ·repeat' refine W_ ?_
  exact aw x_ rfl (-1) ⟨by omega, by omega, fun h => by omega⟩ rfl (.nil R) (.refl _) (.tmp _ _ rfl) rfl
 ·repeat' refine W_ ?_
  exact aw x_ rfl (left - l.length) ⟨by omega, by omega, fun _ => by omega⟩ rfl (.nil R) (.refl _) (.tmp _ _ rfl) rfl
theorem uG (_ : ay G) (lo : Nat) (l : List Int) (hn : l.length <= 1048576) : Ct Tryz.prog G 90 [.sl lo 1 (aS l)] (fun K => .sl K 1 (aS l)) := by
 refine ap Tryz.func90 rfl Tryz.ntmps90 rfl rfl fun w0 _ hG => ?_
 have hlen := am l
 have h0 := bK (fun s : Int => [TV.int .i64 s]) [.int .i64 0] l
 repeat' (first | refine W_ ?_ | (refine dC ?_; intro ss bb))
 apply aj (X := Nat) [0, 3] (fun i => [(4, .int .i64 (i : Int))]) (fun i => [(ss, bb, .row 1 (di (fun s : Int => [TV.int .i64 s]) [.int .i64 0] l i))]) (fun i => i <= l.length) (fun i => l.length - i) 0 (Nat.zero_le _)
 exact kp_; exact nw_
 ·rw [<- h0]; exact .refl _
 intro i hi
 try dsimp only
 by_cases hlt : i < l.length
 ·obtain ⟨hrow, hset⟩ := cj (fun s : Int => [TV.int .i64 s]) [.int .i64 0] hlt
  have hra := jv hlt
  generalize l[i] = x at hset hra
  try dsimp only at hset
  repeat' (first | refine W_ ?_ | refine bg ?_)
  refine ag (i + 1) (by omega) (by omega) (.of _ nw_ od_ (by rw [<- hset]; exact .refl _))
 ·obtain rfl : i = l.length := by omega
  rw [bL]
  repeat' refine W_ ?_
  refine aE x_ rfl (.tmp _ _ rfl) (fun _ => ?_)
  exact gP (fun x => .cons (.flat rfl) .nil) List.mem_cons_self
theorem tr (_ : ay G) (l1 l2 : Nat) (l : List Int) (hn : l.length <= 1048576) : Ct Tryz.prog G 32 [.sl l1 1 (aS l), .sl l2 1 (aS l)] (fun _ => .bool true) := by
 refine ap Tryz.func32 rfl Tryz.ntmps32 rfl rfl fun w0 _ hG => ?_
 have hlen := am l
 repeat' refine W_ ?_
 apply aj (X := Nat) [0, 1] (fun i => [(5, .int .i64 (i : Int))]) (fun _ => []) (fun i => i <= l.length) (fun i => l.length - i) 0 (Nat.zero_le _)
 exact kp_; exact nw_
 ·exact .refl _
 intro i hi
 try dsimp only
 by_cases hlt : i < l.length
 ·have hrow := jv hlt
  generalize l[i] = x at hrow
  repeat' refine V_ ?_
  all_goals first
    | exact ag (i + 1) (by omega) (by omega) (.of _ nw_ od_ pk_)
    | (exfalso; simp at hc; done)
 ·repeat' refine W_ ?_
  exact r1_
end
def ad.tw (_lo : Nat) (x : ad) : List TV := [.int .i64 x.kind, .int .i64 x.number, .str x.text]
def ad.small (n : Nat) (x : ad) : Prop := (x.text.size <= n)
def ad.tz : List TV := [.int .i64 0, .int .i64 0, .str ⟨#[]⟩]
theorem ad.fin (B K : Nat) (objs : aI) (x : ad) : jk B objs K (x.tw B) (x.tw K) := .cons (.flat rfl) (.cons (.flat rfl) (.cons (.flat rfl) (.nil)))
theorem ad.len (lo : Nat) (l : List ad) : (l.map (ad.tw lo)).length = l.length := by simp
section
variable {G : World -> Prop}
theorem jw (_hst : ay G) (lo : Nat) (x : ad) (left : Int) (h : 0 <= left /\ left <= 1048576) (hb : x.small 9223372036854775807) : CtM Tryz.prog G 82 [.agg (x.tw lo), .int .i64 left] [] (fun y : Int => -1 <= y /\ y <= left /\ (0 <= y -> x.small 1048576)) (fun _ => []) (fun y => .int .i64 y) := by
 refine aA Tryz.func82 rfl Tryz.ntmps82 rfl rfl rfl fun w0 R gs objsR hG hR => ?_
 obtain rfl := hR.inv0
 clear hR
 unfold ad.small at hb
 have hb1 : x.text.size <= 9223372036854775807 := hb
 unfold ad.tw
 repeat' (first | refine W_ ?_ | refine aL ?_ | refine c_ (fun hc => ?_) (fun hc => ?_))
 all_goals first
   | exact aw x_ rfl (-1) ⟨by omega, by omega, fun h => by omega⟩ rfl (.nil R) (.refl _) (.tmp _ _ rfl) rfl
   | (refine aw x_ rfl _ ⟨?_, ?_, fun _ => ?_⟩ rfl (.nil R) (.refl _) (.tmp _ _ rfl) rfl
      ·omega
      ·omega
      ·show _ <= _; omega)
theorem iz (hst : ay G) (lo : Nat) (l : List ad) (left : Int) (h : 0 <= left /\ left <= 1048576) (hb : l.length <= 9223372036854775807 /\ ∀ y ∈ l, ad.small 9223372036854775807 y) : CtM Tryz.prog G 228 [.sl lo 3 (l.map (ad.tw lo)), .int .i64 left] [] (fun y : Int => -1 <= y /\ y <= left /\ (0 <= y -> l.length <= 1048576 /\ ∀ y ∈ l, ad.small 1048576 y)) (fun _ => []) (fun y => .int .i64 y) := by
 refine aA Tryz.func228 rfl Tryz.ntmps228 rfl rfl rfl fun w0 R gs objsR hG hR => ?_
 obtain rfl := hR.inv0
 clear hR
 have hlen := ad.len lo l
 have hl1 := hb.1
 by_cases hn : left - l.length < 0
 ·repeat' refine W_ ?_
  exact aw x_ rfl (-1) ⟨by omega, by omega, fun h => by omega⟩ rfl (.nil R) (.refl _) (.tmp _ _ rfl) rfl
 ·repeat' refine W_ ?_
  apply aj (X := Nat × Int) [0, 1000000] (fun x => [(5, .int .i64 (x.1 : Int)), (1, .int .i64 x.2)]) (fun _ => R) (fun x => x.1 <= l.length /\ 0 <= x.2 /\ x.2 <= left /\ ∀ y ∈ l.take x.1, ad.small 1048576 y) (fun x => l.length - x.1) (0, left - l.length) ⟨Nat.zero_le _, by dsimp only; omega, by dsimp only; omega, by simp⟩
  exact kp_; exact nw_
  ·exact .refl _
  rintro ⟨i, lf⟩ ⟨hi, h0, h1, hs⟩
  dsimp only at hi h0 h1 hs |-
  by_cases hlt : i < l.length
  ·have hrow : (l.map (ad.tw lo))[i]? = some (l[i].tw lo) := aK hlt
   have hbi := hb.2 _ (List.getElem_mem hlt)
   have hta := aX (p := ad.small 1048576) hlt hs
   generalize l[i] = x at hrow hbi hta
   have hct := jw hst lo x lf (by omega) hbi
   unfold ad.tw at hct
   rw [show x.tw lo = [.int .i64 x.kind, .int .i64 x.number, .str x.text] from rfl] at hrow
   repeat' (first | refine W_ ?_ | ((with_reducible apply aJ); rfl; kernel_rfl; (repeat (first | exact aH.nil | ((with_reducible apply aH.cons); rfl))); exact hG; exact hct; exact .nil _; intro y hy; refine bO ?_) | refine c_ (fun hc => ?_) (fun hc => ?_))
   all_goals first
     | exact aw x_ rfl (-1) ⟨by omega, by omega, fun h => by omega⟩ rfl (.nil R) (.refl _) (.tmp _ _ rfl) rfl
     | exact ag (i + 1, y) ⟨by dsimp only; omega, by dsimp only; omega, by dsimp only; omega, hta (hy.2.2 (by omega))⟩ (by dsimp only; omega) (.of _ nw_ od_ pk_)
  ·rw [List.take_of_length_le (by omega)] at hs
   repeat' refine W_ ?_
   exact aw x_ rfl lf ⟨by omega, by omega, fun _ => ⟨by omega, hs⟩⟩ rfl (.nil R) (.refl _) (.tmp _ _ rfl) rfl
theorem eZ (_hst : ay G) (lo : Nat) (x : ad) (_hb : x.small 1048576) : Ct Tryz.prog G 91 [.agg (x.tw lo)] (fun K => .agg (x.tw K)) := by
 refine ap Tryz.func91 rfl Tryz.ntmps91 rfl rfl fun w0 _ hG => ?_
 unfold ad.small at _hb
 skip
 repeat' (first | refine W_ ?_ | refine aL ?_ | (refine ai ?_; intro ss bb) | refine ac ?_)
 refine aE x_ rfl (.cell _ _ _ _ _ rfl mm_ (by kernel_rfl) (by kernel_rfl) (by kernel_rfl)) (fun _ => ?_)
 exact e8 (ad.fin _ _ _ x)
theorem iA (hst : ay G) (lo : Nat) (l : List ad) (hb : l.length <= 1048576 /\ ∀ y ∈ l, ad.small 1048576 y) : Ct Tryz.prog G 238 [.sl lo 3 (l.map (ad.tw lo))] (fun K => .sl K 3 (l.map (ad.tw K))) := by
 refine ap Tryz.func238 rfl Tryz.ntmps238 rfl rfl fun w0 _ hG => ?_
 have hlen := ad.len lo l
 have hl1 := hb.1
 have h0 := bK (ad.tw w0.heap.size) ad.tz l
 repeat' (first | refine W_ ?_ | (refine dC ?_; intro ss bb))
 apply aj (X := Nat) [0, 3] (fun i => [(4, .int .i64 (i : Int))]) (fun i => [(ss, bb, .row 3 (di (ad.tw w0.heap.size) ad.tz l i))]) (fun i => i <= l.length) (fun i => l.length - i) 0 (Nat.zero_le _)
 exact kp_; exact nw_
 ·rw [<- h0]; exact .refl _
 intro i hi
 try dsimp only
 by_cases hlt : i < l.length
 ·obtain ⟨hrow, hset⟩ := cj (ad.tw w0.heap.size) ad.tz hlt
  have hra : (l.map (ad.tw lo))[i]? = some (l[i].tw lo) := aK hlt
  have hbi := hb.2 _ (List.getElem_mem hlt)
  generalize l[i] = x at hset hra hbi
  have hct := eZ hst lo x hbi
  unfold ad.tw at hct
  rw [show x.tw lo = [.int .i64 x.kind, .int .i64 x.number, .str x.text] from rfl] at hra
  replace hrow : (di (ad.tw w0.heap.size) ad.tz l i)[i]? = some [.int .i64 0, .int .i64 0, .str ⟨#[]⟩] := hrow
  repeat' (first | refine W_ ?_ | refine ab hG hst (hct) ?_ | refine bg ?_)
  refine ag (i + 1) (by omega) (by omega) (.of _ nw_ od_ (by rw [<- hset]; exact .refl _))
 ·obtain rfl : i = l.length := by omega
  rw [bL]
  repeat' refine W_ ?_
  refine aE x_ rfl (.tmp _ _ rfl) (fun _ => ?_)
  exact gP (fun x => ad.fin _ _ _ x) List.mem_cons_self
theorem ju (_hst : ay G) (l1 l2 : Nat) (x : ad) (_hb : x.small 1048576) : Ct Tryz.prog G 61 [.agg (x.tw l1), .agg (x.tw l2)] (fun _ => .bool true) := by
 refine ap Tryz.func61 rfl Tryz.ntmps61 rfl rfl fun w0 _ hG => ?_
 unfold ad.small at _hb
 have hnetext : ¬ x.text ≠ x.text := fun h => h rfl
 unfold ad.tw
 repeat' (first | refine W_ ?_ | refine aL ?_)
 all_goals first
   | (exfalso; simp at hc; done)
   | (exact r1_)
theorem ix (hst : ay G) (l1 l2 : Nat) (l : List ad) (hb : l.length <= 1048576 /\ ∀ y ∈ l, ad.small 1048576 y) : Ct Tryz.prog G 224 [.sl l1 3 (l.map (ad.tw l1)), .sl l2 3 (l.map (ad.tw l2))] (fun _ => .bool true) := by
 refine ap Tryz.func224 rfl Tryz.ntmps224 rfl rfl fun w0 _ hG => ?_
 have hlen := ad.len l1 l
 have hlen2 := ad.len l2 l
 have hl1 := hb.1
 repeat' refine W_ ?_
 apply aj (X := Nat) [0, 1] (fun i => [(5, .int .i64 (i : Int))]) (fun _ => []) (fun i => i <= l.length) (fun i => l.length - i) 0 (Nat.zero_le _)
 exact kp_; exact nw_
 ·exact .refl _
 intro i hi
 try dsimp only
 by_cases hlt : i < l.length
 ·have hr1 : (l.map (ad.tw l1))[i]? = some (l[i].tw l1) := aK hlt
  have hr2 : (l.map (ad.tw l2))[i]? = some (l[i].tw l2) := aK hlt
  have hbi := hb.2 _ (List.getElem_mem hlt)
  generalize l[i] = x at hr1 hr2 hbi
  have hct := ju hst l1 l2 x hbi
  unfold ad.tw at hct
  rw [show x.tw l1 = [.int .i64 x.kind, .int .i64 x.number, .str x.text] from rfl] at hr1
  rw [show x.tw l2 = [.int .i64 x.kind, .int .i64 x.number, .str x.text] from rfl] at hr2
  repeat' (first | refine V_ ?_ | refine ae hG hst (hct) ?_)
  exact ag (i + 1) (by omega) (by omega) (.of _ nw_ od_ pk_)
 ·repeat' refine W_ ?_
  exact r1_
end
def av.tw (lo : Nat) (x : av) : List TV := [.int .i64 x.kind, .int .i64 x.class_, .sl lo 3 (x.fields.map (ad.tw lo)), .sl lo 1 (aS x.numbers)]
def av.small (n : Nat) (x : av) : Prop := (x.fields.length <= n /\ ∀ y ∈ x.fields, ad.small n y) /\ (x.numbers.length <= n)
def av.tz : List TV := [.int .i64 0, .int .i64 0, .nils, .nils]
theorem av.fin (B K : Nat) (objs : aI) (_x : av) : jk B objs K (_x.tw B) (_x.tw K) := .cons (.flat rfl) (.cons (.flat rfl) (.cons (cT (fun _x => ad.fin B K objs _x) _) (.cons (cT (fun _x => .cons (.flat rfl) .nil) _) (.nil))))
theorem av.len (lo : Nat) (l : List av) : (l.map (av.tw lo)).length = l.length := by simp
section
variable {G : World -> Prop}
theorem vH (hst : ay G) (lo : Nat) (x : av) (left : Int) (h : 0 <= left /\ left <= 1048576) (hb : x.small 9223372036854775807) : CtM Tryz.prog G 227 [.agg (x.tw lo), .int .i64 left] [] (fun y : Int => -1 <= y /\ y <= left /\ (0 <= y -> x.small 1048576)) (fun _ => []) (fun y => .int .i64 y) := by
 refine aA Tryz.func227 rfl Tryz.ntmps227 rfl rfl rfl fun w0 R gs objsR hG hR => ?_
 obtain rfl := hR.inv0
 clear hR
 unfold av.small at hb
 skip
 unfold av.tw
 repeat' (first | refine W_ ?_ | refine aL ?_ | ((with_reducible apply aJ); rfl; kernel_rfl; (repeat (first | exact aH.nil | ((with_reducible apply aH.cons); rfl))); exact hG; exact iz hst lo x.fields _ (by omega) hb.1; exact .nil _; intro y1 hy1; refine bO ?_) | ((with_reducible apply aJ); rfl; kernel_rfl; (repeat (first | exact aH.nil | ((with_reducible apply aH.cons); rfl))); exact hG; exact tQ hst lo x.numbers _ (by omega) hb.2; exact .nil _; intro y2 hy2; refine bO ?_) | refine c_ (fun hc => ?_) (fun hc => ?_))
 all_goals first
   | exact aw x_ rfl (-1) ⟨by omega, by omega, fun h => by omega⟩ rfl (.nil R) (.refl _) (.tmp _ _ rfl) rfl
   | (refine aw x_ rfl _ ⟨?_, ?_, fun _ => ?_⟩ rfl (.nil R) (.refl _) (.tmp _ _ rfl) rfl
      ·omega
      ·omega
      ·exact ⟨hy1.2.2 (by omega), hy2.2.2 (by omega)⟩)
theorem uq (hst : ay G) (lo : Nat) (l : List av) (left : Int) (h : 0 <= left /\ left <= 1048576) (hb : l.length <= 9223372036854775807 /\ ∀ y ∈ l, av.small 9223372036854775807 y) : CtM Tryz.prog G 157 [.sl lo 4 (l.map (av.tw lo)), .int .i64 left] [] (fun y : Int => -1 <= y /\ y <= left /\ (0 <= y -> l.length <= 1048576 /\ ∀ y ∈ l, av.small 1048576 y)) (fun _ => []) (fun y => .int .i64 y) := by
 refine aA Tryz.func157 rfl Tryz.ntmps157 rfl rfl rfl fun w0 R gs objsR hG hR => ?_
 obtain rfl := hR.inv0
 clear hR
 have hlen := av.len lo l
 have hl1 := hb.1
 by_cases hn : left - l.length < 0
 ·repeat' refine W_ ?_
  exact aw x_ rfl (-1) ⟨by omega, by omega, fun h => by omega⟩ rfl (.nil R) (.refl _) (.tmp _ _ rfl) rfl
 ·repeat' refine W_ ?_
  apply aj (X := Nat × Int) [0, 1000000] (fun x => [(5, .int .i64 (x.1 : Int)), (1, .int .i64 x.2)]) (fun _ => R) (fun x => x.1 <= l.length /\ 0 <= x.2 /\ x.2 <= left /\ ∀ y ∈ l.take x.1, av.small 1048576 y) (fun x => l.length - x.1) (0, left - l.length) ⟨Nat.zero_le _, by dsimp only; omega, by dsimp only; omega, by simp⟩
  exact kp_; exact nw_
  ·exact .refl _
  rintro ⟨i, lf⟩ ⟨hi, h0, h1, hs⟩
  dsimp only at hi h0 h1 hs |-
  by_cases hlt : i < l.length
  ·have hrow : (l.map (av.tw lo))[i]? = some (l[i].tw lo) := aK hlt
   have hbi := hb.2 _ (List.getElem_mem hlt)
   have hta := aX (p := av.small 1048576) hlt hs
   generalize l[i] = x at hrow hbi hta
   have hct := vH hst lo x lf (by omega) hbi
   unfold av.tw at hct
   rw [show x.tw lo = [.int .i64 x.kind, .int .i64 x.class_, .sl lo 3 (x.fields.map (ad.tw lo)), .sl lo 1 (aS x.numbers)] from rfl] at hrow
   repeat' (first | refine W_ ?_ | ((with_reducible apply aJ); rfl; kernel_rfl; (repeat (first | exact aH.nil | ((with_reducible apply aH.cons); rfl))); exact hG; exact hct; exact .nil _; intro y hy; refine bO ?_) | refine c_ (fun hc => ?_) (fun hc => ?_))
   all_goals first
     | exact aw x_ rfl (-1) ⟨by omega, by omega, fun h => by omega⟩ rfl (.nil R) (.refl _) (.tmp _ _ rfl) rfl
     | exact ag (i + 1, y) ⟨by dsimp only; omega, by dsimp only; omega, by dsimp only; omega, hta (hy.2.2 (by omega))⟩ (by dsimp only; omega) (.of _ nw_ od_ pk_)
  ·rw [List.take_of_length_le (by omega)] at hs
   repeat' refine W_ ?_
   exact aw x_ rfl lf ⟨by omega, by omega, fun _ => ⟨by omega, hs⟩⟩ rfl (.nil R) (.refl _) (.tmp _ _ rfl) rfl
theorem wh (hst : ay G) (lo : Nat) (x : av) (hb : x.small 1048576) : Ct Tryz.prog G 237 [.agg (x.tw lo)] (fun K => .agg (x.tw K)) := by
 refine ap Tryz.func237 rfl Tryz.ntmps237 rfl rfl fun w0 _ hG => ?_
 unfold av.small at hb
 have hsfields := hb.1
 have hsnumbers := hb.2
 repeat' (first | refine W_ ?_ | refine aL ?_ | (refine ai ?_; intro ss bb) | refine ac ?_ | refine ab hG hst (iA hst lo x.fields (hsfields)) ?_ | refine ab hG hst (uG hst lo x.numbers (hsnumbers)) ?_)
 refine aE x_ rfl (.cell _ _ _ _ _ rfl mm_ (by kernel_rfl) (by kernel_rfl) (by kernel_rfl)) (fun _ => ?_)
 exact e8 (av.fin _ _ _ x)
theorem ul (hst : ay G) (lo : Nat) (l : List av) (hb : l.length <= 1048576 /\ ∀ y ∈ l, av.small 1048576 y) : Ct Tryz.prog G 173 [.sl lo 4 (l.map (av.tw lo))] (fun K => .sl K 4 (l.map (av.tw K))) := by
 refine ap Tryz.func173 rfl Tryz.ntmps173 rfl rfl fun w0 _ hG => ?_
 have hlen := av.len lo l
 have hl1 := hb.1
 have h0 := bK (av.tw w0.heap.size) av.tz l
 repeat' (first | refine W_ ?_ | (refine dC ?_; intro ss bb))
 apply aj (X := Nat) [0, 3] (fun i => [(4, .int .i64 (i : Int))]) (fun i => [(ss, bb, .row 4 (di (av.tw w0.heap.size) av.tz l i))]) (fun i => i <= l.length) (fun i => l.length - i) 0 (Nat.zero_le _)
 exact kp_; exact nw_
 ·rw [<- h0]; exact .refl _
 intro i hi
 try dsimp only
 by_cases hlt : i < l.length
 ·obtain ⟨hrow, hset⟩ := cj (av.tw w0.heap.size) av.tz hlt
  have hra : (l.map (av.tw lo))[i]? = some (l[i].tw lo) := aK hlt
  have hbi := hb.2 _ (List.getElem_mem hlt)
  generalize l[i] = x at hset hra hbi
  have hct := wh hst lo x hbi
  unfold av.tw at hct
  rw [show x.tw lo = [.int .i64 x.kind, .int .i64 x.class_, .sl lo 3 (x.fields.map (ad.tw lo)), .sl lo 1 (aS x.numbers)] from rfl] at hra
  replace hrow : (di (av.tw w0.heap.size) av.tz l i)[i]? = some [.int .i64 0, .int .i64 0, .nils, .nils] := hrow
  repeat' (first | refine W_ ?_ | refine ab hG hst (hct) ?_ | refine bg ?_)
  refine ag (i + 1) (by omega) (by omega) (.of _ nw_ od_ (by rw [<- hset]; exact .refl _))
 ·obtain rfl : i = l.length := by omega
  rw [bL]
  repeat' refine W_ ?_
  refine aE x_ rfl (.tmp _ _ rfl) (fun _ => ?_)
  exact gP (fun x => av.fin _ _ _ x) List.mem_cons_self
theorem vU (hst : ay G) (l1 l2 : Nat) (x : av) (hb : x.small 1048576) : Ct Tryz.prog G 223 [.agg (x.tw l1), .agg (x.tw l2)] (fun _ => .bool true) := by
 refine ap Tryz.func223 rfl Tryz.ntmps223 rfl rfl fun w0 _ hG => ?_
 unfold av.small at hb
 have hsfields := hb.1
 have hsnumbers := hb.2
 unfold av.tw
 repeat' (first | refine W_ ?_ | refine aL ?_ | refine ab hG hst (ix hst l1 l2 x.fields hsfields) ?_ | refine ab hG hst (tr hst l1 l2 x.numbers hsnumbers) ?_)
 all_goals first
   | (exfalso; simp at hc; done)
   | (exact r1_)
theorem tE (hst : ay G) (l1 l2 : Nat) (l : List av) (hb : l.length <= 1048576 /\ ∀ y ∈ l, av.small 1048576 y) : Ct Tryz.prog G 142 [.sl l1 4 (l.map (av.tw l1)), .sl l2 4 (l.map (av.tw l2))] (fun _ => .bool true) := by
 refine ap Tryz.func142 rfl Tryz.ntmps142 rfl rfl fun w0 _ hG => ?_
 have hlen := av.len l1 l
 have hlen2 := av.len l2 l
 have hl1 := hb.1
 repeat' refine W_ ?_
 apply aj (X := Nat) [0, 1] (fun i => [(5, .int .i64 (i : Int))]) (fun _ => []) (fun i => i <= l.length) (fun i => l.length - i) 0 (Nat.zero_le _)
 exact kp_; exact nw_
 ·exact .refl _
 intro i hi
 try dsimp only
 by_cases hlt : i < l.length
 ·have hr1 : (l.map (av.tw l1))[i]? = some (l[i].tw l1) := aK hlt
  have hr2 : (l.map (av.tw l2))[i]? = some (l[i].tw l2) := aK hlt
  have hbi := hb.2 _ (List.getElem_mem hlt)
  generalize l[i] = x at hr1 hr2 hbi
  have hct := vU hst l1 l2 x hbi
  unfold av.tw at hct
  rw [show x.tw l1 = [.int .i64 x.kind, .int .i64 x.class_, .sl l1 3 (x.fields.map (ad.tw l1)), .sl l1 1 (aS x.numbers)] from rfl] at hr1
  rw [show x.tw l2 = [.int .i64 x.kind, .int .i64 x.class_, .sl l2 3 (x.fields.map (ad.tw l2)), .sl l2 1 (aS x.numbers)] from rfl] at hr2
  repeat' (first | refine V_ ?_ | refine ae hG hst (hct) ?_)
  exact ag (i + 1) (by omega) (by omega) (.of _ nw_ od_ pk_)
 ·repeat' refine W_ ?_
  exact r1_
end
def aP.tw (lo : Nat) (x : aP) : List TV := [.sl lo 3 (x.classes.map (aa.tw lo)), .sl lo 4 (x.objects.map (av.tw lo)), .sl lo 1 (cg x.output), .int .i64 x.ticks, .int .i64 x.budget, .int .i64 x.made]
def aP.small (n : Nat) (x : aP) : Prop := (x.classes.length <= n /\ ∀ y ∈ x.classes, aa.small n y) /\ (x.objects.length <= n /\ ∀ y ∈ x.objects, av.small n y) /\ (x.output.length <= n /\ ∀ y ∈ x.output, ByteArray.size y <= n)
def aP.tz : List TV := [.nils, .nils, .nils, .int .i64 0, .int .i64 0, .int .i64 0]
theorem aP.fin (B K : Nat) (objs : aI) (_x : aP) : jk B objs K (_x.tw B) (_x.tw K) := .cons (cT (fun _x => aa.fin B K objs _x) _) (.cons (cT (fun _x => av.fin B K objs _x) _) (.cons (cT (fun _x => .cons (.flat rfl) .nil) _) (.cons (.flat rfl) (.cons (.flat rfl) (.cons (.flat rfl) (.nil))))))
theorem aP.len (lo : Nat) (l : List aP) : (l.map (aP.tw lo)).length = l.length := by simp
section
variable {G : World -> Prop}
theorem y9 (hst : ay G) (lo : Nat) (x : aP) (left : Int) (h : 0 <= left /\ left <= 1048576) (hb : x.small 9223372036854775807) : CtM Tryz.prog G 77 [.agg (x.tw lo), .int .i64 left] [] (fun y : Int => -1 <= y /\ y <= left /\ (0 <= y -> x.small 1048576)) (fun _ => []) (fun y => .int .i64 y) := by
 refine aA Tryz.func77 rfl Tryz.ntmps77 rfl rfl rfl fun w0 R gs objsR hG hR => ?_
 obtain rfl := hR.inv0
 clear hR
 unfold aP.small at hb
 skip
 unfold aP.tw
 repeat' (first | refine W_ ?_ | refine aL ?_ | ((with_reducible apply aJ); rfl; kernel_rfl; (repeat (first | exact aH.nil | ((with_reducible apply aH.cons); rfl))); exact hG; exact i8 hst lo x.classes _ (by omega) hb.1; exact .nil _; intro y1 hy1; refine bO ?_) | ((with_reducible apply aJ); rfl; kernel_rfl; (repeat (first | exact aH.nil | ((with_reducible apply aH.cons); rfl))); exact hG; exact uq hst lo x.objects _ (by omega) hb.2.1; exact .nil _; intro y2 hy2; refine bO ?_) | ((with_reducible apply aJ); rfl; kernel_rfl; (repeat (first | exact aH.nil | ((with_reducible apply aH.cons); rfl))); exact hG; exact ma lo x.output _ (by omega) hb.2.2; exact .nil _; intro y3 hy3; refine bO ?_) | refine c_ (fun hc => ?_) (fun hc => ?_))
 all_goals first
   | exact aw x_ rfl (-1) ⟨by omega, by omega, fun h => by omega⟩ rfl (.nil R) (.refl _) (.tmp _ _ rfl) rfl
   | (refine aw x_ rfl _ ⟨?_, ?_, fun _ => ?_⟩ rfl (.nil R) (.refl _) (.tmp _ _ rfl) rfl
      ·omega
      ·omega
      ·exact ⟨hy1.2.2 (by omega), hy2.2.2 (by omega), hy3.2.2 (by omega)⟩)
theorem yK (hst : ay G) (lo : Nat) (x : aP) (hb : x.small 1048576) : Ct Tryz.prog G 86 [.agg (x.tw lo)] (fun K => .agg (x.tw K)) := by
 refine ap Tryz.func86 rfl Tryz.ntmps86 rfl rfl fun w0 _ hG => ?_
 unfold aP.small at hb
 have hsclasses := hb.1
 have hsobjects := hb.2.1
 have hsoutput := (hb.2.2).1
 repeat' (first | refine W_ ?_ | refine aL ?_ | (refine ai ?_; intro ss bb) | refine ac ?_ | refine ab hG hst (jm hst lo x.classes (hsclasses)) ?_ | refine ab hG hst (ul hst lo x.objects (hsobjects)) ?_ | refine ab hG hst (lV hst lo x.output (hsoutput)) ?_)
 refine aE x_ rfl (.cell _ _ _ _ _ rfl mm_ (by kernel_rfl) (by kernel_rfl) (by kernel_rfl)) (fun _ => ?_)
 exact e8 (aP.fin _ _ _ x)
theorem yS (hst : ay G) (l1 l2 : Nat) (x : aP) (hb : x.small 1048576) : Ct Tryz.prog G 57 [.agg (x.tw l1), .agg (x.tw l2)] (fun _ => .bool true) := by
 refine ap Tryz.func57 rfl Tryz.ntmps57 rfl rfl fun w0 _ hG => ?_
 unfold aP.small at hb
 have hsclasses := hb.1
 have hsobjects := hb.2.1
 have hsoutput := (hb.2.2).1
 unfold aP.tw
 repeat' (first | refine W_ ?_ | refine aL ?_ | refine ab hG hst (jq hst l1 l2 x.classes hsclasses) ?_ | refine ab hG hst (tE hst l1 l2 x.objects hsobjects) ?_ | refine ab hG hst (mA l1 l2 x.output hsoutput) ?_)
 all_goals first
   | (exfalso; simp at hc; done)
   | (exact r1_)
end
def aq.tw (_lo : Nat) (x : aq) : List TV := [.int .i64 x.code, .int .i64 x.outer, .int .i64 x.home, .int .i64 x.self.kind, .int .i64 x.self.number, .str x.self.text]
def aq.small (n : Nat) (x : aq) : Prop := (ad.small n x.self)
def aq.tz : List TV := [.int .i64 0, .int .i64 0, .int .i64 0, .int .i64 0, .int .i64 0, .str ⟨#[]⟩]
theorem aq.fin (B K : Nat) (objs : aI) (x : aq) : jk B objs K (x.tw B) (x.tw K) := .cons (.flat rfl) (.cons (.flat rfl) (.cons (.flat rfl) (.cons (.flat rfl) (.cons (.flat rfl) (.cons (.flat rfl) (.nil))))))
theorem aq.len (lo : Nat) (l : List aq) : (l.map (aq.tw lo)).length = l.length := by simp
section
variable {G : World -> Prop}
theorem um (hst : ay G) (lo : Nat) (x : aq) (left : Int) (h : 0 <= left /\ left <= 1048576) (hb : x.small 9223372036854775807) : CtM Tryz.prog G 159 [.agg (x.tw lo), .int .i64 left] [] (fun y : Int => -1 <= y /\ y <= left /\ (0 <= y -> x.small 1048576)) (fun _ => []) (fun y => .int .i64 y) := by
 refine aA Tryz.func159 rfl Tryz.ntmps159 rfl rfl rfl fun w0 R gs objsR hG hR => ?_
 obtain rfl := hR.inv0
 clear hR
 unfold aq.small at hb
 skip
 unfold aq.tw
 repeat' (first | refine W_ ?_ | refine aL ?_ | ((with_reducible apply aJ); rfl; kernel_rfl; (repeat (first | exact aH.nil | ((with_reducible apply aH.cons); rfl))); exact hG; exact jw hst lo x.self _ (by omega) hb; exact .nil _; intro y1 hy1; refine bO ?_) | refine c_ (fun hc => ?_) (fun hc => ?_))
 all_goals first
   | exact aw x_ rfl (-1) ⟨by omega, by omega, fun h => by omega⟩ rfl (.nil R) (.refl _) (.tmp _ _ rfl) rfl
   | (refine aw x_ rfl _ ⟨?_, ?_, fun _ => ?_⟩ rfl (.nil R) (.refl _) (.tmp _ _ rfl) rfl
      ·omega
      ·omega
      ·exact hy1.2.2 (by omega))
theorem q6 (hst : ay G) (lo : Nat) (l : List aq) (left : Int) (h : 0 <= left /\ left <= 1048576) (hb : l.length <= 9223372036854775807 /\ ∀ y ∈ l, aq.small 9223372036854775807 y) : CtM Tryz.prog G 78 [.sl lo 6 (l.map (aq.tw lo)), .int .i64 left] [] (fun y : Int => -1 <= y /\ y <= left /\ (0 <= y -> l.length <= 1048576 /\ ∀ y ∈ l, aq.small 1048576 y)) (fun _ => []) (fun y => .int .i64 y) := by
 refine aA Tryz.func78 rfl Tryz.ntmps78 rfl rfl rfl fun w0 R gs objsR hG hR => ?_
 obtain rfl := hR.inv0
 clear hR
 have hlen := aq.len lo l
 have hl1 := hb.1
 by_cases hn : left - l.length < 0
 ·repeat' refine W_ ?_
  exact aw x_ rfl (-1) ⟨by omega, by omega, fun h => by omega⟩ rfl (.nil R) (.refl _) (.tmp _ _ rfl) rfl
 ·repeat' refine W_ ?_
  apply aj (X := Nat × Int) [0, 1000000] (fun x => [(5, .int .i64 (x.1 : Int)), (1, .int .i64 x.2)]) (fun _ => R) (fun x => x.1 <= l.length /\ 0 <= x.2 /\ x.2 <= left /\ ∀ y ∈ l.take x.1, aq.small 1048576 y) (fun x => l.length - x.1) (0, left - l.length) ⟨Nat.zero_le _, by dsimp only; omega, by dsimp only; omega, by simp⟩
  exact kp_; exact nw_
  ·exact .refl _
  rintro ⟨i, lf⟩ ⟨hi, h0, h1, hs⟩
  dsimp only at hi h0 h1 hs |-
  by_cases hlt : i < l.length
  ·have hrow : (l.map (aq.tw lo))[i]? = some (l[i].tw lo) := aK hlt
   have hbi := hb.2 _ (List.getElem_mem hlt)
   have hta := aX (p := aq.small 1048576) hlt hs
   generalize l[i] = x at hrow hbi hta
   have hct := um hst lo x lf (by omega) hbi
   unfold aq.tw at hct
   rw [show x.tw lo = [.int .i64 x.code, .int .i64 x.outer, .int .i64 x.home, .int .i64 x.self.kind, .int .i64 x.self.number, .str x.self.text] from rfl] at hrow
   repeat' (first | refine W_ ?_ | ((with_reducible apply aJ); rfl; kernel_rfl; (repeat (first | exact aH.nil | ((with_reducible apply aH.cons); rfl))); exact hG; exact hct; exact .nil _; intro y hy; refine bO ?_) | refine c_ (fun hc => ?_) (fun hc => ?_))
   all_goals first
     | exact aw x_ rfl (-1) ⟨by omega, by omega, fun h => by omega⟩ rfl (.nil R) (.refl _) (.tmp _ _ rfl) rfl
     | exact ag (i + 1, y) ⟨by dsimp only; omega, by dsimp only; omega, by dsimp only; omega, hta (hy.2.2 (by omega))⟩ (by dsimp only; omega) (.of _ nw_ od_ pk_)
  ·rw [List.take_of_length_le (by omega)] at hs
   repeat' refine W_ ?_
   exact aw x_ rfl lf ⟨by omega, by omega, fun _ => ⟨by omega, hs⟩⟩ rfl (.nil R) (.refl _) (.tmp _ _ rfl) rfl
theorem ml (hst : ay G) (lo : Nat) (x : aq) (hb : x.small 1048576) : Ct Tryz.prog G 175 [.agg (x.tw lo)] (fun K => .agg (x.tw K)) := by
 refine ap Tryz.func175 rfl Tryz.ntmps175 rfl rfl fun w0 _ hG => ?_
 unfold aq.small at hb
 have hsself := hb
 repeat' (first | refine W_ ?_ | refine aL ?_ | (refine ai ?_; intro ss bb) | refine ac ?_ | refine ab hG hst (eZ hst lo x.self (hsself)) ?_)
 refine aE x_ rfl (.cell _ _ _ _ _ rfl mm_ (by kernel_rfl) (by kernel_rfl) (by kernel_rfl)) (fun _ => ?_)
 exact e8 (aq.fin _ _ _ x)
theorem rL (hst : ay G) (lo : Nat) (l : List aq) (hb : l.length <= 1048576 /\ ∀ y ∈ l, aq.small 1048576 y) : Ct Tryz.prog G 87 [.sl lo 6 (l.map (aq.tw lo))] (fun K => .sl K 6 (l.map (aq.tw K))) := by
 refine ap Tryz.func87 rfl Tryz.ntmps87 rfl rfl fun w0 _ hG => ?_
 have hlen := aq.len lo l
 have hl1 := hb.1
 have h0 := bK (aq.tw w0.heap.size) aq.tz l
 repeat' (first | refine W_ ?_ | (refine dC ?_; intro ss bb))
 apply aj (X := Nat) [0, 3] (fun i => [(4, .int .i64 (i : Int))]) (fun i => [(ss, bb, .row 6 (di (aq.tw w0.heap.size) aq.tz l i))]) (fun i => i <= l.length) (fun i => l.length - i) 0 (Nat.zero_le _)
 exact kp_; exact nw_
 ·rw [<- h0]; exact .refl _
 intro i hi
 try dsimp only
 by_cases hlt : i < l.length
 ·obtain ⟨hrow, hset⟩ := cj (aq.tw w0.heap.size) aq.tz hlt
  have hra : (l.map (aq.tw lo))[i]? = some (l[i].tw lo) := aK hlt
  have hbi := hb.2 _ (List.getElem_mem hlt)
  generalize l[i] = x at hset hra hbi
  have hct := ml hst lo x hbi
  unfold aq.tw at hct
  rw [show x.tw lo = [.int .i64 x.code, .int .i64 x.outer, .int .i64 x.home, .int .i64 x.self.kind, .int .i64 x.self.number, .str x.self.text] from rfl] at hra
  replace hrow : (di (aq.tw w0.heap.size) aq.tz l i)[i]? = some [.int .i64 0, .int .i64 0, .int .i64 0, .int .i64 0, .int .i64 0, .str ⟨#[]⟩] := hrow
  repeat' (first | refine W_ ?_ | refine ab hG hst (hct) ?_ | refine bg ?_)
  refine ag (i + 1) (by omega) (by omega) (.of _ nw_ od_ (by rw [<- hset]; exact .refl _))
 ·obtain rfl : i = l.length := by omega
  rw [bL]
  repeat' refine W_ ?_
  refine aE x_ rfl (.tmp _ _ rfl) (fun _ => ?_)
  exact gP (fun x => aq.fin _ _ _ x) List.mem_cons_self
theorem sm (hst : ay G) (l1 l2 : Nat) (x : aq) (hb : x.small 1048576) : Ct Tryz.prog G 143 [.agg (x.tw l1), .agg (x.tw l2)] (fun _ => .bool true) := by
 refine ap Tryz.func143 rfl Tryz.ntmps143 rfl rfl fun w0 _ hG => ?_
 unfold aq.small at hb
 have hsself := hb
 unfold aq.tw
 repeat' (first | refine W_ ?_ | refine aL ?_ | refine ab hG hst (ju hst l1 l2 x.self hsself) ?_)
 all_goals first
   | (exfalso; simp at hc; done)
   | (exact r1_)
theorem qU (hst : ay G) (l1 l2 : Nat) (l : List aq) (hb : l.length <= 1048576 /\ ∀ y ∈ l, aq.small 1048576 y) : Ct Tryz.prog G 58 [.sl l1 6 (l.map (aq.tw l1)), .sl l2 6 (l.map (aq.tw l2))] (fun _ => .bool true) := by
 refine ap Tryz.func58 rfl Tryz.ntmps58 rfl rfl fun w0 _ hG => ?_
 have hlen := aq.len l1 l
 have hlen2 := aq.len l2 l
 have hl1 := hb.1
 repeat' refine W_ ?_
 apply aj (X := Nat) [0, 1] (fun i => [(5, .int .i64 (i : Int))]) (fun _ => []) (fun i => i <= l.length) (fun i => l.length - i) 0 (Nat.zero_le _)
 exact kp_; exact nw_
 ·exact .refl _
 intro i hi
 try dsimp only
 by_cases hlt : i < l.length
 ·have hr1 : (l.map (aq.tw l1))[i]? = some (l[i].tw l1) := aK hlt
  have hr2 : (l.map (aq.tw l2))[i]? = some (l[i].tw l2) := aK hlt
  have hbi := hb.2 _ (List.getElem_mem hlt)
  generalize l[i] = x at hr1 hr2 hbi
  have hct := sm hst l1 l2 x hbi
  unfold aq.tw at hct
  rw [show x.tw l1 = [.int .i64 x.code, .int .i64 x.outer, .int .i64 x.home, .int .i64 x.self.kind, .int .i64 x.self.number, .str x.self.text] from rfl] at hr1
  rw [show x.tw l2 = [.int .i64 x.code, .int .i64 x.outer, .int .i64 x.home, .int .i64 x.self.kind, .int .i64 x.self.number, .str x.self.text] from rfl] at hr2
  repeat' (first | refine V_ ?_ | refine ae hG hst (hct) ?_)
  exact ag (i + 1) (by omega) (by omega) (.of _ nw_ od_ pk_)
 ·repeat' refine W_ ?_
  exact r1_
end
def ao.tw (lo : Nat) (x : ao) : List TV := [.int .i64 x.mark, .int .i64 x.code, .int .i64 x.pc, .int .i64 x.sender, .int .i64 x.outer, .int .i64 x.home, .int .i64 x.self.kind, .int .i64 x.self.number, .str x.self.text, .sl lo 3 (x.slots.map (ad.tw lo)), .sl lo 3 (x.stack.map (ad.tw lo)), .sl lo 3 (x.values.map (ad.tw lo)), .int .i64 x.other, .bool x.retry]
def ao.small (n : Nat) (x : ao) : Prop := (ad.small n x.self) /\ (x.slots.length <= n /\ ∀ y ∈ x.slots, ad.small n y) /\ (x.stack.length <= n /\ ∀ y ∈ x.stack, ad.small n y) /\ (x.values.length <= n /\ ∀ y ∈ x.values, ad.small n y)
def ao.tz : List TV := [.int .i64 0, .int .i64 0, .int .i64 0, .int .i64 0, .int .i64 0, .int .i64 0, .int .i64 0, .int .i64 0, .str ⟨#[]⟩, .nils, .nils, .nils, .int .i64 0, .bool false]
theorem ao.fin (B K : Nat) (objs : aI) (x : ao) : jk B objs K (x.tw B) (x.tw K) := .cons (.flat rfl) (.cons (.flat rfl) (.cons (.flat rfl) (.cons (.flat rfl) (.cons (.flat rfl) (.cons (.flat rfl) (.cons (.flat rfl) (.cons (.flat rfl) (.cons (.flat rfl) (.cons (cT (fun x => ad.fin B K objs x) _) (.cons (cT (fun x => ad.fin B K objs x) _) (.cons (cT (fun x => ad.fin B K objs x) _) (.cons (.flat rfl) (.cons (.flat rfl) (.nil))))))))))))))
theorem ao.len (lo : Nat) (l : List ao) : (l.map (ao.tw lo)).length = l.length := by simp
section
variable {G : World -> Prop}
theorem uH (hst : ay G) (lo : Nat) (x : ao) (left : Int) (h : 0 <= left /\ left <= 1048576) (hb : x.small 9223372036854775807) : CtM Tryz.prog G 160 [.agg (x.tw lo), .int .i64 left] [] (fun y : Int => -1 <= y /\ y <= left /\ (0 <= y -> x.small 1048576)) (fun _ => []) (fun y => .int .i64 y) := by
 refine aA Tryz.func160 rfl Tryz.ntmps160 rfl rfl rfl fun w0 R gs objsR hG hR => ?_
 obtain rfl := hR.inv0
 clear hR
 unfold ao.small at hb
 skip
 unfold ao.tw
 repeat' (first | refine W_ ?_ | refine aL ?_ | ((with_reducible apply aJ); rfl; kernel_rfl; (repeat (first | exact aH.nil | ((with_reducible apply aH.cons); rfl))); exact hG; exact jw hst lo x.self _ (by omega) hb.1; exact .nil _; intro y1 hy1; refine bO ?_) | ((with_reducible apply aJ); rfl; kernel_rfl; (repeat (first | exact aH.nil | ((with_reducible apply aH.cons); rfl))); exact hG; exact iz hst lo x.slots _ (by omega) hb.2.1; exact .nil _; intro y2 hy2; refine bO ?_) | ((with_reducible apply aJ); rfl; kernel_rfl; (repeat (first | exact aH.nil | ((with_reducible apply aH.cons); rfl))); exact hG; exact iz hst lo x.stack _ (by omega) hb.2.2.1; exact .nil _; intro y3 hy3; refine bO ?_) | ((with_reducible apply aJ); rfl; kernel_rfl; (repeat (first | exact aH.nil | ((with_reducible apply aH.cons); rfl))); exact hG; exact iz hst lo x.values _ (by omega) hb.2.2.2; exact .nil _; intro y4 hy4; refine bO ?_) | refine c_ (fun hc => ?_) (fun hc => ?_))
 all_goals first
   | exact aw x_ rfl (-1) ⟨by omega, by omega, fun h => by omega⟩ rfl (.nil R) (.refl _) (.tmp _ _ rfl) rfl
   | (refine aw x_ rfl _ ⟨?_, ?_, fun _ => ?_⟩ rfl (.nil R) (.refl _) (.tmp _ _ rfl) rfl
      ·omega
      ·omega
      ·exact ⟨hy1.2.2 (by omega), hy2.2.2 (by omega), hy3.2.2 (by omega), hy4.2.2 (by omega)⟩)
theorem rE (hst : ay G) (lo : Nat) (l : List ao) (left : Int) (h : 0 <= left /\ left <= 1048576) (hb : l.length <= 9223372036854775807 /\ ∀ y ∈ l, ao.small 9223372036854775807 y) : CtM Tryz.prog G 79 [.sl lo 14 (l.map (ao.tw lo)), .int .i64 left] [] (fun y : Int => -1 <= y /\ y <= left /\ (0 <= y -> l.length <= 1048576 /\ ∀ y ∈ l, ao.small 1048576 y)) (fun _ => []) (fun y => .int .i64 y) := by
 refine aA Tryz.func79 rfl Tryz.ntmps79 rfl rfl rfl fun w0 R gs objsR hG hR => ?_
 obtain rfl := hR.inv0
 clear hR
 have hlen := ao.len lo l
 have hl1 := hb.1
 by_cases hn : left - l.length < 0
 ·repeat' refine W_ ?_
  exact aw x_ rfl (-1) ⟨by omega, by omega, fun h => by omega⟩ rfl (.nil R) (.refl _) (.tmp _ _ rfl) rfl
 ·repeat' refine W_ ?_
  apply aj (X := Nat × Int) [0, 1000000] (fun x => [(5, .int .i64 (x.1 : Int)), (1, .int .i64 x.2)]) (fun _ => R) (fun x => x.1 <= l.length /\ 0 <= x.2 /\ x.2 <= left /\ ∀ y ∈ l.take x.1, ao.small 1048576 y) (fun x => l.length - x.1) (0, left - l.length) ⟨Nat.zero_le _, by dsimp only; omega, by dsimp only; omega, by simp⟩
  exact kp_; exact nw_
  ·exact .refl _
  rintro ⟨i, lf⟩ ⟨hi, h0, h1, hs⟩
  dsimp only at hi h0 h1 hs |-
  by_cases hlt : i < l.length
  ·have hrow : (l.map (ao.tw lo))[i]? = some (l[i].tw lo) := aK hlt
   have hbi := hb.2 _ (List.getElem_mem hlt)
   have hta := aX (p := ao.small 1048576) hlt hs
   generalize l[i] = x at hrow hbi hta
   have hct := uH hst lo x lf (by omega) hbi
   unfold ao.tw at hct
   rw [show x.tw lo = [.int .i64 x.mark, .int .i64 x.code, .int .i64 x.pc, .int .i64 x.sender, .int .i64 x.outer, .int .i64 x.home, .int .i64 x.self.kind, .int .i64 x.self.number, .str x.self.text, .sl lo 3 (x.slots.map (ad.tw lo)), .sl lo 3 (x.stack.map (ad.tw lo)), .sl lo 3 (x.values.map (ad.tw lo)), .int .i64 x.other, .bool x.retry] from rfl] at hrow
   repeat' (first | refine W_ ?_ | ((with_reducible apply aJ); rfl; kernel_rfl; (repeat (first | exact aH.nil | ((with_reducible apply aH.cons); rfl))); exact hG; exact hct; exact .nil _; intro y hy; refine bO ?_) | refine c_ (fun hc => ?_) (fun hc => ?_))
   all_goals first
     | exact aw x_ rfl (-1) ⟨by omega, by omega, fun h => by omega⟩ rfl (.nil R) (.refl _) (.tmp _ _ rfl) rfl
     | exact ag (i + 1, y) ⟨by dsimp only; omega, by dsimp only; omega, by dsimp only; omega, hta (hy.2.2 (by omega))⟩ (by dsimp only; omega) (.of _ nw_ od_ pk_)
  ·rw [List.take_of_length_le (by omega)] at hs
   repeat' refine W_ ?_
   exact aw x_ rfl lf ⟨by omega, by omega, fun _ => ⟨by omega, hs⟩⟩ rfl (.nil R) (.refl _) (.tmp _ _ rfl) rfl
theorem sQ (hst : ay G) (lo : Nat) (x : ao) (hb : x.small 1048576) : Ct Tryz.prog G 176 [.agg (x.tw lo)] (fun K => .agg (x.tw K)) := by
 refine ap Tryz.func176 rfl Tryz.ntmps176 rfl rfl fun w0 _ hG => ?_
 unfold ao.small at hb
 have hsself := hb.1
 have hsslots := hb.2.1
 have hsstack := hb.2.2.1
 have hsvalues := hb.2.2.2
 repeat' (first | refine W_ ?_ | refine aL ?_ | (refine ai ?_; intro ss bb) | refine ac ?_ | refine ab hG hst (eZ hst lo x.self (hsself)) ?_ | refine ab hG hst (iA hst lo x.slots (hsslots)) ?_ | refine ab hG hst (iA hst lo x.stack (hsstack)) ?_ | refine ab hG hst (iA hst lo x.values (hsvalues)) ?_)
 refine aE x_ rfl (.cell _ _ _ _ _ rfl mm_ (by kernel_rfl) (by kernel_rfl) (by kernel_rfl)) (fun _ => ?_)
 exact e8 (ao.fin _ _ _ x)
theorem rB (hst : ay G) (lo : Nat) (l : List ao) (hb : l.length <= 1048576 /\ ∀ y ∈ l, ao.small 1048576 y) : Ct Tryz.prog G 88 [.sl lo 14 (l.map (ao.tw lo))] (fun K => .sl K 14 (l.map (ao.tw K))) := by
 refine ap Tryz.func88 rfl Tryz.ntmps88 rfl rfl fun w0 _ hG => ?_
 have hlen := ao.len lo l
 have hl1 := hb.1
 have h0 := bK (ao.tw w0.heap.size) ao.tz l
 repeat' (first | refine W_ ?_ | (refine dC ?_; intro ss bb))
 apply aj (X := Nat) [0, 3] (fun i => [(4, .int .i64 (i : Int))]) (fun i => [(ss, bb, .row 14 (di (ao.tw w0.heap.size) ao.tz l i))]) (fun i => i <= l.length) (fun i => l.length - i) 0 (Nat.zero_le _)
 exact kp_; exact nw_
 ·rw [<- h0]; exact .refl _
 intro i hi
 try dsimp only
 by_cases hlt : i < l.length
 ·obtain ⟨hrow, hset⟩ := cj (ao.tw w0.heap.size) ao.tz hlt
  have hra : (l.map (ao.tw lo))[i]? = some (l[i].tw lo) := aK hlt
  have hbi := hb.2 _ (List.getElem_mem hlt)
  generalize l[i] = x at hset hra hbi
  have hct := sQ hst lo x hbi
  unfold ao.tw at hct
  rw [show x.tw lo = [.int .i64 x.mark, .int .i64 x.code, .int .i64 x.pc, .int .i64 x.sender, .int .i64 x.outer, .int .i64 x.home, .int .i64 x.self.kind, .int .i64 x.self.number, .str x.self.text, .sl lo 3 (x.slots.map (ad.tw lo)), .sl lo 3 (x.stack.map (ad.tw lo)), .sl lo 3 (x.values.map (ad.tw lo)), .int .i64 x.other, .bool x.retry] from rfl] at hra
  replace hrow : (di (ao.tw w0.heap.size) ao.tz l i)[i]? = some [.int .i64 0, .int .i64 0, .int .i64 0, .int .i64 0, .int .i64 0, .int .i64 0, .int .i64 0, .int .i64 0, .str ⟨#[]⟩, .nils, .nils, .nils, .int .i64 0, .bool false] := hrow
  repeat' (first | refine W_ ?_ | refine ab hG hst (hct) ?_ | refine bg ?_)
  refine ag (i + 1) (by omega) (by omega) (.of _ nw_ od_ (by rw [<- hset]; exact .refl _))
 ·obtain rfl : i = l.length := by omega
  rw [bL]
  repeat' refine W_ ?_
  refine aE x_ rfl (.tmp _ _ rfl) (fun _ => ?_)
  exact gP (fun x => ao.fin _ _ _ x) List.mem_cons_self
theorem uF (hst : ay G) (l1 l2 : Nat) (x : ao) (hb : x.small 1048576) : Ct Tryz.prog G 144 [.agg (x.tw l1), .agg (x.tw l2)] (fun _ => .bool true) := by
 refine ap Tryz.func144 rfl Tryz.ntmps144 rfl rfl fun w0 _ hG => ?_
 unfold ao.small at hb
 have hsself := hb.1
 have hsslots := hb.2.1
 have hsstack := hb.2.2.1
 have hsvalues := hb.2.2.2
 unfold ao.tw
 repeat' (first | refine W_ ?_ | refine aL ?_ | refine ab hG hst (ju hst l1 l2 x.self hsself) ?_ | refine ab hG hst (ix hst l1 l2 x.slots hsslots) ?_ | refine ab hG hst (ix hst l1 l2 x.stack hsstack) ?_ | refine ab hG hst (ix hst l1 l2 x.values hsvalues) ?_ | refine c_ (fun hc => ?_) (fun hc => ?_))
 all_goals first
   | (exfalso; simp at hc; done)
   | (exact r1_)
theorem qK (hst : ay G) (l1 l2 : Nat) (l : List ao) (hb : l.length <= 1048576 /\ ∀ y ∈ l, ao.small 1048576 y) : Ct Tryz.prog G 59 [.sl l1 14 (l.map (ao.tw l1)), .sl l2 14 (l.map (ao.tw l2))] (fun _ => .bool true) := by
 refine ap Tryz.func59 rfl Tryz.ntmps59 rfl rfl fun w0 _ hG => ?_
 have hlen := ao.len l1 l
 have hlen2 := ao.len l2 l
 have hl1 := hb.1
 repeat' refine W_ ?_
 apply aj (X := Nat) [0, 1] (fun i => [(5, .int .i64 (i : Int))]) (fun _ => []) (fun i => i <= l.length) (fun i => l.length - i) 0 (Nat.zero_le _)
 exact kp_; exact nw_
 ·exact .refl _
 intro i hi
 try dsimp only
 by_cases hlt : i < l.length
 ·have hr1 : (l.map (ao.tw l1))[i]? = some (l[i].tw l1) := aK hlt
  have hr2 : (l.map (ao.tw l2))[i]? = some (l[i].tw l2) := aK hlt
  have hbi := hb.2 _ (List.getElem_mem hlt)
  generalize l[i] = x at hr1 hr2 hbi
  have hct := uF hst l1 l2 x hbi
  unfold ao.tw at hct
  rw [show x.tw l1 = [.int .i64 x.mark, .int .i64 x.code, .int .i64 x.pc, .int .i64 x.sender, .int .i64 x.outer, .int .i64 x.home, .int .i64 x.self.kind, .int .i64 x.self.number, .str x.self.text, .sl l1 3 (x.slots.map (ad.tw l1)), .sl l1 3 (x.stack.map (ad.tw l1)), .sl l1 3 (x.values.map (ad.tw l1)), .int .i64 x.other, .bool x.retry] from rfl] at hr1
  rw [show x.tw l2 = [.int .i64 x.mark, .int .i64 x.code, .int .i64 x.pc, .int .i64 x.sender, .int .i64 x.outer, .int .i64 x.home, .int .i64 x.self.kind, .int .i64 x.self.number, .str x.self.text, .sl l2 3 (x.slots.map (ad.tw l2)), .sl l2 3 (x.stack.map (ad.tw l2)), .sl l2 3 (x.values.map (ad.tw l2)), .int .i64 x.other, .bool x.retry] from rfl] at hr2
  repeat' (first | refine V_ ?_ | refine ae hG hst (hct) ?_)
  exact ag (i + 1) (by omega) (by omega) (.of _ nw_ od_ pk_)
 ·repeat' refine W_ ?_
  exact r1_
end
def au.tw (_lo : Nat) (x : au) : List TV := [.int .i64 x.at_, .bool x.main]
def au.small (_n : Nat) (_x : au) : Prop := True
def au.tz : List TV := [.int .i64 0, .bool false]
theorem au.fin (B K : Nat) (objs : aI) (x : au) : jk B objs K (x.tw B) (x.tw K) := .cons (.flat rfl) (.cons (.flat rfl) (.nil))
theorem au.len (lo : Nat) (l : List au) : (l.map (au.tw lo)).length = l.length := by simp
section
variable {G : World -> Prop}
theorem rF (_ : ay G) (lo : Nat) (l : List au) (left : Int) (h : 0 <= left /\ left <= 1048576) (hb : l.length <= 9223372036854775807 /\ ∀ y ∈ l, au.small 9223372036854775807 y) : CtM Tryz.prog G 80 [.sl lo 2 (l.map (au.tw lo)), .int .i64 left] [] (fun y : Int => -1 <= y /\ y <= left /\ (0 <= y -> l.length <= 1048576 /\ ∀ y ∈ l, au.small 1048576 y)) (fun _ => []) (fun y => .int .i64 y) := by
 refine aA Tryz.func80 rfl Tryz.ntmps80 rfl rfl rfl fun w0 R gs objsR hG hR => ?_
 obtain rfl := hR.inv0
 clear hR
 have hlen := au.len lo l
 have hl1 := hb.1
 by_cases hn : left - l.length < 0
 ·repeat' refine W_ ?_
  exact aw x_ rfl (-1) ⟨by omega, by omega, fun h => by omega⟩ rfl (.nil R) (.refl _) (.tmp _ _ rfl) rfl
 ·repeat' refine W_ ?_
  exact aw x_ rfl (left - l.length) ⟨by omega, by omega, fun _ => ⟨by omega, fun _ _ => trivial⟩⟩ rfl (.nil R) (.refl _) (.tmp _ _ rfl) rfl
theorem lY (_hst : ay G) (lo : Nat) (x : au) (_hb : x.small 1048576) : Ct Tryz.prog G 177 [.agg (x.tw lo)] (fun K => .agg (x.tw K)) := by
 refine ap Tryz.func177 rfl Tryz.ntmps177 rfl rfl fun w0 _ hG => ?_
 unfold au.small at _hb
 skip
 repeat' (first | refine W_ ?_ | refine aL ?_ | (refine ai ?_; intro ss bb) | refine ac ?_)
 refine aE x_ rfl (.cell _ _ _ _ _ rfl mm_ (by kernel_rfl) (by kernel_rfl) (by kernel_rfl)) (fun _ => ?_)
 exact e8 (au.fin _ _ _ x)
theorem qV (hst : ay G) (lo : Nat) (l : List au) (hb : l.length <= 1048576 /\ ∀ y ∈ l, au.small 1048576 y) : Ct Tryz.prog G 89 [.sl lo 2 (l.map (au.tw lo))] (fun K => .sl K 2 (l.map (au.tw K))) := by
 refine ap Tryz.func89 rfl Tryz.ntmps89 rfl rfl fun w0 _ hG => ?_
 have hlen := au.len lo l
 have hl1 := hb.1
 have h0 := bK (au.tw w0.heap.size) au.tz l
 repeat' (first | refine W_ ?_ | (refine dC ?_; intro ss bb))
 apply aj (X := Nat) [0, 3] (fun i => [(4, .int .i64 (i : Int))]) (fun i => [(ss, bb, .row 2 (di (au.tw w0.heap.size) au.tz l i))]) (fun i => i <= l.length) (fun i => l.length - i) 0 (Nat.zero_le _)
 exact kp_; exact nw_
 ·rw [<- h0]; exact .refl _
 intro i hi
 try dsimp only
 by_cases hlt : i < l.length
 ·obtain ⟨hrow, hset⟩ := cj (au.tw w0.heap.size) au.tz hlt
  have hra : (l.map (au.tw lo))[i]? = some (l[i].tw lo) := aK hlt
  have hbi := hb.2 _ (List.getElem_mem hlt)
  generalize l[i] = x at hset hra hbi
  have hct := lY hst lo x hbi
  unfold au.tw at hct
  rw [show x.tw lo = [.int .i64 x.at_, .bool x.main] from rfl] at hra
  replace hrow : (di (au.tw w0.heap.size) au.tz l i)[i]? = some [.int .i64 0, .bool false] := hrow
  repeat' (first | refine W_ ?_ | refine ab hG hst (hct) ?_ | refine bg ?_)
  refine ag (i + 1) (by omega) (by omega) (.of _ nw_ od_ (by rw [<- hset]; exact .refl _))
 ·obtain rfl : i = l.length := by omega
  rw [bL]
  repeat' refine W_ ?_
  refine aE x_ rfl (.tmp _ _ rfl) (fun _ => ?_)
  exact gP (fun x => au.fin _ _ _ x) List.mem_cons_self
theorem uJ (_hst : ay G) (l1 l2 : Nat) (x : au) (_hb : x.small 1048576) : Ct Tryz.prog G 145 [.agg (x.tw l1), .agg (x.tw l2)] (fun _ => .bool true) := by
 refine ap Tryz.func145 rfl Tryz.ntmps145 rfl rfl fun w0 _ hG => ?_
 unfold au.small at _hb
 skip
 unfold au.tw
 repeat' (first | refine W_ ?_ | refine aL ?_ | refine c_ (fun hc => ?_) (fun hc => ?_))
 all_goals first
   | (exfalso; simp at hc; done)
   | (exact r1_)
theorem qL (hst : ay G) (l1 l2 : Nat) (l : List au) (hb : l.length <= 1048576 /\ ∀ y ∈ l, au.small 1048576 y) : Ct Tryz.prog G 60 [.sl l1 2 (l.map (au.tw l1)), .sl l2 2 (l.map (au.tw l2))] (fun _ => .bool true) := by
 refine ap Tryz.func60 rfl Tryz.ntmps60 rfl rfl fun w0 _ hG => ?_
 have hlen := au.len l1 l
 have hlen2 := au.len l2 l
 have hl1 := hb.1
 repeat' refine W_ ?_
 apply aj (X := Nat) [0, 1] (fun i => [(5, .int .i64 (i : Int))]) (fun _ => []) (fun i => i <= l.length) (fun i => l.length - i) 0 (Nat.zero_le _)
 exact kp_; exact nw_
 ·exact .refl _
 intro i hi
 try dsimp only
 by_cases hlt : i < l.length
 ·have hr1 : (l.map (au.tw l1))[i]? = some (l[i].tw l1) := aK hlt
  have hr2 : (l.map (au.tw l2))[i]? = some (l[i].tw l2) := aK hlt
  have hbi := hb.2 _ (List.getElem_mem hlt)
  generalize l[i] = x at hr1 hr2 hbi
  have hct := uJ hst l1 l2 x hbi
  unfold au.tw at hct
  rw [show x.tw l1 = [.int .i64 x.at_, .bool x.main] from rfl] at hr1
  rw [show x.tw l2 = [.int .i64 x.at_, .bool x.main] from rfl] at hr2
  repeat' (first | refine V_ ?_ | refine ae hG hst (hct) ?_)
  exact ag (i + 1) (by omega) (by omega) (.of _ nw_ od_ pk_)
 ·repeat' refine W_ ?_
  exact r1_
end
def ak.tw (lo : Nat) (x : ak) : List TV := [.sl lo 3 (x.base.classes.map (aa.tw lo)), .sl lo 4 (x.base.codes.map (az.tw lo)), .sl lo 4 (x.base.entries.map (ar.tw lo)), .int .i64 x.base.main, .sl lo 3 (x.store.classes.map (aa.tw lo)), .sl lo 4 (x.store.objects.map (av.tw lo)), .sl lo 1 (cg x.store.output), .int .i64 x.store.ticks, .int .i64 x.store.budget, .int .i64 x.store.made, .sl lo 6 (x.blocks.map (aq.tw lo)), .sl lo 14 (x.contexts.map (ao.tw lo)), .sl lo 2 (x.processes.map (au.tw lo)), .sl lo 1 (aS x.ready), .int .i64 x.now, .int .i64 x.status, .int .i64 x.value.kind, .int .i64 x.value.number, .str x.value.text, .str x.fault]
def ak.small (n : Nat) (x : ak) : Prop := (aB.small n x.base) /\ (aP.small n x.store) /\ (x.blocks.length <= n /\ ∀ y ∈ x.blocks, aq.small n y) /\ (x.contexts.length <= n /\ ∀ y ∈ x.contexts, ao.small n y) /\ (x.processes.length <= n /\ ∀ y ∈ x.processes, au.small n y) /\ (x.ready.length <= n) /\ (ad.small n x.value) /\ (x.fault.size <= n)
def ak.tz : List TV := [.nils, .nils, .nils, .int .i64 0, .nils, .nils, .nils, .int .i64 0, .int .i64 0, .int .i64 0, .nils, .nils, .nils, .nils, .int .i64 0, .int .i64 0, .int .i64 0, .int .i64 0, .str ⟨#[]⟩, .str ⟨#[]⟩]
theorem ak.fin (B K : Nat) (objs : aI) (_x : ak) : jk B objs K (_x.tw B) (_x.tw K) := .cons (cT (fun _x => aa.fin B K objs _x) _) (.cons (cT (fun _x => az.fin B K objs _x) _) (.cons (cT (fun _x => ar.fin B K objs _x) _) (.cons (.flat rfl) (.cons (cT (fun _x => aa.fin B K objs _x) _) (.cons (cT (fun _x => av.fin B K objs _x) _) (.cons (cT (fun _x => .cons (.flat rfl) .nil) _) (.cons (.flat rfl) (.cons (.flat rfl) (.cons (.flat rfl) (.cons (cT (fun _x => aq.fin B K objs _x) _) (.cons (cT (fun _x => ao.fin B K objs _x) _) (.cons (cT (fun _x => au.fin B K objs _x) _) (.cons (cT (fun _x => .cons (.flat rfl) .nil) _) (.cons (.flat rfl) (.cons (.flat rfl) (.cons (.flat rfl) (.cons (.flat rfl) (.cons (.flat rfl) (.cons (.flat rfl) (.nil))))))))))))))))))))
theorem ak.len (lo : Nat) (l : List ak) : (l.map (ak.tw lo)).length = l.length := by simp
section
variable {G : World -> Prop}
theorem qx (hst : ay G) (lo : Nat) (x : ak) (left : Int) (h : 0 <= left /\ left <= 1048576) (hb : x.small 9223372036854775807) : CtM Tryz.prog G 21 [.agg (x.tw lo), .int .i64 left] [] (fun y : Int => -1 <= y /\ y <= left /\ (0 <= y -> x.small 1048576)) (fun _ => []) (fun y => .int .i64 y) := by
 refine aA Tryz.func21 rfl Tryz.ntmps21 rfl rfl rfl fun w0 R gs objsR hG hR => ?_
 obtain rfl := hR.inv0
 clear hR
 unfold ak.small at hb
 have hb8 : x.fault.size <= 9223372036854775807 := hb.2.2.2.2.2.2.2
 unfold ak.tw
 repeat' (first | refine W_ ?_ | refine aL ?_ | ((with_reducible apply aJ); rfl; kernel_rfl; (repeat (first | exact aH.nil | ((with_reducible apply aH.cons); rfl))); exact hG; exact qR hst lo x.base _ (by omega) hb.1; exact .nil _; intro y1 hy1; refine bO ?_) | ((with_reducible apply aJ); rfl; kernel_rfl; (repeat (first | exact aH.nil | ((with_reducible apply aH.cons); rfl))); exact hG; exact y9 hst lo x.store _ (by omega) hb.2.1; exact .nil _; intro y2 hy2; refine bO ?_) | ((with_reducible apply aJ); rfl; kernel_rfl; (repeat (first | exact aH.nil | ((with_reducible apply aH.cons); rfl))); exact hG; exact q6 hst lo x.blocks _ (by omega) hb.2.2.1; exact .nil _; intro y3 hy3; refine bO ?_) | ((with_reducible apply aJ); rfl; kernel_rfl; (repeat (first | exact aH.nil | ((with_reducible apply aH.cons); rfl))); exact hG; exact rE hst lo x.contexts _ (by omega) hb.2.2.2.1; exact .nil _; intro y4 hy4; refine bO ?_) | ((with_reducible apply aJ); rfl; kernel_rfl; (repeat (first | exact aH.nil | ((with_reducible apply aH.cons); rfl))); exact hG; exact rF hst lo x.processes _ (by omega) hb.2.2.2.2.1; exact .nil _; intro y5 hy5; refine bO ?_) | ((with_reducible apply aJ); rfl; kernel_rfl; (repeat (first | exact aH.nil | ((with_reducible apply aH.cons); rfl))); exact hG; exact tQ hst lo x.ready _ (by omega) hb.2.2.2.2.2.1; exact .nil _; intro y6 hy6; refine bO ?_) | ((with_reducible apply aJ); rfl; kernel_rfl; (repeat (first | exact aH.nil | ((with_reducible apply aH.cons); rfl))); exact hG; exact jw hst lo x.value _ (by omega) hb.2.2.2.2.2.2.1; exact .nil _; intro y7 hy7; refine bO ?_) | refine c_ (fun hc => ?_) (fun hc => ?_))
 all_goals first
   | exact aw x_ rfl (-1) ⟨by omega, by omega, fun h => by omega⟩ rfl (.nil R) (.refl _) (.tmp _ _ rfl) rfl
   | (refine aw x_ rfl _ ⟨?_, ?_, fun _ => ?_⟩ rfl (.nil R) (.refl _) (.tmp _ _ rfl) rfl
      ·omega
      ·omega
      ·exact ⟨hy1.2.2 (by omega), hy2.2.2 (by omega), hy3.2.2 (by omega), hy4.2.2 (by omega), hy5.2.2 (by omega), hy6.2.2 (by omega), hy7.2.2 (by omega), by omega⟩)
theorem qt (hst : ay G) (lo : Nat) (x : ak) (hb : x.small 1048576) : Ct Tryz.prog G 23 [.agg (x.tw lo)] (fun K => .agg (x.tw K)) := by
 refine ap Tryz.func23 rfl Tryz.ntmps23 rfl rfl fun w0 _ hG => ?_
 unfold ak.small at hb
 have hsbase := hb.1
 have hsstore := hb.2.1
 have hsblocks := hb.2.2.1
 have hscontexts := hb.2.2.2.1
 have hsprocesses := hb.2.2.2.2.1
 have hsready := hb.2.2.2.2.2.1
 have hsvalue := hb.2.2.2.2.2.2.1
 repeat' (first | refine W_ ?_ | refine aL ?_ | (refine ai ?_; intro ss bb) | refine ac ?_ | refine ab hG hst (qZ hst lo x.base (hsbase)) ?_ | refine ab hG hst (yK hst lo x.store (hsstore)) ?_ | refine ab hG hst (rL hst lo x.blocks (hsblocks)) ?_ | refine ab hG hst (rB hst lo x.contexts (hscontexts)) ?_ | refine ab hG hst (qV hst lo x.processes (hsprocesses)) ?_ | refine ab hG hst (uG hst lo x.ready (hsready)) ?_ | refine ab hG hst (eZ hst lo x.value (hsvalue)) ?_)
 refine aE x_ rfl (.cell _ _ _ _ _ rfl mm_ (by kernel_rfl) (by kernel_rfl) (by kernel_rfl)) (fun _ => ?_)
 exact e8 (ak.fin _ _ _ x)
theorem jG (hst : ay G) (l1 l2 : Nat) (x : ak) (hb : x.small 1048576) : Ct Tryz.prog G 16 [.agg (x.tw l1), .agg (x.tw l2)] (fun _ => .bool true) := by
 refine ap Tryz.func16 rfl Tryz.ntmps16 rfl rfl fun w0 _ hG => ?_
 unfold ak.small at hb
 have hsbase := hb.1
 have hsstore := hb.2.1
 have hsblocks := hb.2.2.1
 have hscontexts := hb.2.2.2.1
 have hsprocesses := hb.2.2.2.2.1
 have hsready := hb.2.2.2.2.2.1
 have hsvalue := hb.2.2.2.2.2.2.1
 have hnefault : ¬ x.fault ≠ x.fault := fun h => h rfl
 unfold ak.tw
 repeat' (first | refine W_ ?_ | refine aL ?_ | refine ab hG hst (rq hst l1 l2 x.base hsbase) ?_ | refine ab hG hst (yS hst l1 l2 x.store hsstore) ?_ | refine ab hG hst (qU hst l1 l2 x.blocks hsblocks) ?_ | refine ab hG hst (qK hst l1 l2 x.contexts hscontexts) ?_ | refine ab hG hst (qL hst l1 l2 x.processes hsprocesses) ?_ | refine ab hG hst (tr hst l1 l2 x.ready hsready) ?_ | refine ab hG hst (ju hst l1 l2 x.value hsvalue) ?_)
 all_goals first
   | (exfalso; simp at hc; done)
   | (exact r1_)
end
end Go.Proofs.YtiihihgjiklnoaaGreatDoor
