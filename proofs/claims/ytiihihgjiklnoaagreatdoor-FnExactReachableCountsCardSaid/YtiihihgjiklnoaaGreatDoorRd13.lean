/- Part 13 of the proof. -/
import Derived.Test.YtiihihgjiklnoaaGreatDoorRd8
set_option maxHeartbeats 2000000
set_option maxRecDepth 20000
namespace Go.Proofs.YtiihihgjiklnoaaGreatDoor
open Go Go.RowKit
section
variable {G : World -> Prop}
theorem qp (_ : ay G) (lo : Nat) (l : List Int) (left : Int) (h : 0 <= left /\ left <= 1048576) (hb : l.length <= 9223372036854775807) : CtM Tryz.prog G 81 [.sl lo 1 (aM l), .int .i64 left] [] (fun y : Int => -1 <= y /\ y <= left /\ (0 <= y -> l.length <= 1048576)) (fun _ => []) (fun y => .int .i64 y) := by
 refine aJ Tryz.func81 rfl Tryz.ntmps81 rfl rfl rfl fun w0 R gs objsR hG hR => ?_
 obtain rfl := hR.inv0
 clear hR
 have hlen := ap l
 by_cases hn : left - l.length < 0
 ·repeat' refine W_ ?_
  exact aG x_ rfl (-1) ⟨by omega, by omega, fun h => by omega⟩ rfl (.nil R) (.refl _) (.tmp _ _ rfl) rfl
 ·repeat' refine W_ ?_
  exact aG x_ rfl (left - l.length) ⟨by omega, by omega, fun _ => by omega⟩ rfl (.nil R) (.refl _) (.tmp _ _ rfl) rfl
theorem pL (_ : ay G) (lo : Nat) (l : List Int) (hn : l.length <= 1048576) : Ct Tryz.prog G 90 [.sl lo 1 (aM l)] (fun K => .sl K 1 (aM l)) := by
 refine ak Tryz.func90 rfl Tryz.ntmps90 rfl rfl fun w0 _ hG => ?_
 have hlen := ap l
 have h0 := ci (fun s : Int => [TV.int .i64 s]) [.int .i64 0] l
 repeat' (first | refine W_ ?_ | (refine fh ?_; intro ss bb))
 apply am (X := Nat) [0, 3] (fun i => [(4, .int .i64 (i : Int))]) (fun i => [(ss, bb, .row 1 (dD (fun s : Int => [TV.int .i64 s]) [.int .i64 0] l i))]) (fun i => i <= l.length) (fun i => l.length - i) 0 (Nat.zero_le _)
 exact kp_; exact nw_
 ·rw [<- h0]; exact .refl _
 intro i hi
 try dsimp only
 by_cases hlt : i < l.length
 ·obtain ⟨hrow, hset⟩ := cN (fun s : Int => [TV.int .i64 s]) [.int .i64 0] hlt
  have hra := gM hlt
  generalize l[i] = x at hset hra
  try dsimp only at hset
  repeat' (first | refine W_ ?_ | refine bE ?_)
  refine ah (i + 1) (by omega) (by omega) (.of _ nw_ od_ (by rw [<- hset]; exact .refl _))
 ·obtain rfl : i = l.length := by omega
  rw [cj]
  repeat' refine W_ ?_
  refine aA x_ rfl (.tmp _ _ rfl) (fun _ => ?_)
  exact fg (fun x => .cons (.flat rfl) .nil) List.mem_cons_self
theorem pO (_ : ay G) (l1 l2 : Nat) (l : List Int) (hn : l.length <= 1048576) : Ct Tryz.prog G 32 [.sl l1 1 (aM l), .sl l2 1 (aM l)] (fun _ => .bool true) := by
 refine ak Tryz.func32 rfl Tryz.ntmps32 rfl rfl fun w0 _ hG => ?_
 have hlen := ap l
 repeat' refine W_ ?_
 apply am (X := Nat) [0, 1] (fun i => [(5, .int .i64 (i : Int))]) (fun _ => []) (fun i => i <= l.length) (fun i => l.length - i) 0 (Nat.zero_le _)
 exact kp_; exact nw_
 ·exact .refl _
 intro i hi
 try dsimp only
 by_cases hlt : i < l.length
 ·have hrow := gM hlt
  generalize l[i] = x at hrow
  repeat' refine V_ ?_
  all_goals first
    | exact ah (i + 1) (by omega) (by omega) (.of _ nw_ od_ pk_)
    | (exfalso; simp at hc; done)
 ·repeat' refine W_ ?_
  exact r1_
end
def ab.tw (_lo : Nat) (x : ab) : List TV := [.int .i64 x.kind, .int .i64 x.number, .str x.text]
def ab.small (n : Nat) (x : ab) : Prop := (x.text.size <= n)
def ab.tz : List TV := [.int .i64 0, .int .i64 0, .str ⟨#[]⟩]
theorem ab.fin (B K : Nat) (objs : aK) (x : ab) : gA B objs K (x.tw B) (x.tw K) := .cons (.flat rfl) (.cons (.flat rfl) (.cons (.flat rfl) (.nil)))
theorem ab.len (lo : Nat) (l : List ab) : (l.map (ab.tw lo)).length = l.length := by simp
section
variable {G : World -> Prop}
theorem gI (_hst : ay G) (lo : Nat) (x : ab) (left : Int) (h : 0 <= left /\ left <= 1048576) (hb : x.small 9223372036854775807) : CtM Tryz.prog G 82 [.agg (x.tw lo), .int .i64 left] [] (fun y : Int => -1 <= y /\ y <= left /\ (0 <= y -> x.small 1048576)) (fun _ => []) (fun y => .int .i64 y) := by
 refine aJ Tryz.func82 rfl Tryz.ntmps82 rfl rfl rfl fun w0 R gs objsR hG hR => ?_
 obtain rfl := hR.inv0
 clear hR
 unfold ab.small at hb
 have hb1 : x.text.size <= 9223372036854775807 := hb
 unfold ab.tw
 repeat' (first | refine W_ ?_ | refine aF ?_ | refine c_ (fun hc => ?_) (fun hc => ?_))
 all_goals first
   | exact aG x_ rfl (-1) ⟨by omega, by omega, fun h => by omega⟩ rfl (.nil R) (.refl _) (.tmp _ _ rfl) rfl
   | (refine aG x_ rfl _ ⟨?_, ?_, fun _ => ?_⟩ rfl (.nil R) (.refl _) (.tmp _ _ rfl) rfl
      ·omega
      ·omega
      ·show _ <= _; omega)
theorem fP (hst : ay G) (lo : Nat) (l : List ab) (left : Int) (h : 0 <= left /\ left <= 1048576) (hb : l.length <= 9223372036854775807 /\ ∀ y ∈ l, ab.small 9223372036854775807 y) : CtM Tryz.prog G 228 [.sl lo 3 (l.map (ab.tw lo)), .int .i64 left] [] (fun y : Int => -1 <= y /\ y <= left /\ (0 <= y -> l.length <= 1048576 /\ ∀ y ∈ l, ab.small 1048576 y)) (fun _ => []) (fun y => .int .i64 y) := by
 refine aJ Tryz.func228 rfl Tryz.ntmps228 rfl rfl rfl fun w0 R gs objsR hG hR => ?_
 obtain rfl := hR.inv0
 clear hR
 have hlen := ab.len lo l
 have hl1 := hb.1
 by_cases hn : left - l.length < 0
 ·repeat' refine W_ ?_
  exact aG x_ rfl (-1) ⟨by omega, by omega, fun h => by omega⟩ rfl (.nil R) (.refl _) (.tmp _ _ rfl) rfl
 ·repeat' refine W_ ?_
  apply am (X := Nat × Int) [0, 1000000] (fun x => [(5, .int .i64 (x.1 : Int)), (1, .int .i64 x.2)]) (fun _ => R) (fun x => x.1 <= l.length /\ 0 <= x.2 /\ x.2 <= left /\ ∀ y ∈ l.take x.1, ab.small 1048576 y) (fun x => l.length - x.1) (0, left - l.length) ⟨Nat.zero_le _, by dsimp only; omega, by dsimp only; omega, by simp⟩
  exact kp_; exact nw_
  ·exact .refl _
  rintro ⟨i, lf⟩ ⟨hi, h0, h1, hs⟩
  dsimp only at hi h0 h1 hs |-
  by_cases hlt : i < l.length
  ·have hrow : (l.map (ab.tw lo))[i]? = some (l[i].tw lo) := aE hlt
   have hbi := hb.2 _ (List.getElem_mem hlt)
   have hta := aP (p := ab.small 1048576) hlt hs
   generalize l[i] = x at hrow hbi hta
   have hct := gI hst lo x lf (by omega) hbi
   unfold ab.tw at hct
   rw [show x.tw lo = [.int .i64 x.kind, .int .i64 x.number, .str x.text] from rfl] at hrow
   repeat' (first | refine W_ ?_ | ((with_reducible apply az); rfl; kernel_rfl; (repeat (first | exact aw.nil | ((with_reducible apply aw.cons); rfl))); exact hG; exact hct; exact .nil _; intro y hy; refine bv ?_) | refine c_ (fun hc => ?_) (fun hc => ?_))
   all_goals first
     | exact aG x_ rfl (-1) ⟨by omega, by omega, fun h => by omega⟩ rfl (.nil R) (.refl _) (.tmp _ _ rfl) rfl
     | exact ah (i + 1, y) ⟨by dsimp only; omega, by dsimp only; omega, by dsimp only; omega, hta (hy.2.2 (by omega))⟩ (by dsimp only; omega) (.of _ nw_ od_ pk_)
  ·rw [List.take_of_length_le (by omega)] at hs
   repeat' refine W_ ?_
   exact aG x_ rfl lf ⟨by omega, by omega, fun _ => ⟨by omega, hs⟩⟩ rfl (.nil R) (.refl _) (.tmp _ _ rfl) rfl
theorem gH (_hst : ay G) (lo : Nat) (x : ab) (_hb : x.small 1048576) : Ct Tryz.prog G 91 [.agg (x.tw lo)] (fun K => .agg (x.tw K)) := by
 refine ak Tryz.func91 rfl Tryz.ntmps91 rfl rfl fun w0 _ hG => ?_
 unfold ab.small at _hb
 skip
 repeat' (first | refine W_ ?_ | refine aF ?_ | (refine aj ?_; intro ss bb) | refine ad ?_)
 refine aA x_ rfl (.cell _ _ _ _ _ rfl mm_ (by kernel_rfl) (by kernel_rfl) (by kernel_rfl)) (fun _ => ?_)
 exact dK (ab.fin _ _ _ x)
theorem fx (hst : ay G) (lo : Nat) (l : List ab) (hb : l.length <= 1048576 /\ ∀ y ∈ l, ab.small 1048576 y) : Ct Tryz.prog G 238 [.sl lo 3 (l.map (ab.tw lo))] (fun K => .sl K 3 (l.map (ab.tw K))) := by
 refine ak Tryz.func238 rfl Tryz.ntmps238 rfl rfl fun w0 _ hG => ?_
 have hlen := ab.len lo l
 have hl1 := hb.1
 have h0 := ci (ab.tw w0.heap.size) ab.tz l
 repeat' (first | refine W_ ?_ | (refine fh ?_; intro ss bb))
 apply am (X := Nat) [0, 3] (fun i => [(4, .int .i64 (i : Int))]) (fun i => [(ss, bb, .row 3 (dD (ab.tw w0.heap.size) ab.tz l i))]) (fun i => i <= l.length) (fun i => l.length - i) 0 (Nat.zero_le _)
 exact kp_; exact nw_
 ·rw [<- h0]; exact .refl _
 intro i hi
 try dsimp only
 by_cases hlt : i < l.length
 ·obtain ⟨hrow, hset⟩ := cN (ab.tw w0.heap.size) ab.tz hlt
  have hra : (l.map (ab.tw lo))[i]? = some (l[i].tw lo) := aE hlt
  have hbi := hb.2 _ (List.getElem_mem hlt)
  generalize l[i] = x at hset hra hbi
  have hct := gH hst lo x hbi
  unfold ab.tw at hct
  rw [show x.tw lo = [.int .i64 x.kind, .int .i64 x.number, .str x.text] from rfl] at hra
  replace hrow : (dD (ab.tw w0.heap.size) ab.tz l i)[i]? = some [.int .i64 0, .int .i64 0, .str ⟨#[]⟩] := hrow
  repeat' (first | refine W_ ?_ | refine ac hG hst (hct) ?_ | refine bE ?_)
  refine ah (i + 1) (by omega) (by omega) (.of _ nw_ od_ (by rw [<- hset]; exact .refl _))
 ·obtain rfl : i = l.length := by omega
  rw [cj]
  repeat' refine W_ ?_
  refine aA x_ rfl (.tmp _ _ rfl) (fun _ => ?_)
  exact fg (fun x => ab.fin _ _ _ x) List.mem_cons_self
theorem gN (_hst : ay G) (l1 l2 : Nat) (x : ab) (_hb : x.small 1048576) : Ct Tryz.prog G 61 [.agg (x.tw l1), .agg (x.tw l2)] (fun _ => .bool true) := by
 refine ak Tryz.func61 rfl Tryz.ntmps61 rfl rfl fun w0 _ hG => ?_
 unfold ab.small at _hb
 have hnetext : ¬ x.text ≠ x.text := fun h => h rfl
 unfold ab.tw
 repeat' (first | refine W_ ?_ | refine aF ?_)
 all_goals first
   | (exfalso; simp at hc; done)
   | (exact r1_)
theorem fF (hst : ay G) (l1 l2 : Nat) (l : List ab) (hb : l.length <= 1048576 /\ ∀ y ∈ l, ab.small 1048576 y) : Ct Tryz.prog G 224 [.sl l1 3 (l.map (ab.tw l1)), .sl l2 3 (l.map (ab.tw l2))] (fun _ => .bool true) := by
 refine ak Tryz.func224 rfl Tryz.ntmps224 rfl rfl fun w0 _ hG => ?_
 have hlen := ab.len l1 l
 have hlen2 := ab.len l2 l
 have hl1 := hb.1
 repeat' refine W_ ?_
 apply am (X := Nat) [0, 1] (fun i => [(5, .int .i64 (i : Int))]) (fun _ => []) (fun i => i <= l.length) (fun i => l.length - i) 0 (Nat.zero_le _)
 exact kp_; exact nw_
 ·exact .refl _
 intro i hi
 try dsimp only
 by_cases hlt : i < l.length
 ·have hr1 : (l.map (ab.tw l1))[i]? = some (l[i].tw l1) := aE hlt
  have hr2 : (l.map (ab.tw l2))[i]? = some (l[i].tw l2) := aE hlt
  have hbi := hb.2 _ (List.getElem_mem hlt)
  generalize l[i] = x at hr1 hr2 hbi
  have hct := gN hst l1 l2 x hbi
  unfold ab.tw at hct
  rw [show x.tw l1 = [.int .i64 x.kind, .int .i64 x.number, .str x.text] from rfl] at hr1
  rw [show x.tw l2 = [.int .i64 x.kind, .int .i64 x.number, .str x.text] from rfl] at hr2
  repeat' (first | refine V_ ?_ | refine ae hG hst (hct) ?_)
  exact ah (i + 1) (by omega) (by omega) (.of _ nw_ od_ pk_)
 ·repeat' refine W_ ?_
  exact r1_
end
def ar.tw (lo : Nat) (x : ar) : List TV := [.int .i64 x.kind, .int .i64 x.class_, .sl lo 3 (x.fields.map (ab.tw lo)), .sl lo 1 (aM x.numbers)]
def ar.small (n : Nat) (x : ar) : Prop := (x.fields.length <= n /\ ∀ y ∈ x.fields, ab.small n y) /\ (x.numbers.length <= n)
def ar.tz : List TV := [.int .i64 0, .int .i64 0, .nils, .nils]
theorem ar.fin (B K : Nat) (objs : aK) (_x : ar) : gA B objs K (_x.tw B) (_x.tw K) := .cons (.flat rfl) (.cons (.flat rfl) (.cons (bW (fun _x => ab.fin B K objs _x) _) (.cons (bW (fun _x => .cons (.flat rfl) .nil) _) (.nil))))
theorem ar.len (lo : Nat) (l : List ar) : (l.map (ar.tw lo)).length = l.length := by simp
section
variable {G : World -> Prop}
theorem rv (hst : ay G) (lo : Nat) (x : ar) (left : Int) (h : 0 <= left /\ left <= 1048576) (hb : x.small 9223372036854775807) : CtM Tryz.prog G 227 [.agg (x.tw lo), .int .i64 left] [] (fun y : Int => -1 <= y /\ y <= left /\ (0 <= y -> x.small 1048576)) (fun _ => []) (fun y => .int .i64 y) := by
 refine aJ Tryz.func227 rfl Tryz.ntmps227 rfl rfl rfl fun w0 R gs objsR hG hR => ?_
 obtain rfl := hR.inv0
 clear hR
 unfold ar.small at hb
 skip
 unfold ar.tw
 repeat' (first | refine W_ ?_ | refine aF ?_ | ((with_reducible apply az); rfl; kernel_rfl; (repeat (first | exact aw.nil | ((with_reducible apply aw.cons); rfl))); exact hG; exact fP hst lo x.fields _ (by omega) hb.1; exact .nil _; intro y1 hy1; refine bv ?_) | ((with_reducible apply az); rfl; kernel_rfl; (repeat (first | exact aw.nil | ((with_reducible apply aw.cons); rfl))); exact hG; exact qp hst lo x.numbers _ (by omega) hb.2; exact .nil _; intro y2 hy2; refine bv ?_) | refine c_ (fun hc => ?_) (fun hc => ?_))
 all_goals first
   | exact aG x_ rfl (-1) ⟨by omega, by omega, fun h => by omega⟩ rfl (.nil R) (.refl _) (.tmp _ _ rfl) rfl
   | (refine aG x_ rfl _ ⟨?_, ?_, fun _ => ?_⟩ rfl (.nil R) (.refl _) (.tmp _ _ rfl) rfl
      ·omega
      ·omega
      ·exact ⟨hy1.2.2 (by omega), hy2.2.2 (by omega)⟩)
theorem p7 (hst : ay G) (lo : Nat) (l : List ar) (left : Int) (h : 0 <= left /\ left <= 1048576) (hb : l.length <= 9223372036854775807 /\ ∀ y ∈ l, ar.small 9223372036854775807 y) : CtM Tryz.prog G 157 [.sl lo 4 (l.map (ar.tw lo)), .int .i64 left] [] (fun y : Int => -1 <= y /\ y <= left /\ (0 <= y -> l.length <= 1048576 /\ ∀ y ∈ l, ar.small 1048576 y)) (fun _ => []) (fun y => .int .i64 y) := by
 refine aJ Tryz.func157 rfl Tryz.ntmps157 rfl rfl rfl fun w0 R gs objsR hG hR => ?_
 obtain rfl := hR.inv0
 clear hR
 have hlen := ar.len lo l
 have hl1 := hb.1
 by_cases hn : left - l.length < 0
 ·repeat' refine W_ ?_
  exact aG x_ rfl (-1) ⟨by omega, by omega, fun h => by omega⟩ rfl (.nil R) (.refl _) (.tmp _ _ rfl) rfl
 ·repeat' refine W_ ?_
  apply am (X := Nat × Int) [0, 1000000] (fun x => [(5, .int .i64 (x.1 : Int)), (1, .int .i64 x.2)]) (fun _ => R) (fun x => x.1 <= l.length /\ 0 <= x.2 /\ x.2 <= left /\ ∀ y ∈ l.take x.1, ar.small 1048576 y) (fun x => l.length - x.1) (0, left - l.length) ⟨Nat.zero_le _, by dsimp only; omega, by dsimp only; omega, by simp⟩
  exact kp_; exact nw_
  ·exact .refl _
  rintro ⟨i, lf⟩ ⟨hi, h0, h1, hs⟩
  dsimp only at hi h0 h1 hs |-
  by_cases hlt : i < l.length
  ·have hrow : (l.map (ar.tw lo))[i]? = some (l[i].tw lo) := aE hlt
   have hbi := hb.2 _ (List.getElem_mem hlt)
   have hta := aP (p := ar.small 1048576) hlt hs
   generalize l[i] = x at hrow hbi hta
   have hct := rv hst lo x lf (by omega) hbi
   unfold ar.tw at hct
   rw [show x.tw lo = [.int .i64 x.kind, .int .i64 x.class_, .sl lo 3 (x.fields.map (ab.tw lo)), .sl lo 1 (aM x.numbers)] from rfl] at hrow
   repeat' (first | refine W_ ?_ | ((with_reducible apply az); rfl; kernel_rfl; (repeat (first | exact aw.nil | ((with_reducible apply aw.cons); rfl))); exact hG; exact hct; exact .nil _; intro y hy; refine bv ?_) | refine c_ (fun hc => ?_) (fun hc => ?_))
   all_goals first
     | exact aG x_ rfl (-1) ⟨by omega, by omega, fun h => by omega⟩ rfl (.nil R) (.refl _) (.tmp _ _ rfl) rfl
     | exact ah (i + 1, y) ⟨by dsimp only; omega, by dsimp only; omega, by dsimp only; omega, hta (hy.2.2 (by omega))⟩ (by dsimp only; omega) (.of _ nw_ od_ pk_)
  ·rw [List.take_of_length_le (by omega)] at hs
   repeat' refine W_ ?_
   exact aG x_ rfl lf ⟨by omega, by omega, fun _ => ⟨by omega, hs⟩⟩ rfl (.nil R) (.refl _) (.tmp _ _ rfl) rfl
theorem rm (hst : ay G) (lo : Nat) (x : ar) (hb : x.small 1048576) : Ct Tryz.prog G 237 [.agg (x.tw lo)] (fun K => .agg (x.tw K)) := by
 refine ak Tryz.func237 rfl Tryz.ntmps237 rfl rfl fun w0 _ hG => ?_
 unfold ar.small at hb
 have hsfields := hb.1
 have hsnumbers := hb.2
 repeat' (first | refine W_ ?_ | refine aF ?_ | (refine aj ?_; intro ss bb) | refine ad ?_ | refine ac hG hst (fx hst lo x.fields (hsfields)) ?_ | refine ac hG hst (pL hst lo x.numbers (hsnumbers)) ?_)
 refine aA x_ rfl (.cell _ _ _ _ _ rfl mm_ (by kernel_rfl) (by kernel_rfl) (by kernel_rfl)) (fun _ => ?_)
 exact dK (ar.fin _ _ _ x)
theorem pX (hst : ay G) (lo : Nat) (l : List ar) (hb : l.length <= 1048576 /\ ∀ y ∈ l, ar.small 1048576 y) : Ct Tryz.prog G 173 [.sl lo 4 (l.map (ar.tw lo))] (fun K => .sl K 4 (l.map (ar.tw K))) := by
 refine ak Tryz.func173 rfl Tryz.ntmps173 rfl rfl fun w0 _ hG => ?_
 have hlen := ar.len lo l
 have hl1 := hb.1
 have h0 := ci (ar.tw w0.heap.size) ar.tz l
 repeat' (first | refine W_ ?_ | (refine fh ?_; intro ss bb))
 apply am (X := Nat) [0, 3] (fun i => [(4, .int .i64 (i : Int))]) (fun i => [(ss, bb, .row 4 (dD (ar.tw w0.heap.size) ar.tz l i))]) (fun i => i <= l.length) (fun i => l.length - i) 0 (Nat.zero_le _)
 exact kp_; exact nw_
 ·rw [<- h0]; exact .refl _
 intro i hi
 try dsimp only
 by_cases hlt : i < l.length
 ·obtain ⟨hrow, hset⟩ := cN (ar.tw w0.heap.size) ar.tz hlt
  have hra : (l.map (ar.tw lo))[i]? = some (l[i].tw lo) := aE hlt
  have hbi := hb.2 _ (List.getElem_mem hlt)
  generalize l[i] = x at hset hra hbi
  have hct := rm hst lo x hbi
  unfold ar.tw at hct
  rw [show x.tw lo = [.int .i64 x.kind, .int .i64 x.class_, .sl lo 3 (x.fields.map (ab.tw lo)), .sl lo 1 (aM x.numbers)] from rfl] at hra
  replace hrow : (dD (ar.tw w0.heap.size) ar.tz l i)[i]? = some [.int .i64 0, .int .i64 0, .nils, .nils] := hrow
  repeat' (first | refine W_ ?_ | refine ac hG hst (hct) ?_ | refine bE ?_)
  refine ah (i + 1) (by omega) (by omega) (.of _ nw_ od_ (by rw [<- hset]; exact .refl _))
 ·obtain rfl : i = l.length := by omega
  rw [cj]
  repeat' refine W_ ?_
  refine aA x_ rfl (.tmp _ _ rfl) (fun _ => ?_)
  exact fg (fun x => ar.fin _ _ _ x) List.mem_cons_self
theorem rT (hst : ay G) (l1 l2 : Nat) (x : ar) (hb : x.small 1048576) : Ct Tryz.prog G 223 [.agg (x.tw l1), .agg (x.tw l2)] (fun _ => .bool true) := by
 refine ak Tryz.func223 rfl Tryz.ntmps223 rfl rfl fun w0 _ hG => ?_
 unfold ar.small at hb
 have hsfields := hb.1
 have hsnumbers := hb.2
 unfold ar.tw
 repeat' (first | refine W_ ?_ | refine aF ?_ | refine ac hG hst (fF hst l1 l2 x.fields hsfields) ?_ | refine ac hG hst (pO hst l1 l2 x.numbers hsnumbers) ?_)
 all_goals first
   | (exfalso; simp at hc; done)
   | (exact r1_)
theorem pJ (hst : ay G) (l1 l2 : Nat) (l : List ar) (hb : l.length <= 1048576 /\ ∀ y ∈ l, ar.small 1048576 y) : Ct Tryz.prog G 142 [.sl l1 4 (l.map (ar.tw l1)), .sl l2 4 (l.map (ar.tw l2))] (fun _ => .bool true) := by
 refine ak Tryz.func142 rfl Tryz.ntmps142 rfl rfl fun w0 _ hG => ?_
 have hlen := ar.len l1 l
 have hlen2 := ar.len l2 l
 have hl1 := hb.1
 repeat' refine W_ ?_
 apply am (X := Nat) [0, 1] (fun i => [(5, .int .i64 (i : Int))]) (fun _ => []) (fun i => i <= l.length) (fun i => l.length - i) 0 (Nat.zero_le _)
 exact kp_; exact nw_
 ·exact .refl _
 intro i hi
 try dsimp only
 by_cases hlt : i < l.length
 ·have hr1 : (l.map (ar.tw l1))[i]? = some (l[i].tw l1) := aE hlt
  have hr2 : (l.map (ar.tw l2))[i]? = some (l[i].tw l2) := aE hlt
  have hbi := hb.2 _ (List.getElem_mem hlt)
  generalize l[i] = x at hr1 hr2 hbi
  have hct := rT hst l1 l2 x hbi
  unfold ar.tw at hct
  rw [show x.tw l1 = [.int .i64 x.kind, .int .i64 x.class_, .sl l1 3 (x.fields.map (ab.tw l1)), .sl l1 1 (aM x.numbers)] from rfl] at hr1
  rw [show x.tw l2 = [.int .i64 x.kind, .int .i64 x.class_, .sl l2 3 (x.fields.map (ab.tw l2)), .sl l2 1 (aM x.numbers)] from rfl] at hr2
  repeat' (first | refine V_ ?_ | refine ae hG hst (hct) ?_)
  exact ah (i + 1) (by omega) (by omega) (.of _ nw_ od_ pk_)
 ·repeat' refine W_ ?_
  exact r1_
end
def aL.tw (lo : Nat) (x : aL) : List TV := [.sl lo 3 (x.classes.map (aa.tw lo)), .sl lo 4 (x.objects.map (ar.tw lo)), .sl lo 1 (cL x.output), .int .i64 x.ticks, .int .i64 x.budget, .int .i64 x.made]
def aL.small (n : Nat) (x : aL) : Prop := (x.classes.length <= n /\ ∀ y ∈ x.classes, aa.small n y) /\ (x.objects.length <= n /\ ∀ y ∈ x.objects, ar.small n y) /\ (x.output.length <= n /\ ∀ y ∈ x.output, ByteArray.size y <= n)
def aL.tz : List TV := [.nils, .nils, .nils, .int .i64 0, .int .i64 0, .int .i64 0]
theorem aL.fin (B K : Nat) (objs : aK) (_x : aL) : gA B objs K (_x.tw B) (_x.tw K) := .cons (bW (fun _x => aa.fin B K objs _x) _) (.cons (bW (fun _x => ar.fin B K objs _x) _) (.cons (bW (fun _x => .cons (.flat rfl) .nil) _) (.cons (.flat rfl) (.cons (.flat rfl) (.cons (.flat rfl) (.nil))))))
theorem aL.len (lo : Nat) (l : List aL) : (l.map (aL.tw lo)).length = l.length := by simp
section
variable {G : World -> Prop}
theorem ui (hst : ay G) (lo : Nat) (x : aL) (left : Int) (h : 0 <= left /\ left <= 1048576) (hb : x.small 9223372036854775807) : CtM Tryz.prog G 77 [.agg (x.tw lo), .int .i64 left] [] (fun y : Int => -1 <= y /\ y <= left /\ (0 <= y -> x.small 1048576)) (fun _ => []) (fun y => .int .i64 y) := by
 refine aJ Tryz.func77 rfl Tryz.ntmps77 rfl rfl rfl fun w0 R gs objsR hG hR => ?_
 obtain rfl := hR.inv0
 clear hR
 unfold aL.small at hb
 skip
 unfold aL.tw
 repeat' (first | refine W_ ?_ | refine aF ?_ | ((with_reducible apply az); rfl; kernel_rfl; (repeat (first | exact aw.nil | ((with_reducible apply aw.cons); rfl))); exact hG; exact gr hst lo x.classes _ (by omega) hb.1; exact .nil _; intro y1 hy1; refine bv ?_) | ((with_reducible apply az); rfl; kernel_rfl; (repeat (first | exact aw.nil | ((with_reducible apply aw.cons); rfl))); exact hG; exact p7 hst lo x.objects _ (by omega) hb.2.1; exact .nil _; intro y2 hy2; refine bv ?_) | ((with_reducible apply az); rfl; kernel_rfl; (repeat (first | exact aw.nil | ((with_reducible apply aw.cons); rfl))); exact hG; exact j3 lo x.output _ (by omega) hb.2.2; exact .nil _; intro y3 hy3; refine bv ?_) | refine c_ (fun hc => ?_) (fun hc => ?_))
 all_goals first
   | exact aG x_ rfl (-1) ⟨by omega, by omega, fun h => by omega⟩ rfl (.nil R) (.refl _) (.tmp _ _ rfl) rfl
   | (refine aG x_ rfl _ ⟨?_, ?_, fun _ => ?_⟩ rfl (.nil R) (.refl _) (.tmp _ _ rfl) rfl
      ·omega
      ·omega
      ·exact ⟨hy1.2.2 (by omega), hy2.2.2 (by omega), hy3.2.2 (by omega)⟩)
theorem tX (hst : ay G) (lo : Nat) (x : aL) (hb : x.small 1048576) : Ct Tryz.prog G 86 [.agg (x.tw lo)] (fun K => .agg (x.tw K)) := by
 refine ak Tryz.func86 rfl Tryz.ntmps86 rfl rfl fun w0 _ hG => ?_
 unfold aL.small at hb
 have hsclasses := hb.1
 have hsobjects := hb.2.1
 have hsoutput := (hb.2.2).1
 repeat' (first | refine W_ ?_ | refine aF ?_ | (refine aj ?_; intro ss bb) | refine ad ?_ | refine ac hG hst (ga hst lo x.classes (hsclasses)) ?_ | refine ac hG hst (pX hst lo x.objects (hsobjects)) ?_ | refine ac hG hst (j1 hst lo x.output (hsoutput)) ?_)
 refine aA x_ rfl (.cell _ _ _ _ _ rfl mm_ (by kernel_rfl) (by kernel_rfl) (by kernel_rfl)) (fun _ => ?_)
 exact dK (aL.fin _ _ _ x)
theorem uX (hst : ay G) (l1 l2 : Nat) (x : aL) (hb : x.small 1048576) : Ct Tryz.prog G 57 [.agg (x.tw l1), .agg (x.tw l2)] (fun _ => .bool true) := by
 refine ak Tryz.func57 rfl Tryz.ntmps57 rfl rfl fun w0 _ hG => ?_
 unfold aL.small at hb
 have hsclasses := hb.1
 have hsobjects := hb.2.1
 have hsoutput := (hb.2.2).1
 unfold aL.tw
 repeat' (first | refine W_ ?_ | refine aF ?_ | refine ac hG hst (gf hst l1 l2 x.classes hsclasses) ?_ | refine ac hG hst (pJ hst l1 l2 x.objects hsobjects) ?_ | refine ac hG hst (jZ l1 l2 x.output hsoutput) ?_)
 all_goals first
   | (exfalso; simp at hc; done)
   | (exact r1_)
end
def aq.tw (_lo : Nat) (x : aq) : List TV := [.int .i64 x.code, .int .i64 x.outer, .int .i64 x.home, .int .i64 x.self.kind, .int .i64 x.self.number, .str x.self.text]
def aq.small (n : Nat) (x : aq) : Prop := (ab.small n x.self)
def aq.tz : List TV := [.int .i64 0, .int .i64 0, .int .i64 0, .int .i64 0, .int .i64 0, .str ⟨#[]⟩]
theorem aq.fin (B K : Nat) (objs : aK) (x : aq) : gA B objs K (x.tw B) (x.tw K) := .cons (.flat rfl) (.cons (.flat rfl) (.cons (.flat rfl) (.cons (.flat rfl) (.cons (.flat rfl) (.cons (.flat rfl) (.nil))))))
theorem aq.len (lo : Nat) (l : List aq) : (l.map (aq.tw lo)).length = l.length := by simp
section
variable {G : World -> Prop}
theorem qw (hst : ay G) (lo : Nat) (x : aq) (left : Int) (h : 0 <= left /\ left <= 1048576) (hb : x.small 9223372036854775807) : CtM Tryz.prog G 159 [.agg (x.tw lo), .int .i64 left] [] (fun y : Int => -1 <= y /\ y <= left /\ (0 <= y -> x.small 1048576)) (fun _ => []) (fun y => .int .i64 y) := by
 refine aJ Tryz.func159 rfl Tryz.ntmps159 rfl rfl rfl fun w0 R gs objsR hG hR => ?_
 obtain rfl := hR.inv0
 clear hR
 unfold aq.small at hb
 skip
 unfold aq.tw
 repeat' (first | refine W_ ?_ | refine aF ?_ | ((with_reducible apply az); rfl; kernel_rfl; (repeat (first | exact aw.nil | ((with_reducible apply aw.cons); rfl))); exact hG; exact gI hst lo x.self _ (by omega) hb; exact .nil _; intro y1 hy1; refine bv ?_) | refine c_ (fun hc => ?_) (fun hc => ?_))
 all_goals first
   | exact aG x_ rfl (-1) ⟨by omega, by omega, fun h => by omega⟩ rfl (.nil R) (.refl _) (.tmp _ _ rfl) rfl
   | (refine aG x_ rfl _ ⟨?_, ?_, fun _ => ?_⟩ rfl (.nil R) (.refl _) (.tmp _ _ rfl) rfl
      ·omega
      ·omega
      ·exact hy1.2.2 (by omega))
theorem oL (hst : ay G) (lo : Nat) (l : List aq) (left : Int) (h : 0 <= left /\ left <= 1048576) (hb : l.length <= 9223372036854775807 /\ ∀ y ∈ l, aq.small 9223372036854775807 y) : CtM Tryz.prog G 78 [.sl lo 6 (l.map (aq.tw lo)), .int .i64 left] [] (fun y : Int => -1 <= y /\ y <= left /\ (0 <= y -> l.length <= 1048576 /\ ∀ y ∈ l, aq.small 1048576 y)) (fun _ => []) (fun y => .int .i64 y) := by
 refine aJ Tryz.func78 rfl Tryz.ntmps78 rfl rfl rfl fun w0 R gs objsR hG hR => ?_
 obtain rfl := hR.inv0
 clear hR
 have hlen := aq.len lo l
 have hl1 := hb.1
 by_cases hn : left - l.length < 0
 ·repeat' refine W_ ?_
  exact aG x_ rfl (-1) ⟨by omega, by omega, fun h => by omega⟩ rfl (.nil R) (.refl _) (.tmp _ _ rfl) rfl
 ·repeat' refine W_ ?_
  apply am (X := Nat × Int) [0, 1000000] (fun x => [(5, .int .i64 (x.1 : Int)), (1, .int .i64 x.2)]) (fun _ => R) (fun x => x.1 <= l.length /\ 0 <= x.2 /\ x.2 <= left /\ ∀ y ∈ l.take x.1, aq.small 1048576 y) (fun x => l.length - x.1) (0, left - l.length) ⟨Nat.zero_le _, by dsimp only; omega, by dsimp only; omega, by simp⟩
  exact kp_; exact nw_
  ·exact .refl _
  rintro ⟨i, lf⟩ ⟨hi, h0, h1, hs⟩
  dsimp only at hi h0 h1 hs |-
  by_cases hlt : i < l.length
  ·have hrow : (l.map (aq.tw lo))[i]? = some (l[i].tw lo) := aE hlt
   have hbi := hb.2 _ (List.getElem_mem hlt)
   have hta := aP (p := aq.small 1048576) hlt hs
   generalize l[i] = x at hrow hbi hta
   have hct := qw hst lo x lf (by omega) hbi
   unfold aq.tw at hct
   rw [show x.tw lo = [.int .i64 x.code, .int .i64 x.outer, .int .i64 x.home, .int .i64 x.self.kind, .int .i64 x.self.number, .str x.self.text] from rfl] at hrow
   repeat' (first | refine W_ ?_ | ((with_reducible apply az); rfl; kernel_rfl; (repeat (first | exact aw.nil | ((with_reducible apply aw.cons); rfl))); exact hG; exact hct; exact .nil _; intro y hy; refine bv ?_) | refine c_ (fun hc => ?_) (fun hc => ?_))
   all_goals first
     | exact aG x_ rfl (-1) ⟨by omega, by omega, fun h => by omega⟩ rfl (.nil R) (.refl _) (.tmp _ _ rfl) rfl
     | exact ah (i + 1, y) ⟨by dsimp only; omega, by dsimp only; omega, by dsimp only; omega, hta (hy.2.2 (by omega))⟩ (by dsimp only; omega) (.of _ nw_ od_ pk_)
  ·rw [List.take_of_length_le (by omega)] at hs
   repeat' refine W_ ?_
   exact aG x_ rfl lf ⟨by omega, by omega, fun _ => ⟨by omega, hs⟩⟩ rfl (.nil R) (.refl _) (.tmp _ _ rfl) rfl
theorem qj (hst : ay G) (lo : Nat) (x : aq) (hb : x.small 1048576) : Ct Tryz.prog G 175 [.agg (x.tw lo)] (fun K => .agg (x.tw K)) := by
 refine ak Tryz.func175 rfl Tryz.ntmps175 rfl rfl fun w0 _ hG => ?_
 unfold aq.small at hb
 have hsself := hb
 repeat' (first | refine W_ ?_ | refine aF ?_ | (refine aj ?_; intro ss bb) | refine ad ?_ | refine ac hG hst (gH hst lo x.self (hsself)) ?_)
 refine aA x_ rfl (.cell _ _ _ _ _ rfl mm_ (by kernel_rfl) (by kernel_rfl) (by kernel_rfl)) (fun _ => ?_)
 exact dK (aq.fin _ _ _ x)
theorem n7 (hst : ay G) (lo : Nat) (l : List aq) (hb : l.length <= 1048576 /\ ∀ y ∈ l, aq.small 1048576 y) : Ct Tryz.prog G 87 [.sl lo 6 (l.map (aq.tw lo))] (fun K => .sl K 6 (l.map (aq.tw K))) := by
 refine ak Tryz.func87 rfl Tryz.ntmps87 rfl rfl fun w0 _ hG => ?_
 have hlen := aq.len lo l
 have hl1 := hb.1
 have h0 := ci (aq.tw w0.heap.size) aq.tz l
 repeat' (first | refine W_ ?_ | (refine fh ?_; intro ss bb))
 apply am (X := Nat) [0, 3] (fun i => [(4, .int .i64 (i : Int))]) (fun i => [(ss, bb, .row 6 (dD (aq.tw w0.heap.size) aq.tz l i))]) (fun i => i <= l.length) (fun i => l.length - i) 0 (Nat.zero_le _)
 exact kp_; exact nw_
 ·rw [<- h0]; exact .refl _
 intro i hi
 try dsimp only
 by_cases hlt : i < l.length
 ·obtain ⟨hrow, hset⟩ := cN (aq.tw w0.heap.size) aq.tz hlt
  have hra : (l.map (aq.tw lo))[i]? = some (l[i].tw lo) := aE hlt
  have hbi := hb.2 _ (List.getElem_mem hlt)
  generalize l[i] = x at hset hra hbi
  have hct := qj hst lo x hbi
  unfold aq.tw at hct
  rw [show x.tw lo = [.int .i64 x.code, .int .i64 x.outer, .int .i64 x.home, .int .i64 x.self.kind, .int .i64 x.self.number, .str x.self.text] from rfl] at hra
  replace hrow : (dD (aq.tw w0.heap.size) aq.tz l i)[i]? = some [.int .i64 0, .int .i64 0, .int .i64 0, .int .i64 0, .int .i64 0, .str ⟨#[]⟩] := hrow
  repeat' (first | refine W_ ?_ | refine ac hG hst (hct) ?_ | refine bE ?_)
  refine ah (i + 1) (by omega) (by omega) (.of _ nw_ od_ (by rw [<- hset]; exact .refl _))
 ·obtain rfl : i = l.length := by omega
  rw [cj]
  repeat' refine W_ ?_
  refine aA x_ rfl (.tmp _ _ rfl) (fun _ => ?_)
  exact fg (fun x => aq.fin _ _ _ x) List.mem_cons_self
theorem qo (hst : ay G) (l1 l2 : Nat) (x : aq) (hb : x.small 1048576) : Ct Tryz.prog G 143 [.agg (x.tw l1), .agg (x.tw l2)] (fun _ => .bool true) := by
 refine ak Tryz.func143 rfl Tryz.ntmps143 rfl rfl fun w0 _ hG => ?_
 unfold aq.small at hb
 have hsself := hb
 unfold aq.tw
 repeat' (first | refine W_ ?_ | refine aF ?_ | refine ac hG hst (gN hst l1 l2 x.self hsself) ?_)
 all_goals first
   | (exfalso; simp at hc; done)
   | (exact r1_)
theorem nA (hst : ay G) (l1 l2 : Nat) (l : List aq) (hb : l.length <= 1048576 /\ ∀ y ∈ l, aq.small 1048576 y) : Ct Tryz.prog G 58 [.sl l1 6 (l.map (aq.tw l1)), .sl l2 6 (l.map (aq.tw l2))] (fun _ => .bool true) := by
 refine ak Tryz.func58 rfl Tryz.ntmps58 rfl rfl fun w0 _ hG => ?_
 have hlen := aq.len l1 l
 have hlen2 := aq.len l2 l
 have hl1 := hb.1
 repeat' refine W_ ?_
 apply am (X := Nat) [0, 1] (fun i => [(5, .int .i64 (i : Int))]) (fun _ => []) (fun i => i <= l.length) (fun i => l.length - i) 0 (Nat.zero_le _)
 exact kp_; exact nw_
 ·exact .refl _
 intro i hi
 try dsimp only
 by_cases hlt : i < l.length
 ·have hr1 : (l.map (aq.tw l1))[i]? = some (l[i].tw l1) := aE hlt
  have hr2 : (l.map (aq.tw l2))[i]? = some (l[i].tw l2) := aE hlt
  have hbi := hb.2 _ (List.getElem_mem hlt)
  generalize l[i] = x at hr1 hr2 hbi
  have hct := qo hst l1 l2 x hbi
  unfold aq.tw at hct
  rw [show x.tw l1 = [.int .i64 x.code, .int .i64 x.outer, .int .i64 x.home, .int .i64 x.self.kind, .int .i64 x.self.number, .str x.self.text] from rfl] at hr1
  rw [show x.tw l2 = [.int .i64 x.code, .int .i64 x.outer, .int .i64 x.home, .int .i64 x.self.kind, .int .i64 x.self.number, .str x.self.text] from rfl] at hr2
  repeat' (first | refine V_ ?_ | refine ae hG hst (hct) ?_)
  exact ah (i + 1) (by omega) (by omega) (.of _ nw_ od_ pk_)
 ·repeat' refine W_ ?_
  exact r1_
end
def ao.tw (lo : Nat) (x : ao) : List TV := [.int .i64 x.mark, .int .i64 x.code, .int .i64 x.pc, .int .i64 x.sender, .int .i64 x.outer, .int .i64 x.home, .int .i64 x.self.kind, .int .i64 x.self.number, .str x.self.text, .sl lo 3 (x.slots.map (ab.tw lo)), .sl lo 3 (x.stack.map (ab.tw lo)), .sl lo 3 (x.values.map (ab.tw lo)), .int .i64 x.other, .bool x.retry]
def ao.small (n : Nat) (x : ao) : Prop := (ab.small n x.self) /\ (x.slots.length <= n /\ ∀ y ∈ x.slots, ab.small n y) /\ (x.stack.length <= n /\ ∀ y ∈ x.stack, ab.small n y) /\ (x.values.length <= n /\ ∀ y ∈ x.values, ab.small n y)
def ao.tz : List TV := [.int .i64 0, .int .i64 0, .int .i64 0, .int .i64 0, .int .i64 0, .int .i64 0, .int .i64 0, .int .i64 0, .str ⟨#[]⟩, .nils, .nils, .nils, .int .i64 0, .bool false]
theorem ao.fin (B K : Nat) (objs : aK) (x : ao) : gA B objs K (x.tw B) (x.tw K) := .cons (.flat rfl) (.cons (.flat rfl) (.cons (.flat rfl) (.cons (.flat rfl) (.cons (.flat rfl) (.cons (.flat rfl) (.cons (.flat rfl) (.cons (.flat rfl) (.cons (.flat rfl) (.cons (bW (fun x => ab.fin B K objs x) _) (.cons (bW (fun x => ab.fin B K objs x) _) (.cons (bW (fun x => ab.fin B K objs x) _) (.cons (.flat rfl) (.cons (.flat rfl) (.nil))))))))))))))
theorem ao.len (lo : Nat) (l : List ao) : (l.map (ao.tw lo)).length = l.length := by simp
section
variable {G : World -> Prop}
theorem qg (hst : ay G) (lo : Nat) (x : ao) (left : Int) (h : 0 <= left /\ left <= 1048576) (hb : x.small 9223372036854775807) : CtM Tryz.prog G 160 [.agg (x.tw lo), .int .i64 left] [] (fun y : Int => -1 <= y /\ y <= left /\ (0 <= y -> x.small 1048576)) (fun _ => []) (fun y => .int .i64 y) := by
 refine aJ Tryz.func160 rfl Tryz.ntmps160 rfl rfl rfl fun w0 R gs objsR hG hR => ?_
 obtain rfl := hR.inv0
 clear hR
 unfold ao.small at hb
 skip
 unfold ao.tw
 repeat' (first | refine W_ ?_ | refine aF ?_ | ((with_reducible apply az); rfl; kernel_rfl; (repeat (first | exact aw.nil | ((with_reducible apply aw.cons); rfl))); exact hG; exact gI hst lo x.self _ (by omega) hb.1; exact .nil _; intro y1 hy1; refine bv ?_) | ((with_reducible apply az); rfl; kernel_rfl; (repeat (first | exact aw.nil | ((with_reducible apply aw.cons); rfl))); exact hG; exact fP hst lo x.slots _ (by omega) hb.2.1; exact .nil _; intro y2 hy2; refine bv ?_) | ((with_reducible apply az); rfl; kernel_rfl; (repeat (first | exact aw.nil | ((with_reducible apply aw.cons); rfl))); exact hG; exact fP hst lo x.stack _ (by omega) hb.2.2.1; exact .nil _; intro y3 hy3; refine bv ?_) | ((with_reducible apply az); rfl; kernel_rfl; (repeat (first | exact aw.nil | ((with_reducible apply aw.cons); rfl))); exact hG; exact fP hst lo x.values _ (by omega) hb.2.2.2; exact .nil _; intro y4 hy4; refine bv ?_) | refine c_ (fun hc => ?_) (fun hc => ?_))
 all_goals first
   | exact aG x_ rfl (-1) ⟨by omega, by omega, fun h => by omega⟩ rfl (.nil R) (.refl _) (.tmp _ _ rfl) rfl
   | (refine aG x_ rfl _ ⟨?_, ?_, fun _ => ?_⟩ rfl (.nil R) (.refl _) (.tmp _ _ rfl) rfl
      ·omega
      ·omega
      ·exact ⟨hy1.2.2 (by omega), hy2.2.2 (by omega), hy3.2.2 (by omega), hy4.2.2 (by omega)⟩)
theorem oq (hst : ay G) (lo : Nat) (l : List ao) (left : Int) (h : 0 <= left /\ left <= 1048576) (hb : l.length <= 9223372036854775807 /\ ∀ y ∈ l, ao.small 9223372036854775807 y) : CtM Tryz.prog G 79 [.sl lo 14 (l.map (ao.tw lo)), .int .i64 left] [] (fun y : Int => -1 <= y /\ y <= left /\ (0 <= y -> l.length <= 1048576 /\ ∀ y ∈ l, ao.small 1048576 y)) (fun _ => []) (fun y => .int .i64 y) := by
 refine aJ Tryz.func79 rfl Tryz.ntmps79 rfl rfl rfl fun w0 R gs objsR hG hR => ?_
 obtain rfl := hR.inv0
 clear hR
 have hlen := ao.len lo l
 have hl1 := hb.1
 by_cases hn : left - l.length < 0
 ·repeat' refine W_ ?_
  exact aG x_ rfl (-1) ⟨by omega, by omega, fun h => by omega⟩ rfl (.nil R) (.refl _) (.tmp _ _ rfl) rfl
 ·repeat' refine W_ ?_
  apply am (X := Nat × Int) [0, 1000000] (fun x => [(5, .int .i64 (x.1 : Int)), (1, .int .i64 x.2)]) (fun _ => R) (fun x => x.1 <= l.length /\ 0 <= x.2 /\ x.2 <= left /\ ∀ y ∈ l.take x.1, ao.small 1048576 y) (fun x => l.length - x.1) (0, left - l.length) ⟨Nat.zero_le _, by dsimp only; omega, by dsimp only; omega, by simp⟩
  exact kp_; exact nw_
  ·exact .refl _
  rintro ⟨i, lf⟩ ⟨hi, h0, h1, hs⟩
  dsimp only at hi h0 h1 hs |-
  by_cases hlt : i < l.length
  ·have hrow : (l.map (ao.tw lo))[i]? = some (l[i].tw lo) := aE hlt
   have hbi := hb.2 _ (List.getElem_mem hlt)
   have hta := aP (p := ao.small 1048576) hlt hs
   generalize l[i] = x at hrow hbi hta
   have hct := qg hst lo x lf (by omega) hbi
   unfold ao.tw at hct
   rw [show x.tw lo = [.int .i64 x.mark, .int .i64 x.code, .int .i64 x.pc, .int .i64 x.sender, .int .i64 x.outer, .int .i64 x.home, .int .i64 x.self.kind, .int .i64 x.self.number, .str x.self.text, .sl lo 3 (x.slots.map (ab.tw lo)), .sl lo 3 (x.stack.map (ab.tw lo)), .sl lo 3 (x.values.map (ab.tw lo)), .int .i64 x.other, .bool x.retry] from rfl] at hrow
   repeat' (first | refine W_ ?_ | ((with_reducible apply az); rfl; kernel_rfl; (repeat (first | exact aw.nil | ((with_reducible apply aw.cons); rfl))); exact hG; exact hct; exact .nil _; intro y hy; refine bv ?_) | refine c_ (fun hc => ?_) (fun hc => ?_))
   all_goals first
     | exact aG x_ rfl (-1) ⟨by omega, by omega, fun h => by omega⟩ rfl (.nil R) (.refl _) (.tmp _ _ rfl) rfl
     | exact ah (i + 1, y) ⟨by dsimp only; omega, by dsimp only; omega, by dsimp only; omega, hta (hy.2.2 (by omega))⟩ (by dsimp only; omega) (.of _ nw_ od_ pk_)
  ·rw [List.take_of_length_le (by omega)] at hs
   repeat' refine W_ ?_
   exact aG x_ rfl lf ⟨by omega, by omega, fun _ => ⟨by omega, hs⟩⟩ rfl (.nil R) (.refl _) (.tmp _ _ rfl) rfl
theorem pu (hst : ay G) (lo : Nat) (x : ao) (hb : x.small 1048576) : Ct Tryz.prog G 176 [.agg (x.tw lo)] (fun K => .agg (x.tw K)) := by
 refine ak Tryz.func176 rfl Tryz.ntmps176 rfl rfl fun w0 _ hG => ?_
 unfold ao.small at hb
 have hsself := hb.1
 have hsslots := hb.2.1
 have hsstack := hb.2.2.1
 have hsvalues := hb.2.2.2
 repeat' (first | refine W_ ?_ | refine aF ?_ | (refine aj ?_; intro ss bb) | refine ad ?_ | refine ac hG hst (gH hst lo x.self (hsself)) ?_ | refine ac hG hst (fx hst lo x.slots (hsslots)) ?_ | refine ac hG hst (fx hst lo x.stack (hsstack)) ?_ | refine ac hG hst (fx hst lo x.values (hsvalues)) ?_)
 refine aA x_ rfl (.cell _ _ _ _ _ rfl mm_ (by kernel_rfl) (by kernel_rfl) (by kernel_rfl)) (fun _ => ?_)
 exact dK (ao.fin _ _ _ x)
theorem nB (hst : ay G) (lo : Nat) (l : List ao) (hb : l.length <= 1048576 /\ ∀ y ∈ l, ao.small 1048576 y) : Ct Tryz.prog G 88 [.sl lo 14 (l.map (ao.tw lo))] (fun K => .sl K 14 (l.map (ao.tw K))) := by
 refine ak Tryz.func88 rfl Tryz.ntmps88 rfl rfl fun w0 _ hG => ?_
 have hlen := ao.len lo l
 have hl1 := hb.1
 have h0 := ci (ao.tw w0.heap.size) ao.tz l
 repeat' (first | refine W_ ?_ | (refine fh ?_; intro ss bb))
 apply am (X := Nat) [0, 3] (fun i => [(4, .int .i64 (i : Int))]) (fun i => [(ss, bb, .row 14 (dD (ao.tw w0.heap.size) ao.tz l i))]) (fun i => i <= l.length) (fun i => l.length - i) 0 (Nat.zero_le _)
 exact kp_; exact nw_
 ·rw [<- h0]; exact .refl _
 intro i hi
 try dsimp only
 by_cases hlt : i < l.length
 ·obtain ⟨hrow, hset⟩ := cN (ao.tw w0.heap.size) ao.tz hlt
  have hra : (l.map (ao.tw lo))[i]? = some (l[i].tw lo) := aE hlt
  have hbi := hb.2 _ (List.getElem_mem hlt)
  generalize l[i] = x at hset hra hbi
  have hct := pu hst lo x hbi
  unfold ao.tw at hct
  rw [show x.tw lo = [.int .i64 x.mark, .int .i64 x.code, .int .i64 x.pc, .int .i64 x.sender, .int .i64 x.outer, .int .i64 x.home, .int .i64 x.self.kind, .int .i64 x.self.number, .str x.self.text, .sl lo 3 (x.slots.map (ab.tw lo)), .sl lo 3 (x.stack.map (ab.tw lo)), .sl lo 3 (x.values.map (ab.tw lo)), .int .i64 x.other, .bool x.retry] from rfl] at hra
  replace hrow : (dD (ao.tw w0.heap.size) ao.tz l i)[i]? = some [.int .i64 0, .int .i64 0, .int .i64 0, .int .i64 0, .int .i64 0, .int .i64 0, .int .i64 0, .int .i64 0, .str ⟨#[]⟩, .nils, .nils, .nils, .int .i64 0, .bool false] := hrow
  repeat' (first | refine W_ ?_ | refine ac hG hst (hct) ?_ | refine bE ?_)
  refine ah (i + 1) (by omega) (by omega) (.of _ nw_ od_ (by rw [<- hset]; exact .refl _))
 ·obtain rfl : i = l.length := by omega
  rw [cj]
  repeat' refine W_ ?_
  refine aA x_ rfl (.tmp _ _ rfl) (fun _ => ?_)
  exact fg (fun x => ao.fin _ _ _ x) List.mem_cons_self
theorem qu (hst : ay G) (l1 l2 : Nat) (x : ao) (hb : x.small 1048576) : Ct Tryz.prog G 144 [.agg (x.tw l1), .agg (x.tw l2)] (fun _ => .bool true) := by
 refine ak Tryz.func144 rfl Tryz.ntmps144 rfl rfl fun w0 _ hG => ?_
 unfold ao.small at hb
 have hsself := hb.1
 have hsslots := hb.2.1
 have hsstack := hb.2.2.1
 have hsvalues := hb.2.2.2
 unfold ao.tw
 repeat' (first | refine W_ ?_ | refine aF ?_ | refine ac hG hst (gN hst l1 l2 x.self hsself) ?_ | refine ac hG hst (fF hst l1 l2 x.slots hsslots) ?_ | refine ac hG hst (fF hst l1 l2 x.stack hsstack) ?_ | refine ac hG hst (fF hst l1 l2 x.values hsvalues) ?_ | refine c_ (fun hc => ?_) (fun hc => ?_))
 all_goals first
   | (exfalso; simp at hc; done)
   | (exact r1_)
theorem nM (hst : ay G) (l1 l2 : Nat) (l : List ao) (hb : l.length <= 1048576 /\ ∀ y ∈ l, ao.small 1048576 y) : Ct Tryz.prog G 59 [.sl l1 14 (l.map (ao.tw l1)), .sl l2 14 (l.map (ao.tw l2))] (fun _ => .bool true) := by
 refine ak Tryz.func59 rfl Tryz.ntmps59 rfl rfl fun w0 _ hG => ?_
 have hlen := ao.len l1 l
 have hlen2 := ao.len l2 l
 have hl1 := hb.1
 repeat' refine W_ ?_
 apply am (X := Nat) [0, 1] (fun i => [(5, .int .i64 (i : Int))]) (fun _ => []) (fun i => i <= l.length) (fun i => l.length - i) 0 (Nat.zero_le _)
 exact kp_; exact nw_
 ·exact .refl _
 intro i hi
 try dsimp only
 by_cases hlt : i < l.length
 ·have hr1 : (l.map (ao.tw l1))[i]? = some (l[i].tw l1) := aE hlt
  have hr2 : (l.map (ao.tw l2))[i]? = some (l[i].tw l2) := aE hlt
  have hbi := hb.2 _ (List.getElem_mem hlt)
  generalize l[i] = x at hr1 hr2 hbi
  have hct := qu hst l1 l2 x hbi
  unfold ao.tw at hct
  rw [show x.tw l1 = [.int .i64 x.mark, .int .i64 x.code, .int .i64 x.pc, .int .i64 x.sender, .int .i64 x.outer, .int .i64 x.home, .int .i64 x.self.kind, .int .i64 x.self.number, .str x.self.text, .sl l1 3 (x.slots.map (ab.tw l1)), .sl l1 3 (x.stack.map (ab.tw l1)), .sl l1 3 (x.values.map (ab.tw l1)), .int .i64 x.other, .bool x.retry] from rfl] at hr1
  rw [show x.tw l2 = [.int .i64 x.mark, .int .i64 x.code, .int .i64 x.pc, .int .i64 x.sender, .int .i64 x.outer, .int .i64 x.home, .int .i64 x.self.kind, .int .i64 x.self.number, .str x.self.text, .sl l2 3 (x.slots.map (ab.tw l2)), .sl l2 3 (x.stack.map (ab.tw l2)), .sl l2 3 (x.values.map (ab.tw l2)), .int .i64 x.other, .bool x.retry] from rfl] at hr2
  repeat' (first | refine V_ ?_ | refine ae hG hst (hct) ?_)
  exact ah (i + 1) (by omega) (by omega) (.of _ nw_ od_ pk_)
 ·repeat' refine W_ ?_
  exact r1_
end
def av.tw (_lo : Nat) (x : av) : List TV := [.int .i64 x.at_, .bool x.main]
def av.small (_n : Nat) (_x : av) : Prop := True
def av.tz : List TV := [.int .i64 0, .bool false]
theorem av.fin (B K : Nat) (objs : aK) (x : av) : gA B objs K (x.tw B) (x.tw K) := .cons (.flat rfl) (.cons (.flat rfl) (.nil))
theorem av.len (lo : Nat) (l : List av) : (l.map (av.tw lo)).length = l.length := by simp
section
variable {G : World -> Prop}
theorem nJ (_ : ay G) (lo : Nat) (l : List av) (left : Int) (h : 0 <= left /\ left <= 1048576) (hb : l.length <= 9223372036854775807 /\ ∀ y ∈ l, av.small 9223372036854775807 y) : CtM Tryz.prog G 80 [.sl lo 2 (l.map (av.tw lo)), .int .i64 left] [] (fun y : Int => -1 <= y /\ y <= left /\ (0 <= y -> l.length <= 1048576 /\ ∀ y ∈ l, av.small 1048576 y)) (fun _ => []) (fun y => .int .i64 y) := by
 refine aJ Tryz.func80 rfl Tryz.ntmps80 rfl rfl rfl fun w0 R gs objsR hG hR => ?_
 obtain rfl := hR.inv0
 clear hR
 have hlen := av.len lo l
 have hl1 := hb.1
 by_cases hn : left - l.length < 0
 ·repeat' refine W_ ?_
  exact aG x_ rfl (-1) ⟨by omega, by omega, fun h => by omega⟩ rfl (.nil R) (.refl _) (.tmp _ _ rfl) rfl
 ·repeat' refine W_ ?_
  exact aG x_ rfl (left - l.length) ⟨by omega, by omega, fun _ => ⟨by omega, fun _ _ => trivial⟩⟩ rfl (.nil R) (.refl _) (.tmp _ _ rfl) rfl
theorem p6 (_hst : ay G) (lo : Nat) (x : av) (_hb : x.small 1048576) : Ct Tryz.prog G 177 [.agg (x.tw lo)] (fun K => .agg (x.tw K)) := by
 refine ak Tryz.func177 rfl Tryz.ntmps177 rfl rfl fun w0 _ hG => ?_
 unfold av.small at _hb
 skip
 repeat' (first | refine W_ ?_ | refine aF ?_ | (refine aj ?_; intro ss bb) | refine ad ?_)
 refine aA x_ rfl (.cell _ _ _ _ _ rfl mm_ (by kernel_rfl) (by kernel_rfl) (by kernel_rfl)) (fun _ => ?_)
 exact dK (av.fin _ _ _ x)
theorem nT (hst : ay G) (lo : Nat) (l : List av) (hb : l.length <= 1048576 /\ ∀ y ∈ l, av.small 1048576 y) : Ct Tryz.prog G 89 [.sl lo 2 (l.map (av.tw lo))] (fun K => .sl K 2 (l.map (av.tw K))) := by
 refine ak Tryz.func89 rfl Tryz.ntmps89 rfl rfl fun w0 _ hG => ?_
 have hlen := av.len lo l
 have hl1 := hb.1
 have h0 := ci (av.tw w0.heap.size) av.tz l
 repeat' (first | refine W_ ?_ | (refine fh ?_; intro ss bb))
 apply am (X := Nat) [0, 3] (fun i => [(4, .int .i64 (i : Int))]) (fun i => [(ss, bb, .row 2 (dD (av.tw w0.heap.size) av.tz l i))]) (fun i => i <= l.length) (fun i => l.length - i) 0 (Nat.zero_le _)
 exact kp_; exact nw_
 ·rw [<- h0]; exact .refl _
 intro i hi
 try dsimp only
 by_cases hlt : i < l.length
 ·obtain ⟨hrow, hset⟩ := cN (av.tw w0.heap.size) av.tz hlt
  have hra : (l.map (av.tw lo))[i]? = some (l[i].tw lo) := aE hlt
  have hbi := hb.2 _ (List.getElem_mem hlt)
  generalize l[i] = x at hset hra hbi
  have hct := p6 hst lo x hbi
  unfold av.tw at hct
  rw [show x.tw lo = [.int .i64 x.at_, .bool x.main] from rfl] at hra
  replace hrow : (dD (av.tw w0.heap.size) av.tz l i)[i]? = some [.int .i64 0, .bool false] := hrow
  repeat' (first | refine W_ ?_ | refine ac hG hst (hct) ?_ | refine bE ?_)
  refine ah (i + 1) (by omega) (by omega) (.of _ nw_ od_ (by rw [<- hset]; exact .refl _))
 ·obtain rfl : i = l.length := by omega
  rw [cj]
  repeat' refine W_ ?_
  refine aA x_ rfl (.tmp _ _ rfl) (fun _ => ?_)
  exact fg (fun x => av.fin _ _ _ x) List.mem_cons_self
theorem qn (_hst : ay G) (l1 l2 : Nat) (x : av) (_hb : x.small 1048576) : Ct Tryz.prog G 145 [.agg (x.tw l1), .agg (x.tw l2)] (fun _ => .bool true) := by
 refine ak Tryz.func145 rfl Tryz.ntmps145 rfl rfl fun w0 _ hG => ?_
 unfold av.small at _hb
 skip
 unfold av.tw
 repeat' (first | refine W_ ?_ | refine aF ?_ | refine c_ (fun hc => ?_) (fun hc => ?_))
 all_goals first
   | (exfalso; simp at hc; done)
   | (exact r1_)
theorem oe (hst : ay G) (l1 l2 : Nat) (l : List av) (hb : l.length <= 1048576 /\ ∀ y ∈ l, av.small 1048576 y) : Ct Tryz.prog G 60 [.sl l1 2 (l.map (av.tw l1)), .sl l2 2 (l.map (av.tw l2))] (fun _ => .bool true) := by
 refine ak Tryz.func60 rfl Tryz.ntmps60 rfl rfl fun w0 _ hG => ?_
 have hlen := av.len l1 l
 have hlen2 := av.len l2 l
 have hl1 := hb.1
 repeat' refine W_ ?_
 apply am (X := Nat) [0, 1] (fun i => [(5, .int .i64 (i : Int))]) (fun _ => []) (fun i => i <= l.length) (fun i => l.length - i) 0 (Nat.zero_le _)
 exact kp_; exact nw_
 ·exact .refl _
 intro i hi
 try dsimp only
 by_cases hlt : i < l.length
 ·have hr1 : (l.map (av.tw l1))[i]? = some (l[i].tw l1) := aE hlt
  have hr2 : (l.map (av.tw l2))[i]? = some (l[i].tw l2) := aE hlt
  have hbi := hb.2 _ (List.getElem_mem hlt)
  generalize l[i] = x at hr1 hr2 hbi
  have hct := qn hst l1 l2 x hbi
  unfold av.tw at hct
  rw [show x.tw l1 = [.int .i64 x.at_, .bool x.main] from rfl] at hr1
  rw [show x.tw l2 = [.int .i64 x.at_, .bool x.main] from rfl] at hr2
  repeat' (first | refine V_ ?_ | refine ae hG hst (hct) ?_)
  exact ah (i + 1) (by omega) (by omega) (.of _ nw_ od_ pk_)
 ·repeat' refine W_ ?_
  exact r1_
end
def ag.tw (lo : Nat) (x : ag) : List TV := [.sl lo 3 (x.base.classes.map (aa.tw lo)), .sl lo 4 (x.base.codes.map (au.tw lo)), .sl lo 4 (x.base.entries.map (aB.tw lo)), .int .i64 x.base.main, .sl lo 3 (x.store.classes.map (aa.tw lo)), .sl lo 4 (x.store.objects.map (ar.tw lo)), .sl lo 1 (cL x.store.output), .int .i64 x.store.ticks, .int .i64 x.store.budget, .int .i64 x.store.made, .sl lo 6 (x.blocks.map (aq.tw lo)), .sl lo 14 (x.contexts.map (ao.tw lo)), .sl lo 2 (x.processes.map (av.tw lo)), .sl lo 1 (aM x.ready), .int .i64 x.now, .int .i64 x.status, .int .i64 x.value.kind, .int .i64 x.value.number, .str x.value.text, .str x.fault]
def ag.small (n : Nat) (x : ag) : Prop := (aC.small n x.base) /\ (aL.small n x.store) /\ (x.blocks.length <= n /\ ∀ y ∈ x.blocks, aq.small n y) /\ (x.contexts.length <= n /\ ∀ y ∈ x.contexts, ao.small n y) /\ (x.processes.length <= n /\ ∀ y ∈ x.processes, av.small n y) /\ (x.ready.length <= n) /\ (ab.small n x.value) /\ (x.fault.size <= n)
def ag.tz : List TV := [.nils, .nils, .nils, .int .i64 0, .nils, .nils, .nils, .int .i64 0, .int .i64 0, .int .i64 0, .nils, .nils, .nils, .nils, .int .i64 0, .int .i64 0, .int .i64 0, .int .i64 0, .str ⟨#[]⟩, .str ⟨#[]⟩]
theorem ag.fin (B K : Nat) (objs : aK) (_x : ag) : gA B objs K (_x.tw B) (_x.tw K) := .cons (bW (fun _x => aa.fin B K objs _x) _) (.cons (bW (fun _x => au.fin B K objs _x) _) (.cons (bW (fun _x => aB.fin B K objs _x) _) (.cons (.flat rfl) (.cons (bW (fun _x => aa.fin B K objs _x) _) (.cons (bW (fun _x => ar.fin B K objs _x) _) (.cons (bW (fun _x => .cons (.flat rfl) .nil) _) (.cons (.flat rfl) (.cons (.flat rfl) (.cons (.flat rfl) (.cons (bW (fun _x => aq.fin B K objs _x) _) (.cons (bW (fun _x => ao.fin B K objs _x) _) (.cons (bW (fun _x => av.fin B K objs _x) _) (.cons (bW (fun _x => .cons (.flat rfl) .nil) _) (.cons (.flat rfl) (.cons (.flat rfl) (.cons (.flat rfl) (.cons (.flat rfl) (.cons (.flat rfl) (.cons (.flat rfl) (.nil))))))))))))))))))))
theorem ag.len (lo : Nat) (l : List ag) : (l.map (ag.tw lo)).length = l.length := by simp
section
variable {G : World -> Prop}
theorem uz (hst : ay G) (lo : Nat) (x : ag) (left : Int) (h : 0 <= left /\ left <= 1048576) (hb : x.small 9223372036854775807) : CtM Tryz.prog G 21 [.agg (x.tw lo), .int .i64 left] [] (fun y : Int => -1 <= y /\ y <= left /\ (0 <= y -> x.small 1048576)) (fun _ => []) (fun y => .int .i64 y) := by
 refine aJ Tryz.func21 rfl Tryz.ntmps21 rfl rfl rfl fun w0 R gs objsR hG hR => ?_
 obtain rfl := hR.inv0
 clear hR
 unfold ag.small at hb
 have hb8 : x.fault.size <= 9223372036854775807 := hb.2.2.2.2.2.2.2
 unfold ag.tw
 repeat' (first | refine W_ ?_ | refine aF ?_ | ((with_reducible apply az); rfl; kernel_rfl; (repeat (first | exact aw.nil | ((with_reducible apply aw.cons); rfl))); exact hG; exact nC hst lo x.base _ (by omega) hb.1; exact .nil _; intro y1 hy1; refine bv ?_) | ((with_reducible apply az); rfl; kernel_rfl; (repeat (first | exact aw.nil | ((with_reducible apply aw.cons); rfl))); exact hG; exact ui hst lo x.store _ (by omega) hb.2.1; exact .nil _; intro y2 hy2; refine bv ?_) | ((with_reducible apply az); rfl; kernel_rfl; (repeat (first | exact aw.nil | ((with_reducible apply aw.cons); rfl))); exact hG; exact oL hst lo x.blocks _ (by omega) hb.2.2.1; exact .nil _; intro y3 hy3; refine bv ?_) | ((with_reducible apply az); rfl; kernel_rfl; (repeat (first | exact aw.nil | ((with_reducible apply aw.cons); rfl))); exact hG; exact oq hst lo x.contexts _ (by omega) hb.2.2.2.1; exact .nil _; intro y4 hy4; refine bv ?_) | ((with_reducible apply az); rfl; kernel_rfl; (repeat (first | exact aw.nil | ((with_reducible apply aw.cons); rfl))); exact hG; exact nJ hst lo x.processes _ (by omega) hb.2.2.2.2.1; exact .nil _; intro y5 hy5; refine bv ?_) | ((with_reducible apply az); rfl; kernel_rfl; (repeat (first | exact aw.nil | ((with_reducible apply aw.cons); rfl))); exact hG; exact qp hst lo x.ready _ (by omega) hb.2.2.2.2.2.1; exact .nil _; intro y6 hy6; refine bv ?_) | ((with_reducible apply az); rfl; kernel_rfl; (repeat (first | exact aw.nil | ((with_reducible apply aw.cons); rfl))); exact hG; exact gI hst lo x.value _ (by omega) hb.2.2.2.2.2.2.1; exact .nil _; intro y7 hy7; refine bv ?_) | refine c_ (fun hc => ?_) (fun hc => ?_))
 all_goals first
   | exact aG x_ rfl (-1) ⟨by omega, by omega, fun h => by omega⟩ rfl (.nil R) (.refl _) (.tmp _ _ rfl) rfl
   | (refine aG x_ rfl _ ⟨?_, ?_, fun _ => ?_⟩ rfl (.nil R) (.refl _) (.tmp _ _ rfl) rfl
      ·omega
      ·omega
      ·exact ⟨hy1.2.2 (by omega), hy2.2.2 (by omega), hy3.2.2 (by omega), hy4.2.2 (by omega), hy5.2.2 (by omega), hy6.2.2 (by omega), hy7.2.2 (by omega), by omega⟩)
theorem uj (hst : ay G) (lo : Nat) (x : ag) (hb : x.small 1048576) : Ct Tryz.prog G 23 [.agg (x.tw lo)] (fun K => .agg (x.tw K)) := by
 refine ak Tryz.func23 rfl Tryz.ntmps23 rfl rfl fun w0 _ hG => ?_
 unfold ag.small at hb
 have hsbase := hb.1
 have hsstore := hb.2.1
 have hsblocks := hb.2.2.1
 have hscontexts := hb.2.2.2.1
 have hsprocesses := hb.2.2.2.2.1
 have hsready := hb.2.2.2.2.2.1
 have hsvalue := hb.2.2.2.2.2.2.1
 repeat' (first | refine W_ ?_ | refine aF ?_ | (refine aj ?_; intro ss bb) | refine ad ?_ | refine ac hG hst (oU hst lo x.base (hsbase)) ?_ | refine ac hG hst (tX hst lo x.store (hsstore)) ?_ | refine ac hG hst (n7 hst lo x.blocks (hsblocks)) ?_ | refine ac hG hst (nB hst lo x.contexts (hscontexts)) ?_ | refine ac hG hst (nT hst lo x.processes (hsprocesses)) ?_ | refine ac hG hst (pL hst lo x.ready (hsready)) ?_ | refine ac hG hst (gH hst lo x.value (hsvalue)) ?_)
 refine aA x_ rfl (.cell _ _ _ _ _ rfl mm_ (by kernel_rfl) (by kernel_rfl) (by kernel_rfl)) (fun _ => ?_)
 exact dK (ag.fin _ _ _ x)
theorem uo (hst : ay G) (l1 l2 : Nat) (x : ag) (hb : x.small 1048576) : Ct Tryz.prog G 16 [.agg (x.tw l1), .agg (x.tw l2)] (fun _ => .bool true) := by
 refine ak Tryz.func16 rfl Tryz.ntmps16 rfl rfl fun w0 _ hG => ?_
 unfold ag.small at hb
 have hsbase := hb.1
 have hsstore := hb.2.1
 have hsblocks := hb.2.2.1
 have hscontexts := hb.2.2.2.1
 have hsprocesses := hb.2.2.2.2.1
 have hsready := hb.2.2.2.2.2.1
 have hsvalue := hb.2.2.2.2.2.2.1
 have hnefault : ¬ x.fault ≠ x.fault := fun h => h rfl
 unfold ag.tw
 repeat' (first | refine W_ ?_ | refine aF ?_ | refine ac hG hst (nR hst l1 l2 x.base hsbase) ?_ | refine ac hG hst (uX hst l1 l2 x.store hsstore) ?_ | refine ac hG hst (nA hst l1 l2 x.blocks hsblocks) ?_ | refine ac hG hst (nM hst l1 l2 x.contexts hscontexts) ?_ | refine ac hG hst (oe hst l1 l2 x.processes hsprocesses) ?_ | refine ac hG hst (pO hst l1 l2 x.ready hsready) ?_ | refine ac hG hst (gN hst l1 l2 x.value hsvalue) ?_)
 all_goals first
   | (exfalso; simp at hc; done)
   | (exact r1_)
end
end Go.Proofs.YtiihihgjiklnoaaGreatDoor
