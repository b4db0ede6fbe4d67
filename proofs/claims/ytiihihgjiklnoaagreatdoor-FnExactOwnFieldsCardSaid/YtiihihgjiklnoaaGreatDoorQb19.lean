/- Part 19 of the proof: the texts LwU. -/
import Derived.Test.YtiihihgjiklnoaaGreatDoorQb14
/- The laws' own helpers sz, to, eq for the types of an image, walked (frozen copies). Written by gen_lw.py. -/
namespace Go.Proofs.YtiihihgjiklnoaaGreatDoor
set_option maxRecDepth 20000
open Go Go.RowKit
section
variable {G : World → Prop}
theorem q9 (_ : az G) (lo : Nat) (l : List Int) (left : Int) (h : 0 ≤ left ∧ left ≤ 1048576) (hb : l.length ≤ 9223372036854775807) : CtM Tryz.prog G 81 [.sl lo 1 (aO l), .int .i64 left] [] (fun y : Int => -1 ≤ y ∧ y ≤ left ∧ (0 ≤ y → l.length ≤ 1048576)) (fun _ => []) (fun y => .int .i64 y) := by
  refine aC Tryz.func81 rfl Tryz.ntmps81 rfl rfl rfl fun w0 R gs objsR hG hR => ?_
  obtain rfl := hR.inv0
  clear hR
  have hlen := aq l
  by_cases hn : left - l.length < 0
  · repeat' (first | refine W_ ?_ | refine c_ (fun hc => ?_) (fun hc => ?_) | refine g_ (fun hg => ?_) (fun hg => ?_))
    exact av x_ rfl (-1) ⟨by omega, by omega, fun h => by omega⟩ rfl (.nil R) (.refl _) (.tmp _ _ rfl) rfl
  · repeat' (first | refine W_ ?_ | refine c_ (fun hc => ?_) (fun hc => ?_) | refine g_ (fun hg => ?_) (fun hg => ?_))
    exact av x_ rfl (left - l.length) ⟨by omega, by omega, fun _ => by omega⟩ rfl (.nil R) (.refl _) (.tmp _ _ rfl) rfl
theorem q8 (_ : az G) (lo : Nat) (l : List Int) (hn : l.length ≤ 1048576) : Ct Tryz.prog G 90 [.sl lo 1 (aO l)] (fun K => .sl K 1 (aO l)) := by
  refine ao Tryz.func90 rfl Tryz.ntmps90 rfl rfl fun w0 _ hG => ?_
  have hlen := aq l
  have h0 := bC (fun s : Int => [TV.int .i64 s]) [.int .i64 0] l
  repeat' (first | refine W_ ?_ | (refine de ?_; intro ss bb) | refine c_ (fun hc => ?_) (fun hc => ?_) | refine g_ (fun hg => ?_) (fun hg => ?_))
  apply aj (X := Nat) [0, 3] (fun i => [(4, .int .i64 (i : Int))]) (fun i => [(ss, bb, .row 1 (cI (fun s : Int => [TV.int .i64 s]) [.int .i64 0] l i))]) (fun i => i ≤ l.length) (fun i => l.length - i) 0 (Nat.zero_le _)
  exact kp_; exact nw_
  · rw [← h0]; exact .refl _
  intro i hi
  try dsimp only
  by_cases hlt : i < l.length
  · obtain ⟨hrow, hset⟩ := bQ (fun s : Int => [TV.int .i64 s]) [.int .i64 0] hlt
    have hra := iG hlt
    generalize l[i] = x at hset hra
    try dsimp only at hset
    repeat' (first | refine W_ ?_ | refine a6 ?_ | refine c_ (fun hc => ?_) (fun hc => ?_) | refine g_ (fun hg => ?_) (fun hg => ?_))
    refine ah (i + 1) (by omega) (by omega) (.of _ nw_ od_ (by rw [← hset]; exact .refl _))
  · obtain rfl : i = l.length := by omega
    rw [bB]
    repeat' (first | refine W_ ?_ | refine c_ (fun hc => ?_) (fun hc => ?_) | refine g_ (fun hg => ?_) (fun hg => ?_))
    refine aB x_ rfl (.tmp _ _ rfl) (fun _ => ?_)
    exact eK (fun x => .cons (.flat rfl) .nil) List.mem_cons_self
theorem mf (_ : az G) (l1 l2 : Nat) (l : List Int) (hn : l.length ≤ 1048576) : Ct Tryz.prog G 32 [.sl l1 1 (aO l), .sl l2 1 (aO l)] (fun _ => .bool true) := by
  refine ao Tryz.func32 rfl Tryz.ntmps32 rfl rfl fun w0 _ hG => ?_
  have hlen := aq l
  repeat' (first | refine W_ ?_ | refine c_ (fun hc => ?_) (fun hc => ?_) | refine g_ (fun hg => ?_) (fun hg => ?_))
  apply aj (X := Nat) [0, 1] (fun i => [(5, .int .i64 (i : Int))]) (fun _ => []) (fun i => i ≤ l.length) (fun i => l.length - i) 0 (Nat.zero_le _)
  exact kp_; exact nw_
  · exact .refl _
  intro i hi
  try dsimp only
  by_cases hlt : i < l.length
  · have hrow := iG hlt
    generalize l[i] = x at hrow
    repeat' (first | refine V_ ?_ | refine c_ (fun hc => ?_) (fun hc => ?_) | refine g_ (fun hg => ?_) (fun hg => ?_))
    all_goals first
      | exact ah (i + 1) (by omega) (by omega) (.of _ nw_ od_ pk_)
      | (exfalso; simp at hc; done)
  · repeat' (first | refine W_ ?_ | refine c_ (fun hc => ?_) (fun hc => ?_) | refine g_ (fun hg => ?_) (fun hg => ?_))
    exact r1_
end
def ae.tw (_lo : Nat) (x : ae) : List TV := [.int .i64 x.kind, .int .i64 x.number, .str x.text]
def ae.small (n : Nat) (x : ae) : Prop := (x.text.size ≤ n)
def ae.tz : List TV := [.int .i64 0, .int .i64 0, .str ⟨#[]⟩]
theorem ae.fin (B K : Nat) (objs : aI) (x : ae) : im B objs K (x.tw B) (x.tw K) := .cons (.flat rfl) (.cons (.flat rfl) (.cons (.flat rfl) (.nil)))
theorem ae.len (lo : Nat) (l : List ae) : (l.map (ae.tw lo)).length = l.length := by simp
section
variable {G : World → Prop}
theorem iL (_hst : az G) (lo : Nat) (x : ae) (left : Int) (h : 0 ≤ left ∧ left ≤ 1048576) (hb : x.small 9223372036854775807) : CtM Tryz.prog G 82 [.agg (x.tw lo), .int .i64 left] [] (fun y : Int => -1 ≤ y ∧ y ≤ left ∧ (0 ≤ y → x.small 1048576)) (fun _ => []) (fun y => .int .i64 y) := by
  refine aC Tryz.func82 rfl Tryz.ntmps82 rfl rfl rfl fun w0 R gs objsR hG hR => ?_
  obtain rfl := hR.inv0
  clear hR
  unfold ae.small at hb
  have hb1 : x.text.size ≤ 9223372036854775807 := hb
  unfold ae.tw
  repeat' (first | refine W_ ?_ | refine aE ?_ | refine c_ (fun hc => ?_) (fun hc => ?_) | refine g_ (fun hg => ?_) (fun hg => ?_))
  all_goals first
    | exact av x_ rfl (-1) ⟨by omega, by omega, fun h => by omega⟩ rfl (.nil R) (.refl _) (.tmp _ _ rfl) rfl
    | (refine av x_ rfl _ ⟨?_, ?_, fun _ => ?_⟩ rfl (.nil R) (.refl _) (.tmp _ _ rfl) rfl
       · omega
       · omega
       · show _ ≤ _; omega)
theorem gH (hst : az G) (lo : Nat) (l : List ae) (left : Int) (h : 0 ≤ left ∧ left ≤ 1048576) (hb : l.length ≤ 9223372036854775807 ∧ ∀ y ∈ l, ae.small 9223372036854775807 y) : CtM Tryz.prog G 228 [.sl lo 3 (l.map (ae.tw lo)), .int .i64 left] [] (fun y : Int => -1 ≤ y ∧ y ≤ left ∧ (0 ≤ y → l.length ≤ 1048576 ∧ ∀ y ∈ l, ae.small 1048576 y)) (fun _ => []) (fun y => .int .i64 y) := by
  refine aC Tryz.func228 rfl Tryz.ntmps228 rfl rfl rfl fun w0 R gs objsR hG hR => ?_
  obtain rfl := hR.inv0
  clear hR
  have hlen := ae.len lo l
  have hl1 := hb.1
  by_cases hn : left - l.length < 0
  · repeat' (first | refine W_ ?_ | refine c_ (fun hc => ?_) (fun hc => ?_) | refine g_ (fun hg => ?_) (fun hg => ?_))
    exact av x_ rfl (-1) ⟨by omega, by omega, fun h => by omega⟩ rfl (.nil R) (.refl _) (.tmp _ _ rfl) rfl
  · repeat' (first | refine W_ ?_ | refine c_ (fun hc => ?_) (fun hc => ?_) | refine g_ (fun hg => ?_) (fun hg => ?_))
    apply aj (X := Nat × Int) [0, 1000000] (fun x => [(5, .int .i64 (x.1 : Int)), (1, .int .i64 x.2)]) (fun _ => R) (fun x => x.1 ≤ l.length ∧ 0 ≤ x.2 ∧ x.2 ≤ left ∧ ∀ y ∈ l.take x.1, ae.small 1048576 y) (fun x => l.length - x.1) (0, left - l.length) ⟨Nat.zero_le _, by dsimp only; omega, by dsimp only; omega, by simp⟩
    exact kp_; exact nw_
    · exact .refl _
    rintro ⟨i, lf⟩ ⟨hi, h0, h1, hs⟩
    dsimp only at hi h0 h1 hs ⊢
    by_cases hlt : i < l.length
    · have hrow : (l.map (ae.tw lo))[i]? = some (l[i].tw lo) := aH hlt
      have hbi := hb.2 _ (List.getElem_mem hlt)
      have hta := aT (p := ae.small 1048576) hlt hs
      generalize l[i] = x at hrow hbi hta
      have hct := iL hst lo x lf (by omega) hbi
      unfold ae.tw at hct
      rw [show x.tw lo = [.int .i64 x.kind, .int .i64 x.number, .str x.text] from rfl] at hrow
      repeat' (first | refine W_ ?_ | ((with_reducible apply aF); rfl; kernel_rfl; (repeat (first | exact aD.nil | ((with_reducible apply aD.cons); rfl))); exact hG; exact hct; exact .nil _; intro y hy; refine bD ?_) | refine c_ (fun hc => ?_) (fun hc => ?_) | refine g_ (fun hg => ?_) (fun hg => ?_))
      all_goals first
        | exact av x_ rfl (-1) ⟨by omega, by omega, fun h => by omega⟩ rfl (.nil R) (.refl _) (.tmp _ _ rfl) rfl
        | exact ah (i + 1, y) ⟨by dsimp only; omega, by dsimp only; omega, by dsimp only; omega, hta (hy.2.2 (by omega))⟩ (by dsimp only; omega) (.of _ nw_ od_ pk_)
    · rw [List.take_of_length_le (by omega)] at hs
      repeat' (first | refine W_ ?_ | refine c_ (fun hc => ?_) (fun hc => ?_) | refine g_ (fun hg => ?_) (fun hg => ?_))
      exact av x_ rfl lf ⟨by omega, by omega, fun _ => ⟨by omega, hs⟩⟩ rfl (.nil R) (.refl _) (.tmp _ _ rfl) rfl
theorem ek (_hst : az G) (lo : Nat) (x : ae) (_hb : x.small 1048576) : Ct Tryz.prog G 91 [.agg (x.tw lo)] (fun K => .agg (x.tw K)) := by
  refine ao Tryz.func91 rfl Tryz.ntmps91 rfl rfl fun w0 _ hG => ?_
  unfold ae.small at _hb
  skip
  repeat' (first | refine W_ ?_ | refine aE ?_ | (refine ai ?_; intro ss bb) | refine ad ?_ | refine c_ (fun hc => ?_) (fun hc => ?_) | refine g_ (fun hg => ?_) (fun hg => ?_))
  refine aB x_ rfl (.cell _ _ _ _ _ rfl mm_ (by kernel_rfl) (by kernel_rfl) (by kernel_rfl)) (fun _ => ?_)
  exact eg (ae.fin _ _ _ x)
theorem gr (hst : az G) (lo : Nat) (l : List ae) (hb : l.length ≤ 1048576 ∧ ∀ y ∈ l, ae.small 1048576 y) : Ct Tryz.prog G 238 [.sl lo 3 (l.map (ae.tw lo))] (fun K => .sl K 3 (l.map (ae.tw K))) := by
  refine ao Tryz.func238 rfl Tryz.ntmps238 rfl rfl fun w0 _ hG => ?_
  have hlen := ae.len lo l
  have hl1 := hb.1
  have h0 := bC (ae.tw w0.heap.size) ae.tz l
  repeat' (first | refine W_ ?_ | (refine de ?_; intro ss bb) | refine c_ (fun hc => ?_) (fun hc => ?_) | refine g_ (fun hg => ?_) (fun hg => ?_))
  apply aj (X := Nat) [0, 3] (fun i => [(4, .int .i64 (i : Int))]) (fun i => [(ss, bb, .row 3 (cI (ae.tw w0.heap.size) ae.tz l i))]) (fun i => i ≤ l.length) (fun i => l.length - i) 0 (Nat.zero_le _)
  exact kp_; exact nw_
  · rw [← h0]; exact .refl _
  intro i hi
  try dsimp only
  by_cases hlt : i < l.length
  · obtain ⟨hrow, hset⟩ := bQ (ae.tw w0.heap.size) ae.tz hlt
    have hra : (l.map (ae.tw lo))[i]? = some (l[i].tw lo) := aH hlt
    have hbi := hb.2 _ (List.getElem_mem hlt)
    generalize l[i] = x at hset hra hbi
    have hct := ek hst lo x hbi
    unfold ae.tw at hct
    rw [show x.tw lo = [.int .i64 x.kind, .int .i64 x.number, .str x.text] from rfl] at hra
    replace hrow : (cI (ae.tw w0.heap.size) ae.tz l i)[i]? = some [.int .i64 0, .int .i64 0, .str ⟨#[]⟩] := hrow
    repeat' (first | refine W_ ?_ | refine ab hG hst (hct) ?_ | refine a6 ?_ | refine c_ (fun hc => ?_) (fun hc => ?_) | refine g_ (fun hg => ?_) (fun hg => ?_))
    refine ah (i + 1) (by omega) (by omega) (.of _ nw_ od_ (by rw [← hset]; exact .refl _))
  · obtain rfl : i = l.length := by omega
    rw [bB]
    repeat' (first | refine W_ ?_ | refine c_ (fun hc => ?_) (fun hc => ?_) | refine g_ (fun hg => ?_) (fun hg => ?_))
    refine aB x_ rfl (.tmp _ _ rfl) (fun _ => ?_)
    exact eK (fun x => ae.fin _ _ _ x) List.mem_cons_self
theorem iM (_hst : az G) (l1 l2 : Nat) (x : ae) (_hb : x.small 1048576) : Ct Tryz.prog G 61 [.agg (x.tw l1), .agg (x.tw l2)] (fun _ => .bool true) := by
  refine ao Tryz.func61 rfl Tryz.ntmps61 rfl rfl fun w0 _ hG => ?_
  unfold ae.small at _hb
  have hnetext : ¬ x.text ≠ x.text := fun h => h rfl
  unfold ae.tw
  repeat' (first | refine W_ ?_ | refine aE ?_ | refine c_ (fun hc => ?_) (fun hc => ?_) | refine g_ (fun hg => ?_) (fun hg => ?_))
  all_goals first
    | (exfalso; simp at hc; done)
    | (exact r1_)
theorem gF (hst : az G) (l1 l2 : Nat) (l : List ae) (hb : l.length ≤ 1048576 ∧ ∀ y ∈ l, ae.small 1048576 y) : Ct Tryz.prog G 224 [.sl l1 3 (l.map (ae.tw l1)), .sl l2 3 (l.map (ae.tw l2))] (fun _ => .bool true) := by
  refine ao Tryz.func224 rfl Tryz.ntmps224 rfl rfl fun w0 _ hG => ?_
  have hlen := ae.len l1 l
  have hlen2 := ae.len l2 l
  have hl1 := hb.1
  repeat' (first | refine W_ ?_ | refine c_ (fun hc => ?_) (fun hc => ?_) | refine g_ (fun hg => ?_) (fun hg => ?_))
  apply aj (X := Nat) [0, 1] (fun i => [(5, .int .i64 (i : Int))]) (fun _ => []) (fun i => i ≤ l.length) (fun i => l.length - i) 0 (Nat.zero_le _)
  exact kp_; exact nw_
  · exact .refl _
  intro i hi
  try dsimp only
  by_cases hlt : i < l.length
  · have hr1 : (l.map (ae.tw l1))[i]? = some (l[i].tw l1) := aH hlt
    have hr2 : (l.map (ae.tw l2))[i]? = some (l[i].tw l2) := aH hlt
    have hbi := hb.2 _ (List.getElem_mem hlt)
    generalize l[i] = x at hr1 hr2 hbi
    have hct := iM hst l1 l2 x hbi
    unfold ae.tw at hct
    rw [show x.tw l1 = [.int .i64 x.kind, .int .i64 x.number, .str x.text] from rfl] at hr1
    rw [show x.tw l2 = [.int .i64 x.kind, .int .i64 x.number, .str x.text] from rfl] at hr2
    repeat' (first | refine V_ ?_ | refine ac hG hst (hct) ?_ | refine ab hG hst (hct) ?_ | refine c_ (fun hc => ?_) (fun hc => ?_) | refine g_ (fun hg => ?_) (fun hg => ?_))
    exact ah (i + 1) (by omega) (by omega) (.of _ nw_ od_ pk_)
  · repeat' (first | refine W_ ?_ | refine c_ (fun hc => ?_) (fun hc => ?_) | refine g_ (fun hg => ?_) (fun hg => ?_))
    exact r1_
end
def au.tw (lo : Nat) (x : au) : List TV := [.int .i64 x.kind, .int .i64 x.class_, .sl lo 3 (x.fields.map (ae.tw lo)), .sl lo 1 (aO x.numbers)]
def au.small (n : Nat) (x : au) : Prop := (x.fields.length ≤ n ∧ ∀ y ∈ x.fields, ae.small n y) ∧ (x.numbers.length ≤ n)
def au.tz : List TV := [.int .i64 0, .int .i64 0, .nils, .nils]
theorem au.fin (B K : Nat) (objs : aI) (_x : au) : im B objs K (_x.tw B) (_x.tw K) := .cons (.flat rfl) (.cons (.flat rfl) (.cons (cn (fun _x => ae.fin B K objs _x) _) (.cons (cn (fun _x => .cons (.flat rfl) .nil) _) (.nil))))
theorem au.len (lo : Nat) (l : List au) : (l.map (au.tw lo)).length = l.length := by simp
section
variable {G : World → Prop}
theorem ti (hst : az G) (lo : Nat) (x : au) (left : Int) (h : 0 ≤ left ∧ left ≤ 1048576) (hb : x.small 9223372036854775807) : CtM Tryz.prog G 227 [.agg (x.tw lo), .int .i64 left] [] (fun y : Int => -1 ≤ y ∧ y ≤ left ∧ (0 ≤ y → x.small 1048576)) (fun _ => []) (fun y => .int .i64 y) := by
  refine aC Tryz.func227 rfl Tryz.ntmps227 rfl rfl rfl fun w0 R gs objsR hG hR => ?_
  obtain rfl := hR.inv0
  clear hR
  unfold au.small at hb
  skip
  unfold au.tw
  repeat' (first | refine W_ ?_ | refine aE ?_ | ((with_reducible apply aF); rfl; kernel_rfl; (repeat (first | exact aD.nil | ((with_reducible apply aD.cons); rfl))); exact hG; exact gH hst lo x.fields _ (by omega) hb.1; exact .nil _; intro y1 hy1; refine bD ?_) | ((with_reducible apply aF); rfl; kernel_rfl; (repeat (first | exact aD.nil | ((with_reducible apply aD.cons); rfl))); exact hG; exact q9 hst lo x.numbers _ (by omega) hb.2; exact .nil _; intro y2 hy2; refine bD ?_) | refine c_ (fun hc => ?_) (fun hc => ?_) | refine g_ (fun hg => ?_) (fun hg => ?_))
  all_goals first
    | exact av x_ rfl (-1) ⟨by omega, by omega, fun h => by omega⟩ rfl (.nil R) (.refl _) (.tmp _ _ rfl) rfl
    | (refine av x_ rfl _ ⟨?_, ?_, fun _ => ?_⟩ rfl (.nil R) (.refl _) (.tmp _ _ rfl) rfl
       · omega
       · omega
       · exact ⟨hy1.2.2 (by omega), hy2.2.2 (by omega)⟩)
theorem sJ (hst : az G) (lo : Nat) (l : List au) (left : Int) (h : 0 ≤ left ∧ left ≤ 1048576) (hb : l.length ≤ 9223372036854775807 ∧ ∀ y ∈ l, au.small 9223372036854775807 y) : CtM Tryz.prog G 157 [.sl lo 4 (l.map (au.tw lo)), .int .i64 left] [] (fun y : Int => -1 ≤ y ∧ y ≤ left ∧ (0 ≤ y → l.length ≤ 1048576 ∧ ∀ y ∈ l, au.small 1048576 y)) (fun _ => []) (fun y => .int .i64 y) := by
  refine aC Tryz.func157 rfl Tryz.ntmps157 rfl rfl rfl fun w0 R gs objsR hG hR => ?_
  obtain rfl := hR.inv0
  clear hR
  have hlen := au.len lo l
  have hl1 := hb.1
  by_cases hn : left - l.length < 0
  · repeat' (first | refine W_ ?_ | refine c_ (fun hc => ?_) (fun hc => ?_) | refine g_ (fun hg => ?_) (fun hg => ?_))
    exact av x_ rfl (-1) ⟨by omega, by omega, fun h => by omega⟩ rfl (.nil R) (.refl _) (.tmp _ _ rfl) rfl
  · repeat' (first | refine W_ ?_ | refine c_ (fun hc => ?_) (fun hc => ?_) | refine g_ (fun hg => ?_) (fun hg => ?_))
    apply aj (X := Nat × Int) [0, 1000000] (fun x => [(5, .int .i64 (x.1 : Int)), (1, .int .i64 x.2)]) (fun _ => R) (fun x => x.1 ≤ l.length ∧ 0 ≤ x.2 ∧ x.2 ≤ left ∧ ∀ y ∈ l.take x.1, au.small 1048576 y) (fun x => l.length - x.1) (0, left - l.length) ⟨Nat.zero_le _, by dsimp only; omega, by dsimp only; omega, by simp⟩
    exact kp_; exact nw_
    · exact .refl _
    rintro ⟨i, lf⟩ ⟨hi, h0, h1, hs⟩
    dsimp only at hi h0 h1 hs ⊢
    by_cases hlt : i < l.length
    · have hrow : (l.map (au.tw lo))[i]? = some (l[i].tw lo) := aH hlt
      have hbi := hb.2 _ (List.getElem_mem hlt)
      have hta := aT (p := au.small 1048576) hlt hs
      generalize l[i] = x at hrow hbi hta
      have hct := ti hst lo x lf (by omega) hbi
      unfold au.tw at hct
      rw [show x.tw lo = [.int .i64 x.kind, .int .i64 x.class_, .sl lo 3 (x.fields.map (ae.tw lo)), .sl lo 1 (aO x.numbers)] from rfl] at hrow
      repeat' (first | refine W_ ?_ | ((with_reducible apply aF); rfl; kernel_rfl; (repeat (first | exact aD.nil | ((with_reducible apply aD.cons); rfl))); exact hG; exact hct; exact .nil _; intro y hy; refine bD ?_) | refine c_ (fun hc => ?_) (fun hc => ?_) | refine g_ (fun hg => ?_) (fun hg => ?_))
      all_goals first
        | exact av x_ rfl (-1) ⟨by omega, by omega, fun h => by omega⟩ rfl (.nil R) (.refl _) (.tmp _ _ rfl) rfl
        | exact ah (i + 1, y) ⟨by dsimp only; omega, by dsimp only; omega, by dsimp only; omega, hta (hy.2.2 (by omega))⟩ (by dsimp only; omega) (.of _ nw_ od_ pk_)
    · rw [List.take_of_length_le (by omega)] at hs
      repeat' (first | refine W_ ?_ | refine c_ (fun hc => ?_) (fun hc => ?_) | refine g_ (fun hg => ?_) (fun hg => ?_))
      exact av x_ rfl lf ⟨by omega, by omega, fun _ => ⟨by omega, hs⟩⟩ rfl (.nil R) (.refl _) (.tmp _ _ rfl) rfl
theorem sP (hst : az G) (lo : Nat) (x : au) (hb : x.small 1048576) : Ct Tryz.prog G 237 [.agg (x.tw lo)] (fun K => .agg (x.tw K)) := by
  refine ao Tryz.func237 rfl Tryz.ntmps237 rfl rfl fun w0 _ hG => ?_
  unfold au.small at hb
  have hsfields := hb.1
  have hsnumbers := hb.2
  repeat' (first | refine W_ ?_ | refine aE ?_ | (refine ai ?_; intro ss bb) | refine ad ?_ | refine ab hG hst (gr hst lo x.fields (hsfields)) ?_ | refine ab hG hst (q8 hst lo x.numbers (hsnumbers)) ?_ | refine c_ (fun hc => ?_) (fun hc => ?_) | refine g_ (fun hg => ?_) (fun hg => ?_))
  refine aB x_ rfl (.cell _ _ _ _ _ rfl mm_ (by kernel_rfl) (by kernel_rfl) (by kernel_rfl)) (fun _ => ?_)
  exact eg (au.fin _ _ _ x)
theorem rD (hst : az G) (lo : Nat) (l : List au) (hb : l.length ≤ 1048576 ∧ ∀ y ∈ l, au.small 1048576 y) : Ct Tryz.prog G 173 [.sl lo 4 (l.map (au.tw lo))] (fun K => .sl K 4 (l.map (au.tw K))) := by
  refine ao Tryz.func173 rfl Tryz.ntmps173 rfl rfl fun w0 _ hG => ?_
  have hlen := au.len lo l
  have hl1 := hb.1
  have h0 := bC (au.tw w0.heap.size) au.tz l
  repeat' (first | refine W_ ?_ | (refine de ?_; intro ss bb) | refine c_ (fun hc => ?_) (fun hc => ?_) | refine g_ (fun hg => ?_) (fun hg => ?_))
  apply aj (X := Nat) [0, 3] (fun i => [(4, .int .i64 (i : Int))]) (fun i => [(ss, bb, .row 4 (cI (au.tw w0.heap.size) au.tz l i))]) (fun i => i ≤ l.length) (fun i => l.length - i) 0 (Nat.zero_le _)
  exact kp_; exact nw_
  · rw [← h0]; exact .refl _
  intro i hi
  try dsimp only
  by_cases hlt : i < l.length
  · obtain ⟨hrow, hset⟩ := bQ (au.tw w0.heap.size) au.tz hlt
    have hra : (l.map (au.tw lo))[i]? = some (l[i].tw lo) := aH hlt
    have hbi := hb.2 _ (List.getElem_mem hlt)
    generalize l[i] = x at hset hra hbi
    have hct := sP hst lo x hbi
    unfold au.tw at hct
    rw [show x.tw lo = [.int .i64 x.kind, .int .i64 x.class_, .sl lo 3 (x.fields.map (ae.tw lo)), .sl lo 1 (aO x.numbers)] from rfl] at hra
    replace hrow : (cI (au.tw w0.heap.size) au.tz l i)[i]? = some [.int .i64 0, .int .i64 0, .nils, .nils] := hrow
    repeat' (first | refine W_ ?_ | refine ab hG hst (hct) ?_ | refine a6 ?_ | refine c_ (fun hc => ?_) (fun hc => ?_) | refine g_ (fun hg => ?_) (fun hg => ?_))
    refine ah (i + 1) (by omega) (by omega) (.of _ nw_ od_ (by rw [← hset]; exact .refl _))
  · obtain rfl : i = l.length := by omega
    rw [bB]
    repeat' (first | refine W_ ?_ | refine c_ (fun hc => ?_) (fun hc => ?_) | refine g_ (fun hg => ?_) (fun hg => ?_))
    refine aB x_ rfl (.tmp _ _ rfl) (fun _ => ?_)
    exact eK (fun x => au.fin _ _ _ x) List.mem_cons_self
theorem tP (hst : az G) (l1 l2 : Nat) (x : au) (hb : x.small 1048576) : Ct Tryz.prog G 223 [.agg (x.tw l1), .agg (x.tw l2)] (fun _ => .bool true) := by
  refine ao Tryz.func223 rfl Tryz.ntmps223 rfl rfl fun w0 _ hG => ?_
  unfold au.small at hb
  have hsfields := hb.1
  have hsnumbers := hb.2
  unfold au.tw
  repeat' (first | refine W_ ?_ | refine aE ?_ | refine ab hG hst (gF hst l1 l2 x.fields hsfields) ?_ | refine ab hG hst (mf hst l1 l2 x.numbers hsnumbers) ?_ | refine c_ (fun hc => ?_) (fun hc => ?_) | refine g_ (fun hg => ?_) (fun hg => ?_))
  all_goals first
    | (exfalso; simp at hc; done)
    | (exact r1_)
theorem rP (hst : az G) (l1 l2 : Nat) (l : List au) (hb : l.length ≤ 1048576 ∧ ∀ y ∈ l, au.small 1048576 y) : Ct Tryz.prog G 142 [.sl l1 4 (l.map (au.tw l1)), .sl l2 4 (l.map (au.tw l2))] (fun _ => .bool true) := by
  refine ao Tryz.func142 rfl Tryz.ntmps142 rfl rfl fun w0 _ hG => ?_
  have hlen := au.len l1 l
  have hlen2 := au.len l2 l
  have hl1 := hb.1
  repeat' (first | refine W_ ?_ | refine c_ (fun hc => ?_) (fun hc => ?_) | refine g_ (fun hg => ?_) (fun hg => ?_))
  apply aj (X := Nat) [0, 1] (fun i => [(5, .int .i64 (i : Int))]) (fun _ => []) (fun i => i ≤ l.length) (fun i => l.length - i) 0 (Nat.zero_le _)
  exact kp_; exact nw_
  · exact .refl _
  intro i hi
  try dsimp only
  by_cases hlt : i < l.length
  · have hr1 : (l.map (au.tw l1))[i]? = some (l[i].tw l1) := aH hlt
    have hr2 : (l.map (au.tw l2))[i]? = some (l[i].tw l2) := aH hlt
    have hbi := hb.2 _ (List.getElem_mem hlt)
    generalize l[i] = x at hr1 hr2 hbi
    have hct := tP hst l1 l2 x hbi
    unfold au.tw at hct
    rw [show x.tw l1 = [.int .i64 x.kind, .int .i64 x.class_, .sl l1 3 (x.fields.map (ae.tw l1)), .sl l1 1 (aO x.numbers)] from rfl] at hr1
    rw [show x.tw l2 = [.int .i64 x.kind, .int .i64 x.class_, .sl l2 3 (x.fields.map (ae.tw l2)), .sl l2 1 (aO x.numbers)] from rfl] at hr2
    repeat' (first | refine V_ ?_ | refine ac hG hst (hct) ?_ | refine ab hG hst (hct) ?_ | refine c_ (fun hc => ?_) (fun hc => ?_) | refine g_ (fun hg => ?_) (fun hg => ?_))
    exact ah (i + 1) (by omega) (by omega) (.of _ nw_ od_ pk_)
  · repeat' (first | refine W_ ?_ | refine c_ (fun hc => ?_) (fun hc => ?_) | refine g_ (fun hg => ?_) (fun hg => ?_))
    exact r1_
end
def aM.tw (lo : Nat) (x : aM) : List TV := [.sl lo 3 (x.classes.map (aa.tw lo)), .sl lo 4 (x.objects.map (au.tw lo)), .sl lo 1 (bE x.output), .int .i64 x.ticks, .int .i64 x.budget, .int .i64 x.made]
def aM.small (n : Nat) (x : aM) : Prop := (x.classes.length ≤ n ∧ ∀ y ∈ x.classes, aa.small n y) ∧ (x.objects.length ≤ n ∧ ∀ y ∈ x.objects, au.small n y) ∧ (x.output.length ≤ n ∧ ∀ y ∈ x.output, ByteArray.size y ≤ n)
def aM.tz : List TV := [.nils, .nils, .nils, .int .i64 0, .int .i64 0, .int .i64 0]
theorem aM.fin (B K : Nat) (objs : aI) (_x : aM) : im B objs K (_x.tw B) (_x.tw K) := .cons (cn (fun _x => aa.fin B K objs _x) _) (.cons (cn (fun _x => au.fin B K objs _x) _) (.cons (cn (fun _x => .cons (.flat rfl) .nil) _) (.cons (.flat rfl) (.cons (.flat rfl) (.cons (.flat rfl) (.nil))))))
theorem aM.len (lo : Nat) (l : List aM) : (l.map (aM.tw lo)).length = l.length := by simp
section
variable {G : World → Prop}
theorem wo (hst : az G) (lo : Nat) (x : aM) (left : Int) (h : 0 ≤ left ∧ left ≤ 1048576) (hb : x.small 9223372036854775807) : CtM Tryz.prog G 77 [.agg (x.tw lo), .int .i64 left] [] (fun y : Int => -1 ≤ y ∧ y ≤ left ∧ (0 ≤ y → x.small 1048576)) (fun _ => []) (fun y => .int .i64 y) := by
  refine aC Tryz.func77 rfl Tryz.ntmps77 rfl rfl rfl fun w0 R gs objsR hG hR => ?_
  obtain rfl := hR.inv0
  clear hR
  unfold aM.small at hb
  skip
  unfold aM.tw
  repeat' (first | refine W_ ?_ | refine aE ?_ | ((with_reducible apply aF); rfl; kernel_rfl; (repeat (first | exact aD.nil | ((with_reducible apply aD.cons); rfl))); exact hG; exact iA hst lo x.classes _ (by omega) hb.1; exact .nil _; intro y1 hy1; refine bD ?_) | ((with_reducible apply aF); rfl; kernel_rfl; (repeat (first | exact aD.nil | ((with_reducible apply aD.cons); rfl))); exact hG; exact sJ hst lo x.objects _ (by omega) hb.2.1; exact .nil _; intro y2 hy2; refine bD ?_) | ((with_reducible apply aF); rfl; kernel_rfl; (repeat (first | exact aD.nil | ((with_reducible apply aD.cons); rfl))); exact hG; exact li lo x.output _ (by omega) hb.2.2; exact .nil _; intro y3 hy3; refine bD ?_) | refine c_ (fun hc => ?_) (fun hc => ?_) | refine g_ (fun hg => ?_) (fun hg => ?_))
  all_goals first
    | exact av x_ rfl (-1) ⟨by omega, by omega, fun h => by omega⟩ rfl (.nil R) (.refl _) (.tmp _ _ rfl) rfl
    | (refine av x_ rfl _ ⟨?_, ?_, fun _ => ?_⟩ rfl (.nil R) (.refl _) (.tmp _ _ rfl) rfl
       · omega
       · omega
       · exact ⟨hy1.2.2 (by omega), hy2.2.2 (by omega), hy3.2.2 (by omega)⟩)
theorem wW (hst : az G) (lo : Nat) (x : aM) (hb : x.small 1048576) : Ct Tryz.prog G 86 [.agg (x.tw lo)] (fun K => .agg (x.tw K)) := by
  refine ao Tryz.func86 rfl Tryz.ntmps86 rfl rfl fun w0 _ hG => ?_
  unfold aM.small at hb
  have hsclasses := hb.1
  have hsobjects := hb.2.1
  have hsoutput := (hb.2.2).1
  repeat' (first | refine W_ ?_ | refine aE ?_ | (refine ai ?_; intro ss bb) | refine ad ?_ | refine ab hG hst (iB hst lo x.classes (hsclasses)) ?_ | refine ab hG hst (rD hst lo x.objects (hsobjects)) ?_ | refine ab hG hst (kU hst lo x.output (hsoutput)) ?_ | refine c_ (fun hc => ?_) (fun hc => ?_) | refine g_ (fun hg => ?_) (fun hg => ?_))
  refine aB x_ rfl (.cell _ _ _ _ _ rfl mm_ (by kernel_rfl) (by kernel_rfl) (by kernel_rfl)) (fun _ => ?_)
  exact eg (aM.fin _ _ _ x)
theorem wt (hst : az G) (l1 l2 : Nat) (x : aM) (hb : x.small 1048576) : Ct Tryz.prog G 57 [.agg (x.tw l1), .agg (x.tw l2)] (fun _ => .bool true) := by
  refine ao Tryz.func57 rfl Tryz.ntmps57 rfl rfl fun w0 _ hG => ?_
  unfold aM.small at hb
  have hsclasses := hb.1
  have hsobjects := hb.2.1
  have hsoutput := (hb.2.2).1
  unfold aM.tw
  repeat' (first | refine W_ ?_ | refine aE ?_ | refine ab hG hst (gZ hst l1 l2 x.classes hsclasses) ?_ | refine ab hG hst (rP hst l1 l2 x.objects hsobjects) ?_ | refine ab hG hst (gS l1 l2 x.output hsoutput) ?_ | refine c_ (fun hc => ?_) (fun hc => ?_) | refine g_ (fun hg => ?_) (fun hg => ?_))
  all_goals first
    | (exfalso; simp at hc; done)
    | (exact r1_)
end
def ap.tw (_lo : Nat) (x : ap) : List TV := [.int .i64 x.code, .int .i64 x.outer, .int .i64 x.home, .int .i64 x.self.kind, .int .i64 x.self.number, .str x.self.text]
def ap.small (n : Nat) (x : ap) : Prop := (ae.small n x.self)
def ap.tz : List TV := [.int .i64 0, .int .i64 0, .int .i64 0, .int .i64 0, .int .i64 0, .str ⟨#[]⟩]
theorem ap.fin (B K : Nat) (objs : aI) (x : ap) : im B objs K (x.tw B) (x.tw K) := .cons (.flat rfl) (.cons (.flat rfl) (.cons (.flat rfl) (.cons (.flat rfl) (.cons (.flat rfl) (.cons (.flat rfl) (.nil))))))
theorem ap.len (lo : Nat) (l : List ap) : (l.map (ap.tw lo)).length = l.length := by simp
section
variable {G : World → Prop}
theorem rm (hst : az G) (lo : Nat) (x : ap) (left : Int) (h : 0 ≤ left ∧ left ≤ 1048576) (hb : x.small 9223372036854775807) : CtM Tryz.prog G 159 [.agg (x.tw lo), .int .i64 left] [] (fun y : Int => -1 ≤ y ∧ y ≤ left ∧ (0 ≤ y → x.small 1048576)) (fun _ => []) (fun y => .int .i64 y) := by
  refine aC Tryz.func159 rfl Tryz.ntmps159 rfl rfl rfl fun w0 R gs objsR hG hR => ?_
  obtain rfl := hR.inv0
  clear hR
  unfold ap.small at hb
  skip
  unfold ap.tw
  repeat' (first | refine W_ ?_ | refine aE ?_ | ((with_reducible apply aF); rfl; kernel_rfl; (repeat (first | exact aD.nil | ((with_reducible apply aD.cons); rfl))); exact hG; exact iL hst lo x.self _ (by omega) hb; exact .nil _; intro y1 hy1; refine bD ?_) | refine c_ (fun hc => ?_) (fun hc => ?_) | refine g_ (fun hg => ?_) (fun hg => ?_))
  all_goals first
    | exact av x_ rfl (-1) ⟨by omega, by omega, fun h => by omega⟩ rfl (.nil R) (.refl _) (.tmp _ _ rfl) rfl
    | (refine av x_ rfl _ ⟨?_, ?_, fun _ => ?_⟩ rfl (.nil R) (.refl _) (.tmp _ _ rfl) rfl
       · omega
       · omega
       · exact hy1.2.2 (by omega))
theorem qe (hst : az G) (lo : Nat) (l : List ap) (left : Int) (h : 0 ≤ left ∧ left ≤ 1048576) (hb : l.length ≤ 9223372036854775807 ∧ ∀ y ∈ l, ap.small 9223372036854775807 y) : CtM Tryz.prog G 78 [.sl lo 6 (l.map (ap.tw lo)), .int .i64 left] [] (fun y : Int => -1 ≤ y ∧ y ≤ left ∧ (0 ≤ y → l.length ≤ 1048576 ∧ ∀ y ∈ l, ap.small 1048576 y)) (fun _ => []) (fun y => .int .i64 y) := by
  refine aC Tryz.func78 rfl Tryz.ntmps78 rfl rfl rfl fun w0 R gs objsR hG hR => ?_
  obtain rfl := hR.inv0
  clear hR
  have hlen := ap.len lo l
  have hl1 := hb.1
  by_cases hn : left - l.length < 0
  · repeat' (first | refine W_ ?_ | refine c_ (fun hc => ?_) (fun hc => ?_) | refine g_ (fun hg => ?_) (fun hg => ?_))
    exact av x_ rfl (-1) ⟨by omega, by omega, fun h => by omega⟩ rfl (.nil R) (.refl _) (.tmp _ _ rfl) rfl
  · repeat' (first | refine W_ ?_ | refine c_ (fun hc => ?_) (fun hc => ?_) | refine g_ (fun hg => ?_) (fun hg => ?_))
    apply aj (X := Nat × Int) [0, 1000000] (fun x => [(5, .int .i64 (x.1 : Int)), (1, .int .i64 x.2)]) (fun _ => R) (fun x => x.1 ≤ l.length ∧ 0 ≤ x.2 ∧ x.2 ≤ left ∧ ∀ y ∈ l.take x.1, ap.small 1048576 y) (fun x => l.length - x.1) (0, left - l.length) ⟨Nat.zero_le _, by dsimp only; omega, by dsimp only; omega, by simp⟩
    exact kp_; exact nw_
    · exact .refl _
    rintro ⟨i, lf⟩ ⟨hi, h0, h1, hs⟩
    dsimp only at hi h0 h1 hs ⊢
    by_cases hlt : i < l.length
    · have hrow : (l.map (ap.tw lo))[i]? = some (l[i].tw lo) := aH hlt
      have hbi := hb.2 _ (List.getElem_mem hlt)
      have hta := aT (p := ap.small 1048576) hlt hs
      generalize l[i] = x at hrow hbi hta
      have hct := rm hst lo x lf (by omega) hbi
      unfold ap.tw at hct
      rw [show x.tw lo = [.int .i64 x.code, .int .i64 x.outer, .int .i64 x.home, .int .i64 x.self.kind, .int .i64 x.self.number, .str x.self.text] from rfl] at hrow
      repeat' (first | refine W_ ?_ | ((with_reducible apply aF); rfl; kernel_rfl; (repeat (first | exact aD.nil | ((with_reducible apply aD.cons); rfl))); exact hG; exact hct; exact .nil _; intro y hy; refine bD ?_) | refine c_ (fun hc => ?_) (fun hc => ?_) | refine g_ (fun hg => ?_) (fun hg => ?_))
      all_goals first
        | exact av x_ rfl (-1) ⟨by omega, by omega, fun h => by omega⟩ rfl (.nil R) (.refl _) (.tmp _ _ rfl) rfl
        | exact ah (i + 1, y) ⟨by dsimp only; omega, by dsimp only; omega, by dsimp only; omega, hta (hy.2.2 (by omega))⟩ (by dsimp only; omega) (.of _ nw_ od_ pk_)
    · rw [List.take_of_length_le (by omega)] at hs
      repeat' (first | refine W_ ?_ | refine c_ (fun hc => ?_) (fun hc => ?_) | refine g_ (fun hg => ?_) (fun hg => ?_))
      exact av x_ rfl lf ⟨by omega, by omega, fun _ => ⟨by omega, hs⟩⟩ rfl (.nil R) (.refl _) (.tmp _ _ rfl) rfl
theorem kZ (hst : az G) (lo : Nat) (x : ap) (hb : x.small 1048576) : Ct Tryz.prog G 175 [.agg (x.tw lo)] (fun K => .agg (x.tw K)) := by
  refine ao Tryz.func175 rfl Tryz.ntmps175 rfl rfl fun w0 _ hG => ?_
  unfold ap.small at hb
  have hsself := hb
  repeat' (first | refine W_ ?_ | refine aE ?_ | (refine ai ?_; intro ss bb) | refine ad ?_ | refine ab hG hst (ek hst lo x.self (hsself)) ?_ | refine c_ (fun hc => ?_) (fun hc => ?_) | refine g_ (fun hg => ?_) (fun hg => ?_))
  refine aB x_ rfl (.cell _ _ _ _ _ rfl mm_ (by kernel_rfl) (by kernel_rfl) (by kernel_rfl)) (fun _ => ?_)
  exact eg (ap.fin _ _ _ x)
theorem qm (hst : az G) (lo : Nat) (l : List ap) (hb : l.length ≤ 1048576 ∧ ∀ y ∈ l, ap.small 1048576 y) : Ct Tryz.prog G 87 [.sl lo 6 (l.map (ap.tw lo))] (fun K => .sl K 6 (l.map (ap.tw K))) := by
  refine ao Tryz.func87 rfl Tryz.ntmps87 rfl rfl fun w0 _ hG => ?_
  have hlen := ap.len lo l
  have hl1 := hb.1
  have h0 := bC (ap.tw w0.heap.size) ap.tz l
  repeat' (first | refine W_ ?_ | (refine de ?_; intro ss bb) | refine c_ (fun hc => ?_) (fun hc => ?_) | refine g_ (fun hg => ?_) (fun hg => ?_))
  apply aj (X := Nat) [0, 3] (fun i => [(4, .int .i64 (i : Int))]) (fun i => [(ss, bb, .row 6 (cI (ap.tw w0.heap.size) ap.tz l i))]) (fun i => i ≤ l.length) (fun i => l.length - i) 0 (Nat.zero_le _)
  exact kp_; exact nw_
  · rw [← h0]; exact .refl _
  intro i hi
  try dsimp only
  by_cases hlt : i < l.length
  · obtain ⟨hrow, hset⟩ := bQ (ap.tw w0.heap.size) ap.tz hlt
    have hra : (l.map (ap.tw lo))[i]? = some (l[i].tw lo) := aH hlt
    have hbi := hb.2 _ (List.getElem_mem hlt)
    generalize l[i] = x at hset hra hbi
    have hct := kZ hst lo x hbi
    unfold ap.tw at hct
    rw [show x.tw lo = [.int .i64 x.code, .int .i64 x.outer, .int .i64 x.home, .int .i64 x.self.kind, .int .i64 x.self.number, .str x.self.text] from rfl] at hra
    replace hrow : (cI (ap.tw w0.heap.size) ap.tz l i)[i]? = some [.int .i64 0, .int .i64 0, .int .i64 0, .int .i64 0, .int .i64 0, .str ⟨#[]⟩] := hrow
    repeat' (first | refine W_ ?_ | refine ab hG hst (hct) ?_ | refine a6 ?_ | refine c_ (fun hc => ?_) (fun hc => ?_) | refine g_ (fun hg => ?_) (fun hg => ?_))
    refine ah (i + 1) (by omega) (by omega) (.of _ nw_ od_ (by rw [← hset]; exact .refl _))
  · obtain rfl : i = l.length := by omega
    rw [bB]
    repeat' (first | refine W_ ?_ | refine c_ (fun hc => ?_) (fun hc => ?_) | refine g_ (fun hg => ?_) (fun hg => ?_))
    refine aB x_ rfl (.tmp _ _ rfl) (fun _ => ?_)
    exact eK (fun x => ap.fin _ _ _ x) List.mem_cons_self
theorem qY (hst : az G) (l1 l2 : Nat) (x : ap) (hb : x.small 1048576) : Ct Tryz.prog G 143 [.agg (x.tw l1), .agg (x.tw l2)] (fun _ => .bool true) := by
  refine ao Tryz.func143 rfl Tryz.ntmps143 rfl rfl fun w0 _ hG => ?_
  unfold ap.small at hb
  have hsself := hb
  unfold ap.tw
  repeat' (first | refine W_ ?_ | refine aE ?_ | refine ab hG hst (iM hst l1 l2 x.self hsself) ?_ | refine c_ (fun hc => ?_) (fun hc => ?_) | refine g_ (fun hg => ?_) (fun hg => ?_))
  all_goals first
    | (exfalso; simp at hc; done)
    | (exact r1_)
theorem pE (hst : az G) (l1 l2 : Nat) (l : List ap) (hb : l.length ≤ 1048576 ∧ ∀ y ∈ l, ap.small 1048576 y) : Ct Tryz.prog G 58 [.sl l1 6 (l.map (ap.tw l1)), .sl l2 6 (l.map (ap.tw l2))] (fun _ => .bool true) := by
  refine ao Tryz.func58 rfl Tryz.ntmps58 rfl rfl fun w0 _ hG => ?_
  have hlen := ap.len l1 l
  have hlen2 := ap.len l2 l
  have hl1 := hb.1
  repeat' (first | refine W_ ?_ | refine c_ (fun hc => ?_) (fun hc => ?_) | refine g_ (fun hg => ?_) (fun hg => ?_))
  apply aj (X := Nat) [0, 1] (fun i => [(5, .int .i64 (i : Int))]) (fun _ => []) (fun i => i ≤ l.length) (fun i => l.length - i) 0 (Nat.zero_le _)
  exact kp_; exact nw_
  · exact .refl _
  intro i hi
  try dsimp only
  by_cases hlt : i < l.length
  · have hr1 : (l.map (ap.tw l1))[i]? = some (l[i].tw l1) := aH hlt
    have hr2 : (l.map (ap.tw l2))[i]? = some (l[i].tw l2) := aH hlt
    have hbi := hb.2 _ (List.getElem_mem hlt)
    generalize l[i] = x at hr1 hr2 hbi
    have hct := qY hst l1 l2 x hbi
    unfold ap.tw at hct
    rw [show x.tw l1 = [.int .i64 x.code, .int .i64 x.outer, .int .i64 x.home, .int .i64 x.self.kind, .int .i64 x.self.number, .str x.self.text] from rfl] at hr1
    rw [show x.tw l2 = [.int .i64 x.code, .int .i64 x.outer, .int .i64 x.home, .int .i64 x.self.kind, .int .i64 x.self.number, .str x.self.text] from rfl] at hr2
    repeat' (first | refine V_ ?_ | refine ac hG hst (hct) ?_ | refine ab hG hst (hct) ?_ | refine c_ (fun hc => ?_) (fun hc => ?_) | refine g_ (fun hg => ?_) (fun hg => ?_))
    exact ah (i + 1) (by omega) (by omega) (.of _ nw_ od_ pk_)
  · repeat' (first | refine W_ ?_ | refine c_ (fun hc => ?_) (fun hc => ?_) | refine g_ (fun hg => ?_) (fun hg => ?_))
    exact r1_
end
def am.tw (lo : Nat) (x : am) : List TV := [.int .i64 x.mark, .int .i64 x.code, .int .i64 x.pc, .int .i64 x.sender, .int .i64 x.outer, .int .i64 x.home, .int .i64 x.self.kind, .int .i64 x.self.number, .str x.self.text, .sl lo 3 (x.slots.map (ae.tw lo)), .sl lo 3 (x.stack.map (ae.tw lo)), .sl lo 3 (x.values.map (ae.tw lo)), .int .i64 x.other, .bool x.retry]
def am.small (n : Nat) (x : am) : Prop := (ae.small n x.self) ∧ (x.slots.length ≤ n ∧ ∀ y ∈ x.slots, ae.small n y) ∧ (x.stack.length ≤ n ∧ ∀ y ∈ x.stack, ae.small n y) ∧ (x.values.length ≤ n ∧ ∀ y ∈ x.values, ae.small n y)
def am.tz : List TV := [.int .i64 0, .int .i64 0, .int .i64 0, .int .i64 0, .int .i64 0, .int .i64 0, .int .i64 0, .int .i64 0, .str ⟨#[]⟩, .nils, .nils, .nils, .int .i64 0, .bool false]
theorem am.fin (B K : Nat) (objs : aI) (x : am) : im B objs K (x.tw B) (x.tw K) := .cons (.flat rfl) (.cons (.flat rfl) (.cons (.flat rfl) (.cons (.flat rfl) (.cons (.flat rfl) (.cons (.flat rfl) (.cons (.flat rfl) (.cons (.flat rfl) (.cons (.flat rfl) (.cons (cn (fun x => ae.fin B K objs x) _) (.cons (cn (fun x => ae.fin B K objs x) _) (.cons (cn (fun x => ae.fin B K objs x) _) (.cons (.flat rfl) (.cons (.flat rfl) (.nil))))))))))))))
theorem am.len (lo : Nat) (l : List am) : (l.map (am.tw lo)).length = l.length := by simp
section
variable {G : World → Prop}
theorem q6 (hst : az G) (lo : Nat) (x : am) (left : Int) (h : 0 ≤ left ∧ left ≤ 1048576) (hb : x.small 9223372036854775807) : CtM Tryz.prog G 160 [.agg (x.tw lo), .int .i64 left] [] (fun y : Int => -1 ≤ y ∧ y ≤ left ∧ (0 ≤ y → x.small 1048576)) (fun _ => []) (fun y => .int .i64 y) := by
  refine aC Tryz.func160 rfl Tryz.ntmps160 rfl rfl rfl fun w0 R gs objsR hG hR => ?_
  obtain rfl := hR.inv0
  clear hR
  unfold am.small at hb
  skip
  unfold am.tw
  repeat' (first | refine W_ ?_ | refine aE ?_ | ((with_reducible apply aF); rfl; kernel_rfl; (repeat (first | exact aD.nil | ((with_reducible apply aD.cons); rfl))); exact hG; exact iL hst lo x.self _ (by omega) hb.1; exact .nil _; intro y1 hy1; refine bD ?_) | ((with_reducible apply aF); rfl; kernel_rfl; (repeat (first | exact aD.nil | ((with_reducible apply aD.cons); rfl))); exact hG; exact gH hst lo x.slots _ (by omega) hb.2.1; exact .nil _; intro y2 hy2; refine bD ?_) | ((with_reducible apply aF); rfl; kernel_rfl; (repeat (first | exact aD.nil | ((with_reducible apply aD.cons); rfl))); exact hG; exact gH hst lo x.stack _ (by omega) hb.2.2.1; exact .nil _; intro y3 hy3; refine bD ?_) | ((with_reducible apply aF); rfl; kernel_rfl; (repeat (first | exact aD.nil | ((with_reducible apply aD.cons); rfl))); exact hG; exact gH hst lo x.values _ (by omega) hb.2.2.2; exact .nil _; intro y4 hy4; refine bD ?_) | refine c_ (fun hc => ?_) (fun hc => ?_) | refine g_ (fun hg => ?_) (fun hg => ?_))
  all_goals first
    | exact av x_ rfl (-1) ⟨by omega, by omega, fun h => by omega⟩ rfl (.nil R) (.refl _) (.tmp _ _ rfl) rfl
    | (refine av x_ rfl _ ⟨?_, ?_, fun _ => ?_⟩ rfl (.nil R) (.refl _) (.tmp _ _ rfl) rfl
       · omega
       · omega
       · exact ⟨hy1.2.2 (by omega), hy2.2.2 (by omega), hy3.2.2 (by omega), hy4.2.2 (by omega)⟩)
theorem pK (hst : az G) (lo : Nat) (l : List am) (left : Int) (h : 0 ≤ left ∧ left ≤ 1048576) (hb : l.length ≤ 9223372036854775807 ∧ ∀ y ∈ l, am.small 9223372036854775807 y) : CtM Tryz.prog G 79 [.sl lo 14 (l.map (am.tw lo)), .int .i64 left] [] (fun y : Int => -1 ≤ y ∧ y ≤ left ∧ (0 ≤ y → l.length ≤ 1048576 ∧ ∀ y ∈ l, am.small 1048576 y)) (fun _ => []) (fun y => .int .i64 y) := by
  refine aC Tryz.func79 rfl Tryz.ntmps79 rfl rfl rfl fun w0 R gs objsR hG hR => ?_
  obtain rfl := hR.inv0
  clear hR
  have hlen := am.len lo l
  have hl1 := hb.1
  by_cases hn : left - l.length < 0
  · repeat' (first | refine W_ ?_ | refine c_ (fun hc => ?_) (fun hc => ?_) | refine g_ (fun hg => ?_) (fun hg => ?_))
    exact av x_ rfl (-1) ⟨by omega, by omega, fun h => by omega⟩ rfl (.nil R) (.refl _) (.tmp _ _ rfl) rfl
  · repeat' (first | refine W_ ?_ | refine c_ (fun hc => ?_) (fun hc => ?_) | refine g_ (fun hg => ?_) (fun hg => ?_))
    apply aj (X := Nat × Int) [0, 1000000] (fun x => [(5, .int .i64 (x.1 : Int)), (1, .int .i64 x.2)]) (fun _ => R) (fun x => x.1 ≤ l.length ∧ 0 ≤ x.2 ∧ x.2 ≤ left ∧ ∀ y ∈ l.take x.1, am.small 1048576 y) (fun x => l.length - x.1) (0, left - l.length) ⟨Nat.zero_le _, by dsimp only; omega, by dsimp only; omega, by simp⟩
    exact kp_; exact nw_
    · exact .refl _
    rintro ⟨i, lf⟩ ⟨hi, h0, h1, hs⟩
    dsimp only at hi h0 h1 hs ⊢
    by_cases hlt : i < l.length
    · have hrow : (l.map (am.tw lo))[i]? = some (l[i].tw lo) := aH hlt
      have hbi := hb.2 _ (List.getElem_mem hlt)
      have hta := aT (p := am.small 1048576) hlt hs
      generalize l[i] = x at hrow hbi hta
      have hct := q6 hst lo x lf (by omega) hbi
      unfold am.tw at hct
      rw [show x.tw lo = [.int .i64 x.mark, .int .i64 x.code, .int .i64 x.pc, .int .i64 x.sender, .int .i64 x.outer, .int .i64 x.home, .int .i64 x.self.kind, .int .i64 x.self.number, .str x.self.text, .sl lo 3 (x.slots.map (ae.tw lo)), .sl lo 3 (x.stack.map (ae.tw lo)), .sl lo 3 (x.values.map (ae.tw lo)), .int .i64 x.other, .bool x.retry] from rfl] at hrow
      repeat' (first | refine W_ ?_ | ((with_reducible apply aF); rfl; kernel_rfl; (repeat (first | exact aD.nil | ((with_reducible apply aD.cons); rfl))); exact hG; exact hct; exact .nil _; intro y hy; refine bD ?_) | refine c_ (fun hc => ?_) (fun hc => ?_) | refine g_ (fun hg => ?_) (fun hg => ?_))
      all_goals first
        | exact av x_ rfl (-1) ⟨by omega, by omega, fun h => by omega⟩ rfl (.nil R) (.refl _) (.tmp _ _ rfl) rfl
        | exact ah (i + 1, y) ⟨by dsimp only; omega, by dsimp only; omega, by dsimp only; omega, hta (hy.2.2 (by omega))⟩ (by dsimp only; omega) (.of _ nw_ od_ pk_)
    · rw [List.take_of_length_le (by omega)] at hs
      repeat' (first | refine W_ ?_ | refine c_ (fun hc => ?_) (fun hc => ?_) | refine g_ (fun hg => ?_) (fun hg => ?_))
      exact av x_ rfl lf ⟨by omega, by omega, fun _ => ⟨by omega, hs⟩⟩ rfl (.nil R) (.refl _) (.tmp _ _ rfl) rfl
theorem ra (hst : az G) (lo : Nat) (x : am) (hb : x.small 1048576) : Ct Tryz.prog G 176 [.agg (x.tw lo)] (fun K => .agg (x.tw K)) := by
  refine ao Tryz.func176 rfl Tryz.ntmps176 rfl rfl fun w0 _ hG => ?_
  unfold am.small at hb
  have hsself := hb.1
  have hsslots := hb.2.1
  have hsstack := hb.2.2.1
  have hsvalues := hb.2.2.2
  repeat' (first | refine W_ ?_ | refine aE ?_ | (refine ai ?_; intro ss bb) | refine ad ?_ | refine ab hG hst (ek hst lo x.self (hsself)) ?_ | refine ab hG hst (gr hst lo x.slots (hsslots)) ?_ | refine ab hG hst (gr hst lo x.stack (hsstack)) ?_ | refine ab hG hst (gr hst lo x.values (hsvalues)) ?_ | refine c_ (fun hc => ?_) (fun hc => ?_) | refine g_ (fun hg => ?_) (fun hg => ?_))
  refine aB x_ rfl (.cell _ _ _ _ _ rfl mm_ (by kernel_rfl) (by kernel_rfl) (by kernel_rfl)) (fun _ => ?_)
  exact eg (am.fin _ _ _ x)
theorem p5 (hst : az G) (lo : Nat) (l : List am) (hb : l.length ≤ 1048576 ∧ ∀ y ∈ l, am.small 1048576 y) : Ct Tryz.prog G 88 [.sl lo 14 (l.map (am.tw lo))] (fun K => .sl K 14 (l.map (am.tw K))) := by
  refine ao Tryz.func88 rfl Tryz.ntmps88 rfl rfl fun w0 _ hG => ?_
  have hlen := am.len lo l
  have hl1 := hb.1
  have h0 := bC (am.tw w0.heap.size) am.tz l
  repeat' (first | refine W_ ?_ | (refine de ?_; intro ss bb) | refine c_ (fun hc => ?_) (fun hc => ?_) | refine g_ (fun hg => ?_) (fun hg => ?_))
  apply aj (X := Nat) [0, 3] (fun i => [(4, .int .i64 (i : Int))]) (fun i => [(ss, bb, .row 14 (cI (am.tw w0.heap.size) am.tz l i))]) (fun i => i ≤ l.length) (fun i => l.length - i) 0 (Nat.zero_le _)
  exact kp_; exact nw_
  · rw [← h0]; exact .refl _
  intro i hi
  try dsimp only
  by_cases hlt : i < l.length
  · obtain ⟨hrow, hset⟩ := bQ (am.tw w0.heap.size) am.tz hlt
    have hra : (l.map (am.tw lo))[i]? = some (l[i].tw lo) := aH hlt
    have hbi := hb.2 _ (List.getElem_mem hlt)
    generalize l[i] = x at hset hra hbi
    have hct := ra hst lo x hbi
    unfold am.tw at hct
    rw [show x.tw lo = [.int .i64 x.mark, .int .i64 x.code, .int .i64 x.pc, .int .i64 x.sender, .int .i64 x.outer, .int .i64 x.home, .int .i64 x.self.kind, .int .i64 x.self.number, .str x.self.text, .sl lo 3 (x.slots.map (ae.tw lo)), .sl lo 3 (x.stack.map (ae.tw lo)), .sl lo 3 (x.values.map (ae.tw lo)), .int .i64 x.other, .bool x.retry] from rfl] at hra
    replace hrow : (cI (am.tw w0.heap.size) am.tz l i)[i]? = some [.int .i64 0, .int .i64 0, .int .i64 0, .int .i64 0, .int .i64 0, .int .i64 0, .int .i64 0, .int .i64 0, .str ⟨#[]⟩, .nils, .nils, .nils, .int .i64 0, .bool false] := hrow
    repeat' (first | refine W_ ?_ | refine ab hG hst (hct) ?_ | refine a6 ?_ | refine c_ (fun hc => ?_) (fun hc => ?_) | refine g_ (fun hg => ?_) (fun hg => ?_))
    refine ah (i + 1) (by omega) (by omega) (.of _ nw_ od_ (by rw [← hset]; exact .refl _))
  · obtain rfl : i = l.length := by omega
    rw [bB]
    repeat' (first | refine W_ ?_ | refine c_ (fun hc => ?_) (fun hc => ?_) | refine g_ (fun hg => ?_) (fun hg => ?_))
    refine aB x_ rfl (.tmp _ _ rfl) (fun _ => ?_)
    exact eK (fun x => am.fin _ _ _ x) List.mem_cons_self
theorem rx (hst : az G) (l1 l2 : Nat) (x : am) (hb : x.small 1048576) : Ct Tryz.prog G 144 [.agg (x.tw l1), .agg (x.tw l2)] (fun _ => .bool true) := by
  refine ao Tryz.func144 rfl Tryz.ntmps144 rfl rfl fun w0 _ hG => ?_
  unfold am.small at hb
  have hsself := hb.1
  have hsslots := hb.2.1
  have hsstack := hb.2.2.1
  have hsvalues := hb.2.2.2
  unfold am.tw
  repeat' (first | refine W_ ?_ | refine aE ?_ | refine ab hG hst (iM hst l1 l2 x.self hsself) ?_ | refine ab hG hst (gF hst l1 l2 x.slots hsslots) ?_ | refine ab hG hst (gF hst l1 l2 x.stack hsstack) ?_ | refine ab hG hst (gF hst l1 l2 x.values hsvalues) ?_ | refine c_ (fun hc => ?_) (fun hc => ?_) | refine g_ (fun hg => ?_) (fun hg => ?_))
  all_goals first
    | (exfalso; simp at hc; done)
    | (exact r1_)
theorem pM (hst : az G) (l1 l2 : Nat) (l : List am) (hb : l.length ≤ 1048576 ∧ ∀ y ∈ l, am.small 1048576 y) : Ct Tryz.prog G 59 [.sl l1 14 (l.map (am.tw l1)), .sl l2 14 (l.map (am.tw l2))] (fun _ => .bool true) := by
  refine ao Tryz.func59 rfl Tryz.ntmps59 rfl rfl fun w0 _ hG => ?_
  have hlen := am.len l1 l
  have hlen2 := am.len l2 l
  have hl1 := hb.1
  repeat' (first | refine W_ ?_ | refine c_ (fun hc => ?_) (fun hc => ?_) | refine g_ (fun hg => ?_) (fun hg => ?_))
  apply aj (X := Nat) [0, 1] (fun i => [(5, .int .i64 (i : Int))]) (fun _ => []) (fun i => i ≤ l.length) (fun i => l.length - i) 0 (Nat.zero_le _)
  exact kp_; exact nw_
  · exact .refl _
  intro i hi
  try dsimp only
  by_cases hlt : i < l.length
  · have hr1 : (l.map (am.tw l1))[i]? = some (l[i].tw l1) := aH hlt
    have hr2 : (l.map (am.tw l2))[i]? = some (l[i].tw l2) := aH hlt
    have hbi := hb.2 _ (List.getElem_mem hlt)
    generalize l[i] = x at hr1 hr2 hbi
    have hct := rx hst l1 l2 x hbi
    unfold am.tw at hct
    rw [show x.tw l1 = [.int .i64 x.mark, .int .i64 x.code, .int .i64 x.pc, .int .i64 x.sender, .int .i64 x.outer, .int .i64 x.home, .int .i64 x.self.kind, .int .i64 x.self.number, .str x.self.text, .sl l1 3 (x.slots.map (ae.tw l1)), .sl l1 3 (x.stack.map (ae.tw l1)), .sl l1 3 (x.values.map (ae.tw l1)), .int .i64 x.other, .bool x.retry] from rfl] at hr1
    rw [show x.tw l2 = [.int .i64 x.mark, .int .i64 x.code, .int .i64 x.pc, .int .i64 x.sender, .int .i64 x.outer, .int .i64 x.home, .int .i64 x.self.kind, .int .i64 x.self.number, .str x.self.text, .sl l2 3 (x.slots.map (ae.tw l2)), .sl l2 3 (x.stack.map (ae.tw l2)), .sl l2 3 (x.values.map (ae.tw l2)), .int .i64 x.other, .bool x.retry] from rfl] at hr2
    repeat' (first | refine V_ ?_ | refine ac hG hst (hct) ?_ | refine ab hG hst (hct) ?_ | refine c_ (fun hc => ?_) (fun hc => ?_) | refine g_ (fun hg => ?_) (fun hg => ?_))
    exact ah (i + 1) (by omega) (by omega) (.of _ nw_ od_ pk_)
  · repeat' (first | refine W_ ?_ | refine c_ (fun hc => ?_) (fun hc => ?_) | refine g_ (fun hg => ?_) (fun hg => ?_))
    exact r1_
end
def ar.tw (_lo : Nat) (x : ar) : List TV := [.int .i64 x.at_, .bool x.main]
def ar.small (_n : Nat) (_x : ar) : Prop := True
def ar.tz : List TV := [.int .i64 0, .bool false]
theorem ar.fin (B K : Nat) (objs : aI) (x : ar) : im B objs K (x.tw B) (x.tw K) := .cons (.flat rfl) (.cons (.flat rfl) (.nil))
theorem ar.len (lo : Nat) (l : List ar) : (l.map (ar.tw lo)).length = l.length := by simp
section
variable {G : World → Prop}
theorem p6 (_ : az G) (lo : Nat) (l : List ar) (left : Int) (h : 0 ≤ left ∧ left ≤ 1048576) (hb : l.length ≤ 9223372036854775807 ∧ ∀ y ∈ l, ar.small 9223372036854775807 y) : CtM Tryz.prog G 80 [.sl lo 2 (l.map (ar.tw lo)), .int .i64 left] [] (fun y : Int => -1 ≤ y ∧ y ≤ left ∧ (0 ≤ y → l.length ≤ 1048576 ∧ ∀ y ∈ l, ar.small 1048576 y)) (fun _ => []) (fun y => .int .i64 y) := by
  refine aC Tryz.func80 rfl Tryz.ntmps80 rfl rfl rfl fun w0 R gs objsR hG hR => ?_
  obtain rfl := hR.inv0
  clear hR
  have hlen := ar.len lo l
  have hl1 := hb.1
  by_cases hn : left - l.length < 0
  · repeat' (first | refine W_ ?_ | refine c_ (fun hc => ?_) (fun hc => ?_) | refine g_ (fun hg => ?_) (fun hg => ?_))
    exact av x_ rfl (-1) ⟨by omega, by omega, fun h => by omega⟩ rfl (.nil R) (.refl _) (.tmp _ _ rfl) rfl
  · repeat' (first | refine W_ ?_ | refine c_ (fun hc => ?_) (fun hc => ?_) | refine g_ (fun hg => ?_) (fun hg => ?_))
    exact av x_ rfl (left - l.length) ⟨by omega, by omega, fun _ => ⟨by omega, fun _ _ => trivial⟩⟩ rfl (.nil R) (.refl _) (.tmp _ _ rfl) rfl
theorem kN (_hst : az G) (lo : Nat) (x : ar) (_hb : x.small 1048576) : Ct Tryz.prog G 177 [.agg (x.tw lo)] (fun K => .agg (x.tw K)) := by
  refine ao Tryz.func177 rfl Tryz.ntmps177 rfl rfl fun w0 _ hG => ?_
  unfold ar.small at _hb
  skip
  repeat' (first | refine W_ ?_ | refine aE ?_ | (refine ai ?_; intro ss bb) | refine ad ?_ | refine c_ (fun hc => ?_) (fun hc => ?_) | refine g_ (fun hg => ?_) (fun hg => ?_))
  refine aB x_ rfl (.cell _ _ _ _ _ rfl mm_ (by kernel_rfl) (by kernel_rfl) (by kernel_rfl)) (fun _ => ?_)
  exact eg (ar.fin _ _ _ x)
theorem pZ (hst : az G) (lo : Nat) (l : List ar) (hb : l.length ≤ 1048576 ∧ ∀ y ∈ l, ar.small 1048576 y) : Ct Tryz.prog G 89 [.sl lo 2 (l.map (ar.tw lo))] (fun K => .sl K 2 (l.map (ar.tw K))) := by
  refine ao Tryz.func89 rfl Tryz.ntmps89 rfl rfl fun w0 _ hG => ?_
  have hlen := ar.len lo l
  have hl1 := hb.1
  have h0 := bC (ar.tw w0.heap.size) ar.tz l
  repeat' (first | refine W_ ?_ | (refine de ?_; intro ss bb) | refine c_ (fun hc => ?_) (fun hc => ?_) | refine g_ (fun hg => ?_) (fun hg => ?_))
  apply aj (X := Nat) [0, 3] (fun i => [(4, .int .i64 (i : Int))]) (fun i => [(ss, bb, .row 2 (cI (ar.tw w0.heap.size) ar.tz l i))]) (fun i => i ≤ l.length) (fun i => l.length - i) 0 (Nat.zero_le _)
  exact kp_; exact nw_
  · rw [← h0]; exact .refl _
  intro i hi
  try dsimp only
  by_cases hlt : i < l.length
  · obtain ⟨hrow, hset⟩ := bQ (ar.tw w0.heap.size) ar.tz hlt
    have hra : (l.map (ar.tw lo))[i]? = some (l[i].tw lo) := aH hlt
    have hbi := hb.2 _ (List.getElem_mem hlt)
    generalize l[i] = x at hset hra hbi
    have hct := kN hst lo x hbi
    unfold ar.tw at hct
    rw [show x.tw lo = [.int .i64 x.at_, .bool x.main] from rfl] at hra
    replace hrow : (cI (ar.tw w0.heap.size) ar.tz l i)[i]? = some [.int .i64 0, .bool false] := hrow
    repeat' (first | refine W_ ?_ | refine ab hG hst (hct) ?_ | refine a6 ?_ | refine c_ (fun hc => ?_) (fun hc => ?_) | refine g_ (fun hg => ?_) (fun hg => ?_))
    refine ah (i + 1) (by omega) (by omega) (.of _ nw_ od_ (by rw [← hset]; exact .refl _))
  · obtain rfl : i = l.length := by omega
    rw [bB]
    repeat' (first | refine W_ ?_ | refine c_ (fun hc => ?_) (fun hc => ?_) | refine g_ (fun hg => ?_) (fun hg => ?_))
    refine aB x_ rfl (.tmp _ _ rfl) (fun _ => ?_)
    exact eK (fun x => ar.fin _ _ _ x) List.mem_cons_self
theorem se (_hst : az G) (l1 l2 : Nat) (x : ar) (_hb : x.small 1048576) : Ct Tryz.prog G 145 [.agg (x.tw l1), .agg (x.tw l2)] (fun _ => .bool true) := by
  refine ao Tryz.func145 rfl Tryz.ntmps145 rfl rfl fun w0 _ hG => ?_
  unfold ar.small at _hb
  skip
  unfold ar.tw
  repeat' (first | refine W_ ?_ | refine aE ?_ | refine c_ (fun hc => ?_) (fun hc => ?_) | refine g_ (fun hg => ?_) (fun hg => ?_))
  all_goals first
    | (exfalso; simp at hc; done)
    | (exact r1_)
theorem pv (hst : az G) (l1 l2 : Nat) (l : List ar) (hb : l.length ≤ 1048576 ∧ ∀ y ∈ l, ar.small 1048576 y) : Ct Tryz.prog G 60 [.sl l1 2 (l.map (ar.tw l1)), .sl l2 2 (l.map (ar.tw l2))] (fun _ => .bool true) := by
  refine ao Tryz.func60 rfl Tryz.ntmps60 rfl rfl fun w0 _ hG => ?_
  have hlen := ar.len l1 l
  have hlen2 := ar.len l2 l
  have hl1 := hb.1
  repeat' (first | refine W_ ?_ | refine c_ (fun hc => ?_) (fun hc => ?_) | refine g_ (fun hg => ?_) (fun hg => ?_))
  apply aj (X := Nat) [0, 1] (fun i => [(5, .int .i64 (i : Int))]) (fun _ => []) (fun i => i ≤ l.length) (fun i => l.length - i) 0 (Nat.zero_le _)
  exact kp_; exact nw_
  · exact .refl _
  intro i hi
  try dsimp only
  by_cases hlt : i < l.length
  · have hr1 : (l.map (ar.tw l1))[i]? = some (l[i].tw l1) := aH hlt
    have hr2 : (l.map (ar.tw l2))[i]? = some (l[i].tw l2) := aH hlt
    have hbi := hb.2 _ (List.getElem_mem hlt)
    generalize l[i] = x at hr1 hr2 hbi
    have hct := se hst l1 l2 x hbi
    unfold ar.tw at hct
    rw [show x.tw l1 = [.int .i64 x.at_, .bool x.main] from rfl] at hr1
    rw [show x.tw l2 = [.int .i64 x.at_, .bool x.main] from rfl] at hr2
    repeat' (first | refine V_ ?_ | refine ac hG hst (hct) ?_ | refine ab hG hst (hct) ?_ | refine c_ (fun hc => ?_) (fun hc => ?_) | refine g_ (fun hg => ?_) (fun hg => ?_))
    exact ah (i + 1) (by omega) (by omega) (.of _ nw_ od_ pk_)
  · repeat' (first | refine W_ ?_ | refine c_ (fun hc => ?_) (fun hc => ?_) | refine g_ (fun hg => ?_) (fun hg => ?_))
    exact r1_
end
def ak.tw (lo : Nat) (x : ak) : List TV := [.sl lo 3 (x.base.classes.map (aa.tw lo)), .sl lo 4 (x.base.codes.map (ay.tw lo)), .sl lo 4 (x.base.entries.map (aw.tw lo)), .int .i64 x.base.main, .sl lo 3 (x.store.classes.map (aa.tw lo)), .sl lo 4 (x.store.objects.map (au.tw lo)), .sl lo 1 (bE x.store.output), .int .i64 x.store.ticks, .int .i64 x.store.budget, .int .i64 x.store.made, .sl lo 6 (x.blocks.map (ap.tw lo)), .sl lo 14 (x.contexts.map (am.tw lo)), .sl lo 2 (x.processes.map (ar.tw lo)), .sl lo 1 (aO x.ready), .int .i64 x.now, .int .i64 x.status, .int .i64 x.value.kind, .int .i64 x.value.number, .str x.value.text, .str x.fault]
def ak.small (n : Nat) (x : ak) : Prop := (aA.small n x.base) ∧ (aM.small n x.store) ∧ (x.blocks.length ≤ n ∧ ∀ y ∈ x.blocks, ap.small n y) ∧ (x.contexts.length ≤ n ∧ ∀ y ∈ x.contexts, am.small n y) ∧ (x.processes.length ≤ n ∧ ∀ y ∈ x.processes, ar.small n y) ∧ (x.ready.length ≤ n) ∧ (ae.small n x.value) ∧ (x.fault.size ≤ n)
def ak.tz : List TV := [.nils, .nils, .nils, .int .i64 0, .nils, .nils, .nils, .int .i64 0, .int .i64 0, .int .i64 0, .nils, .nils, .nils, .nils, .int .i64 0, .int .i64 0, .int .i64 0, .int .i64 0, .str ⟨#[]⟩, .str ⟨#[]⟩]
theorem ak.fin (B K : Nat) (objs : aI) (_x : ak) : im B objs K (_x.tw B) (_x.tw K) := .cons (cn (fun _x => aa.fin B K objs _x) _) (.cons (cn (fun _x => ay.fin B K objs _x) _) (.cons (cn (fun _x => aw.fin B K objs _x) _) (.cons (.flat rfl) (.cons (cn (fun _x => aa.fin B K objs _x) _) (.cons (cn (fun _x => au.fin B K objs _x) _) (.cons (cn (fun _x => .cons (.flat rfl) .nil) _) (.cons (.flat rfl) (.cons (.flat rfl) (.cons (.flat rfl) (.cons (cn (fun _x => ap.fin B K objs _x) _) (.cons (cn (fun _x => am.fin B K objs _x) _) (.cons (cn (fun _x => ar.fin B K objs _x) _) (.cons (cn (fun _x => .cons (.flat rfl) .nil) _) (.cons (.flat rfl) (.cons (.flat rfl) (.cons (.flat rfl) (.cons (.flat rfl) (.cons (.flat rfl) (.cons (.flat rfl) (.nil))))))))))))))))))))
theorem ak.len (lo : Nat) (l : List ak) : (l.map (ak.tw lo)).length = l.length := by simp
section
variable {G : World → Prop}
theorem oR (hst : az G) (lo : Nat) (x : ak) (left : Int) (h : 0 ≤ left ∧ left ≤ 1048576) (hb : x.small 9223372036854775807) : CtM Tryz.prog G 21 [.agg (x.tw lo), .int .i64 left] [] (fun y : Int => -1 ≤ y ∧ y ≤ left ∧ (0 ≤ y → x.small 1048576)) (fun _ => []) (fun y => .int .i64 y) := by
  refine aC Tryz.func21 rfl Tryz.ntmps21 rfl rfl rfl fun w0 R gs objsR hG hR => ?_
  obtain rfl := hR.inv0
  clear hR
  unfold ak.small at hb
  have hb8 : x.fault.size ≤ 9223372036854775807 := hb.2.2.2.2.2.2.2
  unfold ak.tw
  repeat' (first | refine W_ ?_ | refine aE ?_ | ((with_reducible apply aF); rfl; kernel_rfl; (repeat (first | exact aD.nil | ((with_reducible apply aD.cons); rfl))); exact hG; exact qb hst lo x.base _ (by omega) hb.1; exact .nil _; intro y1 hy1; refine bD ?_) | ((with_reducible apply aF); rfl; kernel_rfl; (repeat (first | exact aD.nil | ((with_reducible apply aD.cons); rfl))); exact hG; exact wo hst lo x.store _ (by omega) hb.2.1; exact .nil _; intro y2 hy2; refine bD ?_) | ((with_reducible apply aF); rfl; kernel_rfl; (repeat (first | exact aD.nil | ((with_reducible apply aD.cons); rfl))); exact hG; exact qe hst lo x.blocks _ (by omega) hb.2.2.1; exact .nil _; intro y3 hy3; refine bD ?_) | ((with_reducible apply aF); rfl; kernel_rfl; (repeat (first | exact aD.nil | ((with_reducible apply aD.cons); rfl))); exact hG; exact pK hst lo x.contexts _ (by omega) hb.2.2.2.1; exact .nil _; intro y4 hy4; refine bD ?_) | ((with_reducible apply aF); rfl; kernel_rfl; (repeat (first | exact aD.nil | ((with_reducible apply aD.cons); rfl))); exact hG; exact p6 hst lo x.processes _ (by omega) hb.2.2.2.2.1; exact .nil _; intro y5 hy5; refine bD ?_) | ((with_reducible apply aF); rfl; kernel_rfl; (repeat (first | exact aD.nil | ((with_reducible apply aD.cons); rfl))); exact hG; exact q9 hst lo x.ready _ (by omega) hb.2.2.2.2.2.1; exact .nil _; intro y6 hy6; refine bD ?_) | ((with_reducible apply aF); rfl; kernel_rfl; (repeat (first | exact aD.nil | ((with_reducible apply aD.cons); rfl))); exact hG; exact iL hst lo x.value _ (by omega) hb.2.2.2.2.2.2.1; exact .nil _; intro y7 hy7; refine bD ?_) | refine c_ (fun hc => ?_) (fun hc => ?_) | refine g_ (fun hg => ?_) (fun hg => ?_))
  all_goals first
    | exact av x_ rfl (-1) ⟨by omega, by omega, fun h => by omega⟩ rfl (.nil R) (.refl _) (.tmp _ _ rfl) rfl
    | (refine av x_ rfl _ ⟨?_, ?_, fun _ => ?_⟩ rfl (.nil R) (.refl _) (.tmp _ _ rfl) rfl
       · omega
       · omega
       · exact ⟨hy1.2.2 (by omega), hy2.2.2 (by omega), hy3.2.2 (by omega), hy4.2.2 (by omega), hy5.2.2 (by omega), hy6.2.2 (by omega), hy7.2.2 (by omega), by omega⟩)
theorem oG (hst : az G) (lo : Nat) (x : ak) (hb : x.small 1048576) : Ct Tryz.prog G 23 [.agg (x.tw lo)] (fun K => .agg (x.tw K)) := by
  refine ao Tryz.func23 rfl Tryz.ntmps23 rfl rfl fun w0 _ hG => ?_
  unfold ak.small at hb
  have hsbase := hb.1
  have hsstore := hb.2.1
  have hsblocks := hb.2.2.1
  have hscontexts := hb.2.2.2.1
  have hsprocesses := hb.2.2.2.2.1
  have hsready := hb.2.2.2.2.2.1
  have hsvalue := hb.2.2.2.2.2.2.1
  repeat' (first | refine W_ ?_ | refine aE ?_ | (refine ai ?_; intro ss bb) | refine ad ?_ | refine ab hG hst (qE hst lo x.base (hsbase)) ?_ | refine ab hG hst (wW hst lo x.store (hsstore)) ?_ | refine ab hG hst (qm hst lo x.blocks (hsblocks)) ?_ | refine ab hG hst (p5 hst lo x.contexts (hscontexts)) ?_ | refine ab hG hst (pZ hst lo x.processes (hsprocesses)) ?_ | refine ab hG hst (q8 hst lo x.ready (hsready)) ?_ | refine ab hG hst (ek hst lo x.value (hsvalue)) ?_ | refine c_ (fun hc => ?_) (fun hc => ?_) | refine g_ (fun hg => ?_) (fun hg => ?_))
  refine aB x_ rfl (.cell _ _ _ _ _ rfl mm_ (by kernel_rfl) (by kernel_rfl) (by kernel_rfl)) (fun _ => ?_)
  exact eg (ak.fin _ _ _ x)
theorem n9 (hst : az G) (l1 l2 : Nat) (x : ak) (hb : x.small 1048576) : Ct Tryz.prog G 16 [.agg (x.tw l1), .agg (x.tw l2)] (fun _ => .bool true) := by
  refine ao Tryz.func16 rfl Tryz.ntmps16 rfl rfl fun w0 _ hG => ?_
  unfold ak.small at hb
  have hsbase := hb.1
  have hsstore := hb.2.1
  have hsblocks := hb.2.2.1
  have hscontexts := hb.2.2.2.1
  have hsprocesses := hb.2.2.2.2.1
  have hsready := hb.2.2.2.2.2.1
  have hsvalue := hb.2.2.2.2.2.2.1
  have hnefault : ¬ x.fault ≠ x.fault := fun h => h rfl
  unfold ak.tw
  repeat' (first | refine W_ ?_ | refine aE ?_ | refine ab hG hst (pu hst l1 l2 x.base hsbase) ?_ | refine ab hG hst (wt hst l1 l2 x.store hsstore) ?_ | refine ab hG hst (pE hst l1 l2 x.blocks hsblocks) ?_ | refine ab hG hst (pM hst l1 l2 x.contexts hscontexts) ?_ | refine ab hG hst (pv hst l1 l2 x.processes hsprocesses) ?_ | refine ab hG hst (mf hst l1 l2 x.ready hsready) ?_ | refine ab hG hst (iM hst l1 l2 x.value hsvalue) ?_ | refine c_ (fun hc => ?_) (fun hc => ?_) | refine g_ (fun hg => ?_) (fun hg => ?_))
  all_goals first
    | (exfalso; simp at hc; done)
    | (exact r1_)
end
end Go.Proofs.YtiihihgjiklnoaaGreatDoor
