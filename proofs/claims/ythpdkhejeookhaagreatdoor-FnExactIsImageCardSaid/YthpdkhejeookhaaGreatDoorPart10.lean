/- Part 10 of the proof: the texts LwU, ImA. -/
import Derived.Test.YthpdkhejeookhaaGreatDoorPart7
import Derived.Test.YthpdkhejeookhaaGreatDoorPart6
import Derived.Test.YthpdkhejeookhaaGreatDoorPart9
/- The laws' own helpers sz, to, eq for the types of an image, walked (frozen copies). Written by gen_lw.py. -/
namespace Go.Proofs.YthpdkhejeookhaaGreatDoor
set_option maxRecDepth 20000
open Go Go.RowKit
section
variable {G : World → Prop}
theorem nF (_ : aY G) (lo : Nat) (l : List Int) (left : Int) (h : 0 ≤ left ∧ left ≤ 1048576) (hb : l.length ≤ 9223372036854775807) : CtM Tryz.prog G 86 [.sl lo 1 (bv l), .int .i64 left] [] (fun y : Int => -1 ≤ y ∧ y ≤ left ∧ (0 ≤ y → l.length ≤ 1048576)) (fun _ => []) (fun y => .int .i64 y) := by
  refine bB Tryz.func86 rfl Tryz.ntmps86 rfl rfl rfl fun w0 R gs objsR hG hR => ?_
  obtain rfl := hR.inv0
  clear hR
  have hlen := aS l
  by_cases hn : left - l.length < 0
  · repeat' (first | ((with_reducible apply o_y); exact y_; rfl) | with_reducible refine ab rfl ?_ | (with_reducible first | apply ag | apply aa | apply ah | apply ac | apply au | apply ad) | (refine ae rfl rr_ dd_ ?_))
    exact a8 x_ rfl (-1) ⟨by omega, by omega, fun h => by omega⟩ rfl (.nil R) (.refl _) (.tmp _ _ rfl) rfl
  · repeat' (first | ((with_reducible apply o_y); exact y_; rfl) | with_reducible refine ab rfl ?_ | (with_reducible first | apply ag | apply aa | apply ah | apply ac | apply ap | apply au) | (refine aj rfl rr_ dd_ ?_))
    exact a8 x_ rfl (left - l.length) ⟨by omega, by omega, fun _ => by omega⟩ rfl (.nil R) (.refl _) (.tmp _ _ rfl) rfl
theorem ol (_ : aY G) (lo : Nat) (l : List Int) (hn : l.length ≤ 1048576) : Ct Tryz.prog G 93 [.sl lo 1 (bv l)] (fun K => .sl K 1 (bv l)) := by
  refine aJ Tryz.func93 rfl Tryz.ntmps93 rfl rfl fun w0 _ hG => ?_
  have hlen := aS l
  have h0 := cx (fun s : Int => [TV.int .i64 s]) [.int .i64 0] l
  repeat' (first | ((with_reducible apply o_y); exact y_; rfl) | (refine eQ ?_; intro ss bb) | with_reducible refine ab rfl ?_ | (with_reducible first | apply ag | apply aa | apply ah | apply ac | apply ai))
  apply aK (X := Nat) [0, 3] (fun i => [(4, .int .i64 (i : Int))]) (fun i => [(ss, bb, .row 1 (dw (fun s : Int => [TV.int .i64 s]) [.int .i64 0] l i))]) (fun i => i ≤ l.length) (fun i => l.length - i) 0 (Nat.zero_le _)
  exact kp_; (repeat (first | exact bj.envNil | refine bj.envCons we_ ?_))
  · rw [← h0]; exact .refl _
  intro i hi
  try dsimp only
  by_cases hlt : i < l.length
  · obtain ⟨hrow, hset⟩ := cN (fun s : Int => [TV.int .i64 s]) [.int .i64 0] hlt
    have hra := f8 hlt
    generalize l[i] = x at hset hra
    try dsimp only at hset
    repeat' (first | ((with_reducible apply o_y); exact y_; rfl) | refine cE ?_ | with_reducible refine ab rfl ?_ | (with_reducible first | apply ag | apply aa | apply ah | apply ac | apply ai | apply ap | apply aB) | (refine ae rfl rr_ dd_ ?_))
    refine aG (i + 1) (by omega) (by omega) (.of _ nw_ od_ (by rw [← hset]; exact .refl _))
  · obtain rfl : i = l.length := by omega
    rw [cA]
    repeat' (first | ((with_reducible apply o_y); exact y_; rfl) | with_reducible refine ab rfl ?_ | (with_reducible first | apply ag | apply aa | apply ah | apply ac | apply aH | apply au | apply ar | apply aq) | (refine aj rfl rr_ dd_ ?_))
    refine ao x_ rfl (.tmp _ _ rfl) (fun _ => ?_)
    exact eZ (fun x => .cons (.flat rfl) .nil) List.mem_cons_self
theorem nO (_ : aY G) (l1 l2 : Nat) (l : List Int) (hn : l.length ≤ 1048576) : Ct Tryz.prog G 70 [.sl l1 1 (bv l), .sl l2 1 (bv l)] (fun _ => .bool true) := by
  refine aJ Tryz.func70 rfl Tryz.ntmps70 rfl rfl fun w0 _ hG => ?_
  have hlen := aS l
  repeat' (first | ((with_reducible apply o_y); exact y_; rfl) | with_reducible refine ab rfl ?_ | (with_reducible first | apply ag | apply aa | apply ah | apply ac | apply ai | apply ap) | (refine aj rfl rr_ dd_ ?_))
  apply aK (X := Nat) [0, 1] (fun i => [(5, .int .i64 (i : Int))]) (fun _ => []) (fun i => i ≤ l.length) (fun i => l.length - i) 0 (Nat.zero_le _)
  exact kp_; (repeat (first | exact bj.envNil | refine bj.envCons we_ ?_))
  · exact .refl _
  intro i hi
  try dsimp only
  by_cases hlt : i < l.length
  · have hrow := f8 hlt
    generalize l[i] = x at hrow
    repeat' (first | ((with_reducible apply o_y); exact y_; rfl) | with_reducible refine aF (by kernel_rfl) (by kernel_rfl) ?_ | with_reducible refine aN ?_ | with_reducible refine aE rfl ?_ | ((with_reducible apply d_y); exact y_; rfl) | with_reducible refine ab rfl ?_ | (with_reducible first | apply ag | apply aa | apply ah | apply ac | apply ai | apply ap | apply aB) | (refine ae rfl rr_ dd_ ?_) | (refine aj rfl rr_ dd_ ?_))
    all_goals first
      | exact aG (i + 1) (by omega) (by omega) (.of _ nw_ od_ pk_)
      | (exfalso; simp at hc; done)
  · repeat' (first | ((with_reducible apply o_y); exact y_; rfl) | with_reducible refine ab rfl ?_ | (with_reducible first | apply ag | apply aa | apply ah | apply ac | apply aH | apply au | apply ar | apply aq) | (refine aj rfl rr_ dd_ ?_))
    refine ao x_ rfl (.tmp _ _ rfl) (fun _ => ?_)
    exact Fin.flat rfl
end
def aC.tw (_lo : Nat) (x : aC) : List TV := [.int .i64 x.kind, .int .i64 x.number, .str x.text]
def aC.small (n : Nat) (x : aC) : Prop := (x.text.size ≤ n)
def aC.tz : List TV := [.int .i64 0, .int .i64 0, .str ⟨#[]⟩]
theorem aC.fin (B K : Nat) (objs : bp) (x : aC) : fR B objs K (x.tw B) (x.tw K) := .cons (.flat rfl) (.cons (.flat rfl) (.cons (.flat rfl) (.nil)))
theorem aC.len (lo : Nat) (l : List aC) : (l.map (aC.tw lo)).length = l.length := by simp
section
variable {G : World → Prop}
theorem f6 (_hst : aY G) (lo : Nat) (x : aC) (left : Int) (h : 0 ≤ left ∧ left ≤ 1048576) (hb : x.small 9223372036854775807) : CtM Tryz.prog G 87 [.agg (x.tw lo), .int .i64 left] [] (fun y : Int => -1 ≤ y ∧ y ≤ left ∧ (0 ≤ y → x.small 1048576)) (fun _ => []) (fun y => .int .i64 y) := by
  refine bB Tryz.func87 rfl Tryz.ntmps87 rfl rfl rfl fun w0 R gs objsR hG hR => ?_
  obtain rfl := hR.inv0
  clear hR
  unfold aC.small at hb
  have hb1 : x.text.size ≤ 9223372036854775807 := hb
  unfold aC.tw
  repeat' (first | ((with_reducible apply o_y); exact y_; rfl) | refine bf ?_ | with_reducible refine ab rfl ?_ | (with_reducible first | apply ag | apply aa | apply ah | apply ac | apply ap | apply au | apply ad) | (refine bD rfl rr_ (fun hc => ?_) (fun hc => ?_)))
  all_goals first
    | exact a8 x_ rfl (-1) ⟨by omega, by omega, fun h => by omega⟩ rfl (.nil R) (.refl _) (.tmp _ _ rfl) rfl
    | (refine a8 x_ rfl _ ⟨?_, ?_, fun _ => ?_⟩ rfl (.nil R) (.refl _) (.tmp _ _ rfl) rfl
       · omega
       · omega
       · show _ ≤ _; omega)
theorem fu (hst : aY G) (lo : Nat) (l : List aC) (left : Int) (h : 0 ≤ left ∧ left ≤ 1048576) (hb : l.length ≤ 9223372036854775807 ∧ ∀ y ∈ l, aC.small 9223372036854775807 y) : CtM Tryz.prog G 204 [.sl lo 3 (l.map (aC.tw lo)), .int .i64 left] [] (fun y : Int => -1 ≤ y ∧ y ≤ left ∧ (0 ≤ y → l.length ≤ 1048576 ∧ ∀ y ∈ l, aC.small 1048576 y)) (fun _ => []) (fun y => .int .i64 y) := by
  refine bB Tryz.func204 rfl Tryz.ntmps204 rfl rfl rfl fun w0 R gs objsR hG hR => ?_
  obtain rfl := hR.inv0
  clear hR
  have hlen := aC.len lo l
  have hl1 := hb.1
  by_cases hn : left - l.length < 0
  · repeat' (first | ((with_reducible apply o_y); exact y_; rfl) | with_reducible refine ab rfl ?_ | (with_reducible first | apply ag | apply aa | apply ah | apply ac | apply au | apply ad) | (refine ae rfl rr_ dd_ ?_))
    exact a8 x_ rfl (-1) ⟨by omega, by omega, fun h => by omega⟩ rfl (.nil R) (.refl _) (.tmp _ _ rfl) rfl
  · repeat' (first | ((with_reducible apply o_y); exact y_; rfl) | with_reducible refine ab rfl ?_ | (with_reducible first | apply ag | apply aa | apply ah | apply ac | apply ai | apply ap) | (refine aj rfl rr_ dd_ ?_))
    apply aK (X := Nat × Int) [0, 1000000] (fun x => [(5, .int .i64 (x.1 : Int)), (1, .int .i64 x.2)]) (fun _ => R) (fun x => x.1 ≤ l.length ∧ 0 ≤ x.2 ∧ x.2 ≤ left ∧ ∀ y ∈ l.take x.1, aC.small 1048576 y) (fun x => l.length - x.1) (0, left - l.length) ⟨Nat.zero_le _, by dsimp only; omega, by dsimp only; omega, by simp⟩
    exact kp_; (repeat (first | exact bj.envNil | refine bj.envCons we_ ?_))
    · exact .refl _
    rintro ⟨i, lf⟩ ⟨hi, h0, h1, hs⟩
    dsimp only at hi h0 h1 hs ⊢
    by_cases hlt : i < l.length
    · have hrow : (l.map (aC.tw lo))[i]? = some (l[i].tw lo) := bg hlt
      have hbi := hb.2 _ (List.getElem_mem hlt)
      have hta := bu (p := aC.small 1048576) hlt hs
      generalize l[i] = x at hrow hbi hta
      have hct := f6 hst lo x lf (by omega) hbi
      unfold aC.tw at hct
      rw [show x.tw lo = [.int .i64 x.kind, .int .i64 x.number, .str x.text] from rfl] at hrow
      repeat' (first | ((with_reducible apply o_y); exact y_; rfl) | ((with_reducible apply bE); rfl; kernel_rfl; (repeat (first | exact bA.nil | ((with_reducible apply bA.cons); rfl))); exact hG; exact hct; exact .nil _; intro y hy; refine bI ?_) | with_reducible refine ab rfl ?_ | (with_reducible first | apply ag | apply aa | apply ah | apply ac | apply ai | apply ap | apply au | apply ad | apply ak | apply aB) | (refine ae rfl rr_ dd_ ?_) | (refine bD rfl rr_ (fun hc => ?_) (fun hc => ?_)))
      all_goals first
        | exact a8 x_ rfl (-1) ⟨by omega, by omega, fun h => by omega⟩ rfl (.nil R) (.refl _) (.tmp _ _ rfl) rfl
        | exact aG (i + 1, y) ⟨by dsimp only; omega, by dsimp only; omega, by dsimp only; omega, hta (hy.2.2 (by omega))⟩ (by dsimp only; omega) (.of _ nw_ od_ pk_)
    · rw [List.take_of_length_le (by omega)] at hs
      repeat' (first | ((with_reducible apply o_y); exact y_; rfl) | with_reducible refine ab rfl ?_ | (with_reducible first | apply ag | apply aa | apply ah | apply ac | apply aH | apply au | apply ar | apply aq) | (refine aj rfl rr_ dd_ ?_))
      exact a8 x_ rfl lf ⟨by omega, by omega, fun _ => ⟨by omega, hs⟩⟩ rfl (.nil R) (.refl _) (.tmp _ _ rfl) rfl
theorem gl (_hst : aY G) (lo : Nat) (x : aC) (_hb : x.small 1048576) : Ct Tryz.prog G 94 [.agg (x.tw lo)] (fun K => .agg (x.tw K)) := by
  refine aJ Tryz.func94 rfl Tryz.ntmps94 rfl rfl fun w0 _ hG => ?_
  unfold aC.small at _hb
  skip
  repeat' (first | ((with_reducible apply o_y); exact y_; rfl) | refine bf ?_ | (refine aI ?_; intro ss bb) | refine aA ?_ | with_reducible refine ab rfl ?_ | (with_reducible first | apply ag | apply aa | apply ah | apply ac | apply au))
  refine ao x_ rfl (.cell _ _ _ _ _ rfl mm_ (by kernel_rfl) (by kernel_rfl) (by kernel_rfl)) (fun _ => ?_)
  exact dE (aC.fin _ _ _ x)
theorem e6 (hst : aY G) (lo : Nat) (l : List aC) (hb : l.length ≤ 1048576 ∧ ∀ y ∈ l, aC.small 1048576 y) : Ct Tryz.prog G 212 [.sl lo 3 (l.map (aC.tw lo))] (fun K => .sl K 3 (l.map (aC.tw K))) := by
  refine aJ Tryz.func212 rfl Tryz.ntmps212 rfl rfl fun w0 _ hG => ?_
  have hlen := aC.len lo l
  have hl1 := hb.1
  have h0 := cx (aC.tw w0.heap.size) aC.tz l
  repeat' (first | ((with_reducible apply o_y); exact y_; rfl) | (refine eQ ?_; intro ss bb) | with_reducible refine ab rfl ?_ | (with_reducible first | apply ag | apply aa | apply ah | apply ac | apply ai))
  apply aK (X := Nat) [0, 3] (fun i => [(4, .int .i64 (i : Int))]) (fun i => [(ss, bb, .row 3 (dw (aC.tw w0.heap.size) aC.tz l i))]) (fun i => i ≤ l.length) (fun i => l.length - i) 0 (Nat.zero_le _)
  exact kp_; (repeat (first | exact bj.envNil | refine bj.envCons we_ ?_))
  · rw [← h0]; exact .refl _
  intro i hi
  try dsimp only
  by_cases hlt : i < l.length
  · obtain ⟨hrow, hset⟩ := cN (aC.tw w0.heap.size) aC.tz hlt
    have hra : (l.map (aC.tw lo))[i]? = some (l[i].tw lo) := bg hlt
    have hbi := hb.2 _ (List.getElem_mem hlt)
    generalize l[i] = x at hset hra hbi
    have hct := gl hst lo x hbi
    unfold aC.tw at hct
    rw [show x.tw lo = [.int .i64 x.kind, .int .i64 x.number, .str x.text] from rfl] at hra
    replace hrow : (dw (aC.tw w0.heap.size) aC.tz l i)[i]? = some [.int .i64 0, .int .i64 0, .str ⟨#[]⟩] := hrow
    repeat' (first | ((with_reducible apply o_y); exact y_; rfl) | refine aw hG hst (hct) ?_ | refine cE ?_ | with_reducible refine ab rfl ?_ | (with_reducible first | apply ag | apply aa | apply ah | apply ac | apply ai | apply ap | apply aB) | (refine ae rfl rr_ dd_ ?_))
    refine aG (i + 1) (by omega) (by omega) (.of _ nw_ od_ (by rw [← hset]; exact .refl _))
  · obtain rfl : i = l.length := by omega
    rw [cA]
    repeat' (first | ((with_reducible apply o_y); exact y_; rfl) | with_reducible refine ab rfl ?_ | (with_reducible first | apply ag | apply aa | apply ah | apply ac | apply aH | apply au | apply ar | apply aq) | (refine aj rfl rr_ dd_ ?_))
    refine ao x_ rfl (.tmp _ _ rfl) (fun _ => ?_)
    exact eZ (fun x => aC.fin _ _ _ x) List.mem_cons_self
theorem gf (_hst : aY G) (l1 l2 : Nat) (x : aC) (_hb : x.small 1048576) : Ct Tryz.prog G 71 [.agg (x.tw l1), .agg (x.tw l2)] (fun _ => .bool true) := by
  refine aJ Tryz.func71 rfl Tryz.ntmps71 rfl rfl fun w0 _ hG => ?_
  unfold aC.small at _hb
  have hnetext : ¬ x.text ≠ x.text := fun h => h rfl
  unfold aC.tw
  repeat' (first | ((with_reducible apply o_y); exact y_; rfl) | refine bf ?_ | with_reducible refine ab rfl ?_ | (with_reducible first | apply ag | apply aa | apply ah | apply ac | apply ap | apply au) | (refine aj rfl rr_ dd_ ?_))
  all_goals first
    | (exfalso; simp at hc; done)
    | (refine ao x_ rfl (.tmp _ _ rfl) (fun _ => ?_)
       exact Fin.flat rfl)
theorem e9 (hst : aY G) (l1 l2 : Nat) (l : List aC) (hb : l.length ≤ 1048576 ∧ ∀ y ∈ l, aC.small 1048576 y) : Ct Tryz.prog G 202 [.sl l1 3 (l.map (aC.tw l1)), .sl l2 3 (l.map (aC.tw l2))] (fun _ => .bool true) := by
  refine aJ Tryz.func202 rfl Tryz.ntmps202 rfl rfl fun w0 _ hG => ?_
  have hlen := aC.len l1 l
  have hlen2 := aC.len l2 l
  have hl1 := hb.1
  repeat' (first | ((with_reducible apply o_y); exact y_; rfl) | with_reducible refine ab rfl ?_ | (with_reducible first | apply ag | apply aa | apply ah | apply ac | apply ai | apply ap) | (refine aj rfl rr_ dd_ ?_))
  apply aK (X := Nat) [0, 1] (fun i => [(5, .int .i64 (i : Int))]) (fun _ => []) (fun i => i ≤ l.length) (fun i => l.length - i) 0 (Nat.zero_le _)
  exact kp_; (repeat (first | exact bj.envNil | refine bj.envCons we_ ?_))
  · exact .refl _
  intro i hi
  try dsimp only
  by_cases hlt : i < l.length
  · have hr1 : (l.map (aC.tw l1))[i]? = some (l[i].tw l1) := bg hlt
    have hr2 : (l.map (aC.tw l2))[i]? = some (l[i].tw l2) := bg hlt
    have hbi := hb.2 _ (List.getElem_mem hlt)
    generalize l[i] = x at hr1 hr2 hbi
    have hct := gf hst l1 l2 x hbi
    unfold aC.tw at hct
    rw [show x.tw l1 = [.int .i64 x.kind, .int .i64 x.number, .str x.text] from rfl] at hr1
    rw [show x.tw l2 = [.int .i64 x.kind, .int .i64 x.number, .str x.text] from rfl] at hr2
    repeat' (first | ((with_reducible apply o_y); exact y_; rfl) | with_reducible refine aF (by kernel_rfl) (by kernel_rfl) ?_ | with_reducible refine aN ?_ | with_reducible refine aE rfl ?_ | ((with_reducible apply d_y); exact y_; rfl) | refine ay hG hst (hct) ?_ | with_reducible refine ab rfl ?_ | (with_reducible first | apply ag | apply aa | apply ah | apply ac | apply ai | apply ap | apply aB) | refine az rfl rr_ ?_ | (refine ae rfl rr_ dd_ ?_))
    exact aG (i + 1) (by omega) (by omega) (.of _ nw_ od_ pk_)
  · repeat' (first | ((with_reducible apply o_y); exact y_; rfl) | with_reducible refine ab rfl ?_ | (with_reducible first | apply ag | apply aa | apply ah | apply ac | apply aH | apply au | apply ar | apply aq) | (refine aj rfl rr_ dd_ ?_))
    refine ao x_ rfl (.tmp _ _ rfl) (fun _ => ?_)
    exact Fin.flat rfl
end
def aR.tw (lo : Nat) (x : aR) : List TV := [.int .i64 x.kind, .int .i64 x.class_, .sl lo 3 (x.fields.map (aC.tw lo)), .sl lo 1 (bv x.numbers)]
def aR.small (n : Nat) (x : aR) : Prop := (x.fields.length ≤ n ∧ ∀ y ∈ x.fields, aC.small n y) ∧ (x.numbers.length ≤ n)
def aR.tz : List TV := [.int .i64 0, .int .i64 0, .nils, .nils]
theorem aR.fin (B K : Nat) (objs : bp) (_x : aR) : fR B objs K (_x.tw B) (_x.tw K) := .cons (.flat rfl) (.cons (.flat rfl) (.cons (ci (fun _x => aC.fin B K objs _x) _) (.cons (ci (fun _x => .cons (.flat rfl) .nil) _) (.nil))))
theorem aR.len (lo : Nat) (l : List aR) : (l.map (aR.tw lo)).length = l.length := by simp
section
variable {G : World → Prop}
theorem p9 (hst : aY G) (lo : Nat) (x : aR) (left : Int) (h : 0 ≤ left ∧ left ≤ 1048576) (hb : x.small 9223372036854775807) : CtM Tryz.prog G 203 [.agg (x.tw lo), .int .i64 left] [] (fun y : Int => -1 ≤ y ∧ y ≤ left ∧ (0 ≤ y → x.small 1048576)) (fun _ => []) (fun y => .int .i64 y) := by
  refine bB Tryz.func203 rfl Tryz.ntmps203 rfl rfl rfl fun w0 R gs objsR hG hR => ?_
  obtain rfl := hR.inv0
  clear hR
  unfold aR.small at hb
  skip
  unfold aR.tw
  repeat' (first | ((with_reducible apply o_y); exact y_; rfl) | refine bf ?_ | ((with_reducible apply bE); rfl; kernel_rfl; (repeat (first | exact bA.nil | ((with_reducible apply bA.cons); rfl))); exact hG; exact fu hst lo x.fields _ (by omega) hb.1; exact .nil _; intro y1 hy1; refine bI ?_) | ((with_reducible apply bE); rfl; kernel_rfl; (repeat (first | exact bA.nil | ((with_reducible apply bA.cons); rfl))); exact hG; exact nF hst lo x.numbers _ (by omega) hb.2; exact .nil _; intro y2 hy2; refine bI ?_) | with_reducible refine ab rfl ?_ | (with_reducible first | apply ag | apply aa | apply ah | apply ac | apply ap | apply au | apply ad) | (refine bD rfl rr_ (fun hc => ?_) (fun hc => ?_)))
  all_goals first
    | exact a8 x_ rfl (-1) ⟨by omega, by omega, fun h => by omega⟩ rfl (.nil R) (.refl _) (.tmp _ _ rfl) rfl
    | (refine a8 x_ rfl _ ⟨?_, ?_, fun _ => ?_⟩ rfl (.nil R) (.refl _) (.tmp _ _ rfl) rfl
       · omega
       · omega
       · exact ⟨hy1.2.2 (by omega), hy2.2.2 (by omega)⟩)
theorem o6 (hst : aY G) (lo : Nat) (l : List aR) (left : Int) (h : 0 ≤ left ∧ left ≤ 1048576) (hb : l.length ≤ 9223372036854775807 ∧ ∀ y ∈ l, aR.small 9223372036854775807 y) : CtM Tryz.prog G 152 [.sl lo 4 (l.map (aR.tw lo)), .int .i64 left] [] (fun y : Int => -1 ≤ y ∧ y ≤ left ∧ (0 ≤ y → l.length ≤ 1048576 ∧ ∀ y ∈ l, aR.small 1048576 y)) (fun _ => []) (fun y => .int .i64 y) := by
  refine bB Tryz.func152 rfl Tryz.ntmps152 rfl rfl rfl fun w0 R gs objsR hG hR => ?_
  obtain rfl := hR.inv0
  clear hR
  have hlen := aR.len lo l
  have hl1 := hb.1
  by_cases hn : left - l.length < 0
  · repeat' (first | ((with_reducible apply o_y); exact y_; rfl) | with_reducible refine ab rfl ?_ | (with_reducible first | apply ag | apply aa | apply ah | apply ac | apply au | apply ad) | (refine ae rfl rr_ dd_ ?_))
    exact a8 x_ rfl (-1) ⟨by omega, by omega, fun h => by omega⟩ rfl (.nil R) (.refl _) (.tmp _ _ rfl) rfl
  · repeat' (first | ((with_reducible apply o_y); exact y_; rfl) | with_reducible refine ab rfl ?_ | (with_reducible first | apply ag | apply aa | apply ah | apply ac | apply ai | apply ap) | (refine aj rfl rr_ dd_ ?_))
    apply aK (X := Nat × Int) [0, 1000000] (fun x => [(5, .int .i64 (x.1 : Int)), (1, .int .i64 x.2)]) (fun _ => R) (fun x => x.1 ≤ l.length ∧ 0 ≤ x.2 ∧ x.2 ≤ left ∧ ∀ y ∈ l.take x.1, aR.small 1048576 y) (fun x => l.length - x.1) (0, left - l.length) ⟨Nat.zero_le _, by dsimp only; omega, by dsimp only; omega, by simp⟩
    exact kp_; (repeat (first | exact bj.envNil | refine bj.envCons we_ ?_))
    · exact .refl _
    rintro ⟨i, lf⟩ ⟨hi, h0, h1, hs⟩
    dsimp only at hi h0 h1 hs ⊢
    by_cases hlt : i < l.length
    · have hrow : (l.map (aR.tw lo))[i]? = some (l[i].tw lo) := bg hlt
      have hbi := hb.2 _ (List.getElem_mem hlt)
      have hta := bu (p := aR.small 1048576) hlt hs
      generalize l[i] = x at hrow hbi hta
      have hct := p9 hst lo x lf (by omega) hbi
      unfold aR.tw at hct
      rw [show x.tw lo = [.int .i64 x.kind, .int .i64 x.class_, .sl lo 3 (x.fields.map (aC.tw lo)), .sl lo 1 (bv x.numbers)] from rfl] at hrow
      repeat' (first | ((with_reducible apply o_y); exact y_; rfl) | ((with_reducible apply bE); rfl; kernel_rfl; (repeat (first | exact bA.nil | ((with_reducible apply bA.cons); rfl))); exact hG; exact hct; exact .nil _; intro y hy; refine bI ?_) | with_reducible refine ab rfl ?_ | (with_reducible first | apply ag | apply aa | apply ah | apply ac | apply ai | apply ap | apply au | apply ad | apply ak | apply aB) | (refine ae rfl rr_ dd_ ?_) | (refine bD rfl rr_ (fun hc => ?_) (fun hc => ?_)))
      all_goals first
        | exact a8 x_ rfl (-1) ⟨by omega, by omega, fun h => by omega⟩ rfl (.nil R) (.refl _) (.tmp _ _ rfl) rfl
        | exact aG (i + 1, y) ⟨by dsimp only; omega, by dsimp only; omega, by dsimp only; omega, hta (hy.2.2 (by omega))⟩ (by dsimp only; omega) (.of _ nw_ od_ pk_)
    · rw [List.take_of_length_le (by omega)] at hs
      repeat' (first | ((with_reducible apply o_y); exact y_; rfl) | with_reducible refine ab rfl ?_ | (with_reducible first | apply ag | apply aa | apply ah | apply ac | apply aH | apply au | apply ar | apply aq) | (refine aj rfl rr_ dd_ ?_))
      exact a8 x_ rfl lf ⟨by omega, by omega, fun _ => ⟨by omega, hs⟩⟩ rfl (.nil R) (.refl _) (.tmp _ _ rfl) rfl
theorem qn (hst : aY G) (lo : Nat) (x : aR) (hb : x.small 1048576) : Ct Tryz.prog G 211 [.agg (x.tw lo)] (fun K => .agg (x.tw K)) := by
  refine aJ Tryz.func211 rfl Tryz.ntmps211 rfl rfl fun w0 _ hG => ?_
  unfold aR.small at hb
  have hsfields := hb.1
  have hsnumbers := hb.2
  repeat' (first | ((with_reducible apply o_y); exact y_; rfl) | refine bf ?_ | (refine aI ?_; intro ss bb) | refine aA ?_ | refine aw hG hst (e6 hst lo x.fields (hsfields)) ?_ | refine aw hG hst (ol hst lo x.numbers (hsnumbers)) ?_ | with_reducible refine ab rfl ?_ | (with_reducible first | apply ag | apply aa | apply ah | apply ac | apply au))
  refine ao x_ rfl (.cell _ _ _ _ _ rfl mm_ (by kernel_rfl) (by kernel_rfl) (by kernel_rfl)) (fun _ => ?_)
  exact dE (aR.fin _ _ _ x)
theorem n7 (hst : aY G) (lo : Nat) (l : List aR) (hb : l.length ≤ 1048576 ∧ ∀ y ∈ l, aR.small 1048576 y) : Ct Tryz.prog G 166 [.sl lo 4 (l.map (aR.tw lo))] (fun K => .sl K 4 (l.map (aR.tw K))) := by
  refine aJ Tryz.func166 rfl Tryz.ntmps166 rfl rfl fun w0 _ hG => ?_
  have hlen := aR.len lo l
  have hl1 := hb.1
  have h0 := cx (aR.tw w0.heap.size) aR.tz l
  repeat' (first | ((with_reducible apply o_y); exact y_; rfl) | (refine eQ ?_; intro ss bb) | with_reducible refine ab rfl ?_ | (with_reducible first | apply ag | apply aa | apply ah | apply ac | apply ai))
  apply aK (X := Nat) [0, 3] (fun i => [(4, .int .i64 (i : Int))]) (fun i => [(ss, bb, .row 4 (dw (aR.tw w0.heap.size) aR.tz l i))]) (fun i => i ≤ l.length) (fun i => l.length - i) 0 (Nat.zero_le _)
  exact kp_; (repeat (first | exact bj.envNil | refine bj.envCons we_ ?_))
  · rw [← h0]; exact .refl _
  intro i hi
  try dsimp only
  by_cases hlt : i < l.length
  · obtain ⟨hrow, hset⟩ := cN (aR.tw w0.heap.size) aR.tz hlt
    have hra : (l.map (aR.tw lo))[i]? = some (l[i].tw lo) := bg hlt
    have hbi := hb.2 _ (List.getElem_mem hlt)
    generalize l[i] = x at hset hra hbi
    have hct := qn hst lo x hbi
    unfold aR.tw at hct
    rw [show x.tw lo = [.int .i64 x.kind, .int .i64 x.class_, .sl lo 3 (x.fields.map (aC.tw lo)), .sl lo 1 (bv x.numbers)] from rfl] at hra
    replace hrow : (dw (aR.tw w0.heap.size) aR.tz l i)[i]? = some [.int .i64 0, .int .i64 0, .nils, .nils] := hrow
    repeat' (first | ((with_reducible apply o_y); exact y_; rfl) | refine aw hG hst (hct) ?_ | refine cE ?_ | with_reducible refine ab rfl ?_ | (with_reducible first | apply ag | apply aa | apply ah | apply ac | apply ai | apply ap | apply aB) | (refine ae rfl rr_ dd_ ?_))
    refine aG (i + 1) (by omega) (by omega) (.of _ nw_ od_ (by rw [← hset]; exact .refl _))
  · obtain rfl : i = l.length := by omega
    rw [cA]
    repeat' (first | ((with_reducible apply o_y); exact y_; rfl) | with_reducible refine ab rfl ?_ | (with_reducible first | apply ag | apply aa | apply ah | apply ac | apply aH | apply au | apply ar | apply aq) | (refine aj rfl rr_ dd_ ?_))
    refine ao x_ rfl (.tmp _ _ rfl) (fun _ => ?_)
    exact eZ (fun x => aR.fin _ _ _ x) List.mem_cons_self
theorem qh (hst : aY G) (l1 l2 : Nat) (x : aR) (hb : x.small 1048576) : Ct Tryz.prog G 201 [.agg (x.tw l1), .agg (x.tw l2)] (fun _ => .bool true) := by
  refine aJ Tryz.func201 rfl Tryz.ntmps201 rfl rfl fun w0 _ hG => ?_
  unfold aR.small at hb
  have hsfields := hb.1
  have hsnumbers := hb.2
  unfold aR.tw
  repeat' (first | ((with_reducible apply o_y); exact y_; rfl) | refine bf ?_ | refine aw hG hst (e9 hst l1 l2 x.fields hsfields) ?_ | refine aw hG hst (nO hst l1 l2 x.numbers hsnumbers) ?_ | with_reducible refine ab rfl ?_ | (with_reducible first | apply ag | apply aa | apply ah | apply ac | apply ap | apply au) | refine az rfl rr_ ?_ | (refine aj rfl rr_ dd_ ?_))
  all_goals first
    | (exfalso; simp at hc; done)
    | (refine ao x_ rfl (.tmp _ _ rfl) (fun _ => ?_)
       exact Fin.flat rfl)
theorem oR (hst : aY G) (l1 l2 : Nat) (l : List aR) (hb : l.length ≤ 1048576 ∧ ∀ y ∈ l, aR.small 1048576 y) : Ct Tryz.prog G 143 [.sl l1 4 (l.map (aR.tw l1)), .sl l2 4 (l.map (aR.tw l2))] (fun _ => .bool true) := by
  refine aJ Tryz.func143 rfl Tryz.ntmps143 rfl rfl fun w0 _ hG => ?_
  have hlen := aR.len l1 l
  have hlen2 := aR.len l2 l
  have hl1 := hb.1
  repeat' (first | ((with_reducible apply o_y); exact y_; rfl) | with_reducible refine ab rfl ?_ | (with_reducible first | apply ag | apply aa | apply ah | apply ac | apply ai | apply ap) | (refine aj rfl rr_ dd_ ?_))
  apply aK (X := Nat) [0, 1] (fun i => [(5, .int .i64 (i : Int))]) (fun _ => []) (fun i => i ≤ l.length) (fun i => l.length - i) 0 (Nat.zero_le _)
  exact kp_; (repeat (first | exact bj.envNil | refine bj.envCons we_ ?_))
  · exact .refl _
  intro i hi
  try dsimp only
  by_cases hlt : i < l.length
  · have hr1 : (l.map (aR.tw l1))[i]? = some (l[i].tw l1) := bg hlt
    have hr2 : (l.map (aR.tw l2))[i]? = some (l[i].tw l2) := bg hlt
    have hbi := hb.2 _ (List.getElem_mem hlt)
    generalize l[i] = x at hr1 hr2 hbi
    have hct := qh hst l1 l2 x hbi
    unfold aR.tw at hct
    rw [show x.tw l1 = [.int .i64 x.kind, .int .i64 x.class_, .sl l1 3 (x.fields.map (aC.tw l1)), .sl l1 1 (bv x.numbers)] from rfl] at hr1
    rw [show x.tw l2 = [.int .i64 x.kind, .int .i64 x.class_, .sl l2 3 (x.fields.map (aC.tw l2)), .sl l2 1 (bv x.numbers)] from rfl] at hr2
    repeat' (first | ((with_reducible apply o_y); exact y_; rfl) | with_reducible refine aF (by kernel_rfl) (by kernel_rfl) ?_ | with_reducible refine aN ?_ | with_reducible refine aE rfl ?_ | ((with_reducible apply d_y); exact y_; rfl) | refine ay hG hst (hct) ?_ | with_reducible refine ab rfl ?_ | (with_reducible first | apply ag | apply aa | apply ah | apply ac | apply ai | apply ap | apply aB) | refine az rfl rr_ ?_ | (refine ae rfl rr_ dd_ ?_))
    exact aG (i + 1) (by omega) (by omega) (.of _ nw_ od_ pk_)
  · repeat' (first | ((with_reducible apply o_y); exact y_; rfl) | with_reducible refine ab rfl ?_ | (with_reducible first | apply ag | apply aa | apply ah | apply ac | apply aH | apply au | apply ar | apply aq) | (refine aj rfl rr_ dd_ ?_))
    refine ao x_ rfl (.tmp _ _ rfl) (fun _ => ?_)
    exact Fin.flat rfl
end
def br.tw (lo : Nat) (x : br) : List TV := [.sl lo 3 (x.classes.map (am.tw lo)), .sl lo 4 (x.objects.map (aR.tw lo)), .sl lo 1 (cL x.output), .int .i64 x.ticks, .int .i64 x.budget, .int .i64 x.made]
def br.small (n : Nat) (x : br) : Prop := (x.classes.length ≤ n ∧ ∀ y ∈ x.classes, am.small n y) ∧ (x.objects.length ≤ n ∧ ∀ y ∈ x.objects, aR.small n y) ∧ (x.output.length ≤ n ∧ ∀ y ∈ x.output, ByteArray.size y ≤ n)
def br.tz : List TV := [.nils, .nils, .nils, .int .i64 0, .int .i64 0, .int .i64 0]
theorem br.fin (B K : Nat) (objs : bp) (_x : br) : fR B objs K (_x.tw B) (_x.tw K) := .cons (ci (fun _x => am.fin B K objs _x) _) (.cons (ci (fun _x => aR.fin B K objs _x) _) (.cons (ci (fun _x => .cons (.flat rfl) .nil) _) (.cons (.flat rfl) (.cons (.flat rfl) (.cons (.flat rfl) (.nil))))))
theorem br.len (lo : Nat) (l : List br) : (l.map (br.tw lo)).length = l.length := by simp
section
variable {G : World → Prop}
theorem sY (hst : aY G) (lo : Nat) (x : br) (left : Int) (h : 0 ≤ left ∧ left ≤ 1048576) (hb : x.small 9223372036854775807) : CtM Tryz.prog G 82 [.agg (x.tw lo), .int .i64 left] [] (fun y : Int => -1 ≤ y ∧ y ≤ left ∧ (0 ≤ y → x.small 1048576)) (fun _ => []) (fun y => .int .i64 y) := by
  refine bB Tryz.func82 rfl Tryz.ntmps82 rfl rfl rfl fun w0 R gs objsR hG hR => ?_
  obtain rfl := hR.inv0
  clear hR
  unfold br.small at hb
  skip
  unfold br.tw
  repeat' (first | ((with_reducible apply o_y); exact y_; rfl) | refine bf ?_ | ((with_reducible apply bE); rfl; kernel_rfl; (repeat (first | exact bA.nil | ((with_reducible apply bA.cons); rfl))); exact hG; exact fC hst lo x.classes _ (by omega) hb.1; exact .nil _; intro y1 hy1; refine bI ?_) | ((with_reducible apply bE); rfl; kernel_rfl; (repeat (first | exact bA.nil | ((with_reducible apply bA.cons); rfl))); exact hG; exact o6 hst lo x.objects _ (by omega) hb.2.1; exact .nil _; intro y2 hy2; refine bI ?_) | ((with_reducible apply bE); rfl; kernel_rfl; (repeat (first | exact bA.nil | ((with_reducible apply bA.cons); rfl))); exact hG; exact jg lo x.output _ (by omega) hb.2.2; exact .nil _; intro y3 hy3; refine bI ?_) | with_reducible refine ab rfl ?_ | (with_reducible first | apply ag | apply aa | apply ah | apply ac | apply ap | apply au | apply ad) | (refine bD rfl rr_ (fun hc => ?_) (fun hc => ?_)))
  all_goals first
    | exact a8 x_ rfl (-1) ⟨by omega, by omega, fun h => by omega⟩ rfl (.nil R) (.refl _) (.tmp _ _ rfl) rfl
    | (refine a8 x_ rfl _ ⟨?_, ?_, fun _ => ?_⟩ rfl (.nil R) (.refl _) (.tmp _ _ rfl) rfl
       · omega
       · omega
       · exact ⟨hy1.2.2 (by omega), hy2.2.2 (by omega), hy3.2.2 (by omega)⟩)
theorem sZ (hst : aY G) (lo : Nat) (x : br) (hb : x.small 1048576) : Ct Tryz.prog G 89 [.agg (x.tw lo)] (fun K => .agg (x.tw K)) := by
  refine aJ Tryz.func89 rfl Tryz.ntmps89 rfl rfl fun w0 _ hG => ?_
  unfold br.small at hb
  have hsclasses := hb.1
  have hsobjects := hb.2.1
  have hsoutput := (hb.2.2).1
  repeat' (first | ((with_reducible apply o_y); exact y_; rfl) | refine bf ?_ | (refine aI ?_; intro ss bb) | refine aA ?_ | refine aw hG hst (fF hst lo x.classes (hsclasses)) ?_ | refine aw hG hst (n7 hst lo x.objects (hsobjects)) ?_ | refine aw hG hst (jf hst lo x.output (hsoutput)) ?_ | with_reducible refine ab rfl ?_ | (with_reducible first | apply ag | apply aa | apply ah | apply ac | apply au))
  refine ao x_ rfl (.cell _ _ _ _ _ rfl mm_ (by kernel_rfl) (by kernel_rfl) (by kernel_rfl)) (fun _ => ?_)
  exact dE (br.fin _ _ _ x)
theorem sB (hst : aY G) (l1 l2 : Nat) (x : br) (hb : x.small 1048576) : Ct Tryz.prog G 66 [.agg (x.tw l1), .agg (x.tw l2)] (fun _ => .bool true) := by
  refine aJ Tryz.func66 rfl Tryz.ntmps66 rfl rfl fun w0 _ hG => ?_
  unfold br.small at hb
  have hsclasses := hb.1
  have hsobjects := hb.2.1
  have hsoutput := (hb.2.2).1
  unfold br.tw
  repeat' (first | ((with_reducible apply o_y); exact y_; rfl) | refine bf ?_ | refine aw hG hst (fJ hst l1 l2 x.classes hsclasses) ?_ | refine aw hG hst (oR hst l1 l2 x.objects hsobjects) ?_ | refine aw hG hst (js l1 l2 x.output hsoutput) ?_ | with_reducible refine ab rfl ?_ | (with_reducible first | apply ag | apply aa | apply ah | apply ac | apply ap | apply au) | refine az rfl rr_ ?_ | (refine aj rfl rr_ dd_ ?_))
  all_goals first
    | (exfalso; simp at hc; done)
    | (refine ao x_ rfl (.tmp _ _ rfl) (fun _ => ?_)
       exact Fin.flat rfl)
end
def aQ.tw (_lo : Nat) (x : aQ) : List TV := [.int .i64 x.code, .int .i64 x.outer, .int .i64 x.home, .int .i64 x.self.kind, .int .i64 x.self.number, .str x.self.text]
def aQ.small (n : Nat) (x : aQ) : Prop := (aC.small n x.self)
def aQ.tz : List TV := [.int .i64 0, .int .i64 0, .int .i64 0, .int .i64 0, .int .i64 0, .str ⟨#[]⟩]
theorem aQ.fin (B K : Nat) (objs : bp) (x : aQ) : fR B objs K (x.tw B) (x.tw K) := .cons (.flat rfl) (.cons (.flat rfl) (.cons (.flat rfl) (.cons (.flat rfl) (.cons (.flat rfl) (.cons (.flat rfl) (.nil))))))
theorem aQ.len (lo : Nat) (l : List aQ) : (l.map (aQ.tw lo)).length = l.length := by simp
section
variable {G : World → Prop}
theorem nP (hst : aY G) (lo : Nat) (x : aQ) (left : Int) (h : 0 ≤ left ∧ left ≤ 1048576) (hb : x.small 9223372036854775807) : CtM Tryz.prog G 154 [.agg (x.tw lo), .int .i64 left] [] (fun y : Int => -1 ≤ y ∧ y ≤ left ∧ (0 ≤ y → x.small 1048576)) (fun _ => []) (fun y => .int .i64 y) := by
  refine bB Tryz.func154 rfl Tryz.ntmps154 rfl rfl rfl fun w0 R gs objsR hG hR => ?_
  obtain rfl := hR.inv0
  clear hR
  unfold aQ.small at hb
  skip
  unfold aQ.tw
  repeat' (first | ((with_reducible apply o_y); exact y_; rfl) | refine bf ?_ | ((with_reducible apply bE); rfl; kernel_rfl; (repeat (first | exact bA.nil | ((with_reducible apply bA.cons); rfl))); exact hG; exact f6 hst lo x.self _ (by omega) hb; exact .nil _; intro y1 hy1; refine bI ?_) | with_reducible refine ab rfl ?_ | (with_reducible first | apply ag | apply aa | apply ah | apply ac | apply ap | apply au | apply ad) | (refine bD rfl rr_ (fun hc => ?_) (fun hc => ?_)))
  all_goals first
    | exact a8 x_ rfl (-1) ⟨by omega, by omega, fun h => by omega⟩ rfl (.nil R) (.refl _) (.tmp _ _ rfl) rfl
    | (refine a8 x_ rfl _ ⟨?_, ?_, fun _ => ?_⟩ rfl (.nil R) (.refl _) (.tmp _ _ rfl) rfl
       · omega
       · omega
       · exact hy1.2.2 (by omega))
theorem mR (hst : aY G) (lo : Nat) (l : List aQ) (left : Int) (h : 0 ≤ left ∧ left ≤ 1048576) (hb : l.length ≤ 9223372036854775807 ∧ ∀ y ∈ l, aQ.small 9223372036854775807 y) : CtM Tryz.prog G 83 [.sl lo 6 (l.map (aQ.tw lo)), .int .i64 left] [] (fun y : Int => -1 ≤ y ∧ y ≤ left ∧ (0 ≤ y → l.length ≤ 1048576 ∧ ∀ y ∈ l, aQ.small 1048576 y)) (fun _ => []) (fun y => .int .i64 y) := by
  refine bB Tryz.func83 rfl Tryz.ntmps83 rfl rfl rfl fun w0 R gs objsR hG hR => ?_
  obtain rfl := hR.inv0
  clear hR
  have hlen := aQ.len lo l
  have hl1 := hb.1
  by_cases hn : left - l.length < 0
  · repeat' (first | ((with_reducible apply o_y); exact y_; rfl) | with_reducible refine ab rfl ?_ | (with_reducible first | apply ag | apply aa | apply ah | apply ac | apply au | apply ad) | (refine ae rfl rr_ dd_ ?_))
    exact a8 x_ rfl (-1) ⟨by omega, by omega, fun h => by omega⟩ rfl (.nil R) (.refl _) (.tmp _ _ rfl) rfl
  · repeat' (first | ((with_reducible apply o_y); exact y_; rfl) | with_reducible refine ab rfl ?_ | (with_reducible first | apply ag | apply aa | apply ah | apply ac | apply ai | apply ap) | (refine aj rfl rr_ dd_ ?_))
    apply aK (X := Nat × Int) [0, 1000000] (fun x => [(5, .int .i64 (x.1 : Int)), (1, .int .i64 x.2)]) (fun _ => R) (fun x => x.1 ≤ l.length ∧ 0 ≤ x.2 ∧ x.2 ≤ left ∧ ∀ y ∈ l.take x.1, aQ.small 1048576 y) (fun x => l.length - x.1) (0, left - l.length) ⟨Nat.zero_le _, by dsimp only; omega, by dsimp only; omega, by simp⟩
    exact kp_; (repeat (first | exact bj.envNil | refine bj.envCons we_ ?_))
    · exact .refl _
    rintro ⟨i, lf⟩ ⟨hi, h0, h1, hs⟩
    dsimp only at hi h0 h1 hs ⊢
    by_cases hlt : i < l.length
    · have hrow : (l.map (aQ.tw lo))[i]? = some (l[i].tw lo) := bg hlt
      have hbi := hb.2 _ (List.getElem_mem hlt)
      have hta := bu (p := aQ.small 1048576) hlt hs
      generalize l[i] = x at hrow hbi hta
      have hct := nP hst lo x lf (by omega) hbi
      unfold aQ.tw at hct
      rw [show x.tw lo = [.int .i64 x.code, .int .i64 x.outer, .int .i64 x.home, .int .i64 x.self.kind, .int .i64 x.self.number, .str x.self.text] from rfl] at hrow
      repeat' (first | ((with_reducible apply o_y); exact y_; rfl) | ((with_reducible apply bE); rfl; kernel_rfl; (repeat (first | exact bA.nil | ((with_reducible apply bA.cons); rfl))); exact hG; exact hct; exact .nil _; intro y hy; refine bI ?_) | with_reducible refine ab rfl ?_ | (with_reducible first | apply ag | apply aa | apply ah | apply ac | apply ai | apply ap | apply au | apply ad | apply ak | apply aB) | (refine ae rfl rr_ dd_ ?_) | (refine bD rfl rr_ (fun hc => ?_) (fun hc => ?_)))
      all_goals first
        | exact a8 x_ rfl (-1) ⟨by omega, by omega, fun h => by omega⟩ rfl (.nil R) (.refl _) (.tmp _ _ rfl) rfl
        | exact aG (i + 1, y) ⟨by dsimp only; omega, by dsimp only; omega, by dsimp only; omega, hta (hy.2.2 (by omega))⟩ (by dsimp only; omega) (.of _ nw_ od_ pk_)
    · rw [List.take_of_length_le (by omega)] at hs
      repeat' (first | ((with_reducible apply o_y); exact y_; rfl) | with_reducible refine ab rfl ?_ | (with_reducible first | apply ag | apply aa | apply ah | apply ac | apply aH | apply au | apply ar | apply aq) | (refine aj rfl rr_ dd_ ?_))
      exact a8 x_ rfl lf ⟨by omega, by omega, fun _ => ⟨by omega, hs⟩⟩ rfl (.nil R) (.refl _) (.tmp _ _ rfl) rfl
theorem oW (hst : aY G) (lo : Nat) (x : aQ) (hb : x.small 1048576) : Ct Tryz.prog G 168 [.agg (x.tw lo)] (fun K => .agg (x.tw K)) := by
  refine aJ Tryz.func168 rfl Tryz.ntmps168 rfl rfl fun w0 _ hG => ?_
  unfold aQ.small at hb
  have hsself := hb
  repeat' (first | ((with_reducible apply o_y); exact y_; rfl) | refine bf ?_ | (refine aI ?_; intro ss bb) | refine aA ?_ | refine aw hG hst (gl hst lo x.self (hsself)) ?_ | with_reducible refine ab rfl ?_ | (with_reducible first | apply ag | apply aa | apply ah | apply ac | apply au))
  refine ao x_ rfl (.cell _ _ _ _ _ rfl mm_ (by kernel_rfl) (by kernel_rfl) (by kernel_rfl)) (fun _ => ?_)
  exact dE (aQ.fin _ _ _ x)
theorem nd (hst : aY G) (lo : Nat) (l : List aQ) (hb : l.length ≤ 1048576 ∧ ∀ y ∈ l, aQ.small 1048576 y) : Ct Tryz.prog G 90 [.sl lo 6 (l.map (aQ.tw lo))] (fun K => .sl K 6 (l.map (aQ.tw K))) := by
  refine aJ Tryz.func90 rfl Tryz.ntmps90 rfl rfl fun w0 _ hG => ?_
  have hlen := aQ.len lo l
  have hl1 := hb.1
  have h0 := cx (aQ.tw w0.heap.size) aQ.tz l
  repeat' (first | ((with_reducible apply o_y); exact y_; rfl) | (refine eQ ?_; intro ss bb) | with_reducible refine ab rfl ?_ | (with_reducible first | apply ag | apply aa | apply ah | apply ac | apply ai))
  apply aK (X := Nat) [0, 3] (fun i => [(4, .int .i64 (i : Int))]) (fun i => [(ss, bb, .row 6 (dw (aQ.tw w0.heap.size) aQ.tz l i))]) (fun i => i ≤ l.length) (fun i => l.length - i) 0 (Nat.zero_le _)
  exact kp_; (repeat (first | exact bj.envNil | refine bj.envCons we_ ?_))
  · rw [← h0]; exact .refl _
  intro i hi
  try dsimp only
  by_cases hlt : i < l.length
  · obtain ⟨hrow, hset⟩ := cN (aQ.tw w0.heap.size) aQ.tz hlt
    have hra : (l.map (aQ.tw lo))[i]? = some (l[i].tw lo) := bg hlt
    have hbi := hb.2 _ (List.getElem_mem hlt)
    generalize l[i] = x at hset hra hbi
    have hct := oW hst lo x hbi
    unfold aQ.tw at hct
    rw [show x.tw lo = [.int .i64 x.code, .int .i64 x.outer, .int .i64 x.home, .int .i64 x.self.kind, .int .i64 x.self.number, .str x.self.text] from rfl] at hra
    replace hrow : (dw (aQ.tw w0.heap.size) aQ.tz l i)[i]? = some [.int .i64 0, .int .i64 0, .int .i64 0, .int .i64 0, .int .i64 0, .str ⟨#[]⟩] := hrow
    repeat' (first | ((with_reducible apply o_y); exact y_; rfl) | refine aw hG hst (hct) ?_ | refine cE ?_ | with_reducible refine ab rfl ?_ | (with_reducible first | apply ag | apply aa | apply ah | apply ac | apply ai | apply ap | apply aB) | (refine ae rfl rr_ dd_ ?_))
    refine aG (i + 1) (by omega) (by omega) (.of _ nw_ od_ (by rw [← hset]; exact .refl _))
  · obtain rfl : i = l.length := by omega
    rw [cA]
    repeat' (first | ((with_reducible apply o_y); exact y_; rfl) | with_reducible refine ab rfl ?_ | (with_reducible first | apply ag | apply aa | apply ah | apply ac | apply aH | apply au | apply ar | apply aq) | (refine aj rfl rr_ dd_ ?_))
    refine ao x_ rfl (.tmp _ _ rfl) (fun _ => ?_)
    exact eZ (fun x => aQ.fin _ _ _ x) List.mem_cons_self
theorem pb (hst : aY G) (l1 l2 : Nat) (x : aQ) (hb : x.small 1048576) : Ct Tryz.prog G 145 [.agg (x.tw l1), .agg (x.tw l2)] (fun _ => .bool true) := by
  refine aJ Tryz.func145 rfl Tryz.ntmps145 rfl rfl fun w0 _ hG => ?_
  unfold aQ.small at hb
  have hsself := hb
  unfold aQ.tw
  repeat' (first | ((with_reducible apply o_y); exact y_; rfl) | refine bf ?_ | refine aw hG hst (gf hst l1 l2 x.self hsself) ?_ | with_reducible refine ab rfl ?_ | (with_reducible first | apply ag | apply aa | apply ah | apply ac | apply ap | apply au) | refine az rfl rr_ ?_ | (refine aj rfl rr_ dd_ ?_))
  all_goals first
    | (exfalso; simp at hc; done)
    | (refine ao x_ rfl (.tmp _ _ rfl) (fun _ => ?_)
       exact Fin.flat rfl)
theorem mZ (hst : aY G) (l1 l2 : Nat) (l : List aQ) (hb : l.length ≤ 1048576 ∧ ∀ y ∈ l, aQ.small 1048576 y) : Ct Tryz.prog G 67 [.sl l1 6 (l.map (aQ.tw l1)), .sl l2 6 (l.map (aQ.tw l2))] (fun _ => .bool true) := by
  refine aJ Tryz.func67 rfl Tryz.ntmps67 rfl rfl fun w0 _ hG => ?_
  have hlen := aQ.len l1 l
  have hlen2 := aQ.len l2 l
  have hl1 := hb.1
  repeat' (first | ((with_reducible apply o_y); exact y_; rfl) | with_reducible refine ab rfl ?_ | (with_reducible first | apply ag | apply aa | apply ah | apply ac | apply ai | apply ap) | (refine aj rfl rr_ dd_ ?_))
  apply aK (X := Nat) [0, 1] (fun i => [(5, .int .i64 (i : Int))]) (fun _ => []) (fun i => i ≤ l.length) (fun i => l.length - i) 0 (Nat.zero_le _)
  exact kp_; (repeat (first | exact bj.envNil | refine bj.envCons we_ ?_))
  · exact .refl _
  intro i hi
  try dsimp only
  by_cases hlt : i < l.length
  · have hr1 : (l.map (aQ.tw l1))[i]? = some (l[i].tw l1) := bg hlt
    have hr2 : (l.map (aQ.tw l2))[i]? = some (l[i].tw l2) := bg hlt
    have hbi := hb.2 _ (List.getElem_mem hlt)
    generalize l[i] = x at hr1 hr2 hbi
    have hct := pb hst l1 l2 x hbi
    unfold aQ.tw at hct
    rw [show x.tw l1 = [.int .i64 x.code, .int .i64 x.outer, .int .i64 x.home, .int .i64 x.self.kind, .int .i64 x.self.number, .str x.self.text] from rfl] at hr1
    rw [show x.tw l2 = [.int .i64 x.code, .int .i64 x.outer, .int .i64 x.home, .int .i64 x.self.kind, .int .i64 x.self.number, .str x.self.text] from rfl] at hr2
    repeat' (first | ((with_reducible apply o_y); exact y_; rfl) | with_reducible refine aF (by kernel_rfl) (by kernel_rfl) ?_ | with_reducible refine aN ?_ | with_reducible refine aE rfl ?_ | ((with_reducible apply d_y); exact y_; rfl) | refine ay hG hst (hct) ?_ | with_reducible refine ab rfl ?_ | (with_reducible first | apply ag | apply aa | apply ah | apply ac | apply ai | apply ap | apply aB) | refine az rfl rr_ ?_ | (refine ae rfl rr_ dd_ ?_))
    exact aG (i + 1) (by omega) (by omega) (.of _ nw_ od_ pk_)
  · repeat' (first | ((with_reducible apply o_y); exact y_; rfl) | with_reducible refine ab rfl ?_ | (with_reducible first | apply ag | apply aa | apply ah | apply ac | apply aH | apply au | apply ar | apply aq) | (refine aj rfl rr_ dd_ ?_))
    refine ao x_ rfl (.tmp _ _ rfl) (fun _ => ?_)
    exact Fin.flat rfl
end
def aL.tw (lo : Nat) (x : aL) : List TV := [.int .i64 x.mark, .int .i64 x.code, .int .i64 x.pc, .int .i64 x.sender, .int .i64 x.outer, .int .i64 x.home, .int .i64 x.self.kind, .int .i64 x.self.number, .str x.self.text, .sl lo 3 (x.slots.map (aC.tw lo)), .sl lo 3 (x.stack.map (aC.tw lo)), .sl lo 3 (x.values.map (aC.tw lo)), .int .i64 x.other, .bool x.retry]
def aL.small (n : Nat) (x : aL) : Prop := (aC.small n x.self) ∧ (x.slots.length ≤ n ∧ ∀ y ∈ x.slots, aC.small n y) ∧ (x.stack.length ≤ n ∧ ∀ y ∈ x.stack, aC.small n y) ∧ (x.values.length ≤ n ∧ ∀ y ∈ x.values, aC.small n y)
def aL.tz : List TV := [.int .i64 0, .int .i64 0, .int .i64 0, .int .i64 0, .int .i64 0, .int .i64 0, .int .i64 0, .int .i64 0, .str ⟨#[]⟩, .nils, .nils, .nils, .int .i64 0, .bool false]
theorem aL.fin (B K : Nat) (objs : bp) (x : aL) : fR B objs K (x.tw B) (x.tw K) := .cons (.flat rfl) (.cons (.flat rfl) (.cons (.flat rfl) (.cons (.flat rfl) (.cons (.flat rfl) (.cons (.flat rfl) (.cons (.flat rfl) (.cons (.flat rfl) (.cons (.flat rfl) (.cons (ci (fun x => aC.fin B K objs x) _) (.cons (ci (fun x => aC.fin B K objs x) _) (.cons (ci (fun x => aC.fin B K objs x) _) (.cons (.flat rfl) (.cons (.flat rfl) (.nil))))))))))))))
theorem aL.len (lo : Nat) (l : List aL) : (l.map (aL.tw lo)).length = l.length := by simp
section
variable {G : World → Prop}
theorem pa (hst : aY G) (lo : Nat) (x : aL) (left : Int) (h : 0 ≤ left ∧ left ≤ 1048576) (hb : x.small 9223372036854775807) : CtM Tryz.prog G 155 [.agg (x.tw lo), .int .i64 left] [] (fun y : Int => -1 ≤ y ∧ y ≤ left ∧ (0 ≤ y → x.small 1048576)) (fun _ => []) (fun y => .int .i64 y) := by
  refine bB Tryz.func155 rfl Tryz.ntmps155 rfl rfl rfl fun w0 R gs objsR hG hR => ?_
  obtain rfl := hR.inv0
  clear hR
  unfold aL.small at hb
  skip
  unfold aL.tw
  repeat' (first | ((with_reducible apply o_y); exact y_; rfl) | refine bf ?_ | ((with_reducible apply bE); rfl; kernel_rfl; (repeat (first | exact bA.nil | ((with_reducible apply bA.cons); rfl))); exact hG; exact f6 hst lo x.self _ (by omega) hb.1; exact .nil _; intro y1 hy1; refine bI ?_) | ((with_reducible apply bE); rfl; kernel_rfl; (repeat (first | exact bA.nil | ((with_reducible apply bA.cons); rfl))); exact hG; exact fu hst lo x.slots _ (by omega) hb.2.1; exact .nil _; intro y2 hy2; refine bI ?_) | ((with_reducible apply bE); rfl; kernel_rfl; (repeat (first | exact bA.nil | ((with_reducible apply bA.cons); rfl))); exact hG; exact fu hst lo x.stack _ (by omega) hb.2.2.1; exact .nil _; intro y3 hy3; refine bI ?_) | ((with_reducible apply bE); rfl; kernel_rfl; (repeat (first | exact bA.nil | ((with_reducible apply bA.cons); rfl))); exact hG; exact fu hst lo x.values _ (by omega) hb.2.2.2; exact .nil _; intro y4 hy4; refine bI ?_) | with_reducible refine ab rfl ?_ | (with_reducible first | apply ag | apply aa | apply ah | apply ac | apply ap | apply au | apply ad) | (refine bD rfl rr_ (fun hc => ?_) (fun hc => ?_)))
  all_goals first
    | exact a8 x_ rfl (-1) ⟨by omega, by omega, fun h => by omega⟩ rfl (.nil R) (.refl _) (.tmp _ _ rfl) rfl
    | (refine a8 x_ rfl _ ⟨?_, ?_, fun _ => ?_⟩ rfl (.nil R) (.refl _) (.tmp _ _ rfl) rfl
       · omega
       · omega
       · exact ⟨hy1.2.2 (by omega), hy2.2.2 (by omega), hy3.2.2 (by omega), hy4.2.2 (by omega)⟩)
theorem mD (hst : aY G) (lo : Nat) (l : List aL) (left : Int) (h : 0 ≤ left ∧ left ≤ 1048576) (hb : l.length ≤ 9223372036854775807 ∧ ∀ y ∈ l, aL.small 9223372036854775807 y) : CtM Tryz.prog G 84 [.sl lo 14 (l.map (aL.tw lo)), .int .i64 left] [] (fun y : Int => -1 ≤ y ∧ y ≤ left ∧ (0 ≤ y → l.length ≤ 1048576 ∧ ∀ y ∈ l, aL.small 1048576 y)) (fun _ => []) (fun y => .int .i64 y) := by
  refine bB Tryz.func84 rfl Tryz.ntmps84 rfl rfl rfl fun w0 R gs objsR hG hR => ?_
  obtain rfl := hR.inv0
  clear hR
  have hlen := aL.len lo l
  have hl1 := hb.1
  by_cases hn : left - l.length < 0
  · repeat' (first | ((with_reducible apply o_y); exact y_; rfl) | with_reducible refine ab rfl ?_ | (with_reducible first | apply ag | apply aa | apply ah | apply ac | apply au | apply ad) | (refine ae rfl rr_ dd_ ?_))
    exact a8 x_ rfl (-1) ⟨by omega, by omega, fun h => by omega⟩ rfl (.nil R) (.refl _) (.tmp _ _ rfl) rfl
  · repeat' (first | ((with_reducible apply o_y); exact y_; rfl) | with_reducible refine ab rfl ?_ | (with_reducible first | apply ag | apply aa | apply ah | apply ac | apply ai | apply ap) | (refine aj rfl rr_ dd_ ?_))
    apply aK (X := Nat × Int) [0, 1000000] (fun x => [(5, .int .i64 (x.1 : Int)), (1, .int .i64 x.2)]) (fun _ => R) (fun x => x.1 ≤ l.length ∧ 0 ≤ x.2 ∧ x.2 ≤ left ∧ ∀ y ∈ l.take x.1, aL.small 1048576 y) (fun x => l.length - x.1) (0, left - l.length) ⟨Nat.zero_le _, by dsimp only; omega, by dsimp only; omega, by simp⟩
    exact kp_; (repeat (first | exact bj.envNil | refine bj.envCons we_ ?_))
    · exact .refl _
    rintro ⟨i, lf⟩ ⟨hi, h0, h1, hs⟩
    dsimp only at hi h0 h1 hs ⊢
    by_cases hlt : i < l.length
    · have hrow : (l.map (aL.tw lo))[i]? = some (l[i].tw lo) := bg hlt
      have hbi := hb.2 _ (List.getElem_mem hlt)
      have hta := bu (p := aL.small 1048576) hlt hs
      generalize l[i] = x at hrow hbi hta
      have hct := pa hst lo x lf (by omega) hbi
      unfold aL.tw at hct
      rw [show x.tw lo = [.int .i64 x.mark, .int .i64 x.code, .int .i64 x.pc, .int .i64 x.sender, .int .i64 x.outer, .int .i64 x.home, .int .i64 x.self.kind, .int .i64 x.self.number, .str x.self.text, .sl lo 3 (x.slots.map (aC.tw lo)), .sl lo 3 (x.stack.map (aC.tw lo)), .sl lo 3 (x.values.map (aC.tw lo)), .int .i64 x.other, .bool x.retry] from rfl] at hrow
      repeat' (first | ((with_reducible apply o_y); exact y_; rfl) | ((with_reducible apply bE); rfl; kernel_rfl; (repeat (first | exact bA.nil | ((with_reducible apply bA.cons); rfl))); exact hG; exact hct; exact .nil _; intro y hy; refine bI ?_) | with_reducible refine ab rfl ?_ | (with_reducible first | apply ag | apply aa | apply ah | apply ac | apply ai | apply ap | apply au | apply ad | apply ak | apply aB) | (refine ae rfl rr_ dd_ ?_) | (refine bD rfl rr_ (fun hc => ?_) (fun hc => ?_)))
      all_goals first
        | exact a8 x_ rfl (-1) ⟨by omega, by omega, fun h => by omega⟩ rfl (.nil R) (.refl _) (.tmp _ _ rfl) rfl
        | exact aG (i + 1, y) ⟨by dsimp only; omega, by dsimp only; omega, by dsimp only; omega, hta (hy.2.2 (by omega))⟩ (by dsimp only; omega) (.of _ nw_ od_ pk_)
    · rw [List.take_of_length_le (by omega)] at hs
      repeat' (first | ((with_reducible apply o_y); exact y_; rfl) | with_reducible refine ab rfl ?_ | (with_reducible first | apply ag | apply aa | apply ah | apply ac | apply aH | apply au | apply ar | apply aq) | (refine aj rfl rr_ dd_ ?_))
      exact a8 x_ rfl lf ⟨by omega, by omega, fun _ => ⟨by omega, hs⟩⟩ rfl (.nil R) (.refl _) (.tmp _ _ rfl) rfl
theorem oF (hst : aY G) (lo : Nat) (x : aL) (hb : x.small 1048576) : Ct Tryz.prog G 169 [.agg (x.tw lo)] (fun K => .agg (x.tw K)) := by
  refine aJ Tryz.func169 rfl Tryz.ntmps169 rfl rfl fun w0 _ hG => ?_
  unfold aL.small at hb
  have hsself := hb.1
  have hsslots := hb.2.1
  have hsstack := hb.2.2.1
  have hsvalues := hb.2.2.2
  repeat' (first | ((with_reducible apply o_y); exact y_; rfl) | refine bf ?_ | (refine aI ?_; intro ss bb) | refine aA ?_ | refine aw hG hst (gl hst lo x.self (hsself)) ?_ | refine aw hG hst (e6 hst lo x.slots (hsslots)) ?_ | refine aw hG hst (e6 hst lo x.stack (hsstack)) ?_ | refine aw hG hst (e6 hst lo x.values (hsvalues)) ?_ | with_reducible refine ab rfl ?_ | (with_reducible first | apply ag | apply aa | apply ah | apply ac | apply au))
  refine ao x_ rfl (.cell _ _ _ _ _ rfl mm_ (by kernel_rfl) (by kernel_rfl) (by kernel_rfl)) (fun _ => ?_)
  exact dE (aL.fin _ _ _ x)
theorem mg (hst : aY G) (lo : Nat) (l : List aL) (hb : l.length ≤ 1048576 ∧ ∀ y ∈ l, aL.small 1048576 y) : Ct Tryz.prog G 91 [.sl lo 14 (l.map (aL.tw lo))] (fun K => .sl K 14 (l.map (aL.tw K))) := by
  refine aJ Tryz.func91 rfl Tryz.ntmps91 rfl rfl fun w0 _ hG => ?_
  have hlen := aL.len lo l
  have hl1 := hb.1
  have h0 := cx (aL.tw w0.heap.size) aL.tz l
  repeat' (first | ((with_reducible apply o_y); exact y_; rfl) | (refine eQ ?_; intro ss bb) | with_reducible refine ab rfl ?_ | (with_reducible first | apply ag | apply aa | apply ah | apply ac | apply ai))
  apply aK (X := Nat) [0, 3] (fun i => [(4, .int .i64 (i : Int))]) (fun i => [(ss, bb, .row 14 (dw (aL.tw w0.heap.size) aL.tz l i))]) (fun i => i ≤ l.length) (fun i => l.length - i) 0 (Nat.zero_le _)
  exact kp_; (repeat (first | exact bj.envNil | refine bj.envCons we_ ?_))
  · rw [← h0]; exact .refl _
  intro i hi
  try dsimp only
  by_cases hlt : i < l.length
  · obtain ⟨hrow, hset⟩ := cN (aL.tw w0.heap.size) aL.tz hlt
    have hra : (l.map (aL.tw lo))[i]? = some (l[i].tw lo) := bg hlt
    have hbi := hb.2 _ (List.getElem_mem hlt)
    generalize l[i] = x at hset hra hbi
    have hct := oF hst lo x hbi
    unfold aL.tw at hct
    rw [show x.tw lo = [.int .i64 x.mark, .int .i64 x.code, .int .i64 x.pc, .int .i64 x.sender, .int .i64 x.outer, .int .i64 x.home, .int .i64 x.self.kind, .int .i64 x.self.number, .str x.self.text, .sl lo 3 (x.slots.map (aC.tw lo)), .sl lo 3 (x.stack.map (aC.tw lo)), .sl lo 3 (x.values.map (aC.tw lo)), .int .i64 x.other, .bool x.retry] from rfl] at hra
    replace hrow : (dw (aL.tw w0.heap.size) aL.tz l i)[i]? = some [.int .i64 0, .int .i64 0, .int .i64 0, .int .i64 0, .int .i64 0, .int .i64 0, .int .i64 0, .int .i64 0, .str ⟨#[]⟩, .nils, .nils, .nils, .int .i64 0, .bool false] := hrow
    repeat' (first | ((with_reducible apply o_y); exact y_; rfl) | refine aw hG hst (hct) ?_ | refine cE ?_ | with_reducible refine ab rfl ?_ | (with_reducible first | apply ag | apply aa | apply ah | apply ac | apply ai | apply ap | apply aB) | (refine ae rfl rr_ dd_ ?_))
    refine aG (i + 1) (by omega) (by omega) (.of _ nw_ od_ (by rw [← hset]; exact .refl _))
  · obtain rfl : i = l.length := by omega
    rw [cA]
    repeat' (first | ((with_reducible apply o_y); exact y_; rfl) | with_reducible refine ab rfl ?_ | (with_reducible first | apply ag | apply aa | apply ah | apply ac | apply aH | apply au | apply ar | apply aq) | (refine aj rfl rr_ dd_ ?_))
    refine ao x_ rfl (.tmp _ _ rfl) (fun _ => ?_)
    exact eZ (fun x => aL.fin _ _ _ x) List.mem_cons_self
theorem nX (hst : aY G) (l1 l2 : Nat) (x : aL) (hb : x.small 1048576) : Ct Tryz.prog G 146 [.agg (x.tw l1), .agg (x.tw l2)] (fun _ => .bool true) := by
  refine aJ Tryz.func146 rfl Tryz.ntmps146 rfl rfl fun w0 _ hG => ?_
  unfold aL.small at hb
  have hsself := hb.1
  have hsslots := hb.2.1
  have hsstack := hb.2.2.1
  have hsvalues := hb.2.2.2
  unfold aL.tw
  repeat' (first | ((with_reducible apply o_y); exact y_; rfl) | refine bf ?_ | refine aw hG hst (gf hst l1 l2 x.self hsself) ?_ | refine aw hG hst (e9 hst l1 l2 x.slots hsslots) ?_ | refine aw hG hst (e9 hst l1 l2 x.stack hsstack) ?_ | refine aw hG hst (e9 hst l1 l2 x.values hsvalues) ?_ | with_reducible refine ab rfl ?_ | (with_reducible first | apply ag | apply aa | apply ah | apply ac | apply ap | apply au | apply ad) | refine az rfl rr_ ?_ | (refine aj rfl rr_ dd_ ?_) | (refine cf rfl rr_ (fun hc => ?_) (fun hc => ?_)))
  all_goals first
    | (exfalso; simp at hc; done)
    | (refine ao x_ rfl (.tmp _ _ rfl) (fun _ => ?_)
       exact Fin.flat rfl)
theorem mQ (hst : aY G) (l1 l2 : Nat) (l : List aL) (hb : l.length ≤ 1048576 ∧ ∀ y ∈ l, aL.small 1048576 y) : Ct Tryz.prog G 68 [.sl l1 14 (l.map (aL.tw l1)), .sl l2 14 (l.map (aL.tw l2))] (fun _ => .bool true) := by
  refine aJ Tryz.func68 rfl Tryz.ntmps68 rfl rfl fun w0 _ hG => ?_
  have hlen := aL.len l1 l
  have hlen2 := aL.len l2 l
  have hl1 := hb.1
  repeat' (first | ((with_reducible apply o_y); exact y_; rfl) | with_reducible refine ab rfl ?_ | (with_reducible first | apply ag | apply aa | apply ah | apply ac | apply ai | apply ap) | (refine aj rfl rr_ dd_ ?_))
  apply aK (X := Nat) [0, 1] (fun i => [(5, .int .i64 (i : Int))]) (fun _ => []) (fun i => i ≤ l.length) (fun i => l.length - i) 0 (Nat.zero_le _)
  exact kp_; (repeat (first | exact bj.envNil | refine bj.envCons we_ ?_))
  · exact .refl _
  intro i hi
  try dsimp only
  by_cases hlt : i < l.length
  · have hr1 : (l.map (aL.tw l1))[i]? = some (l[i].tw l1) := bg hlt
    have hr2 : (l.map (aL.tw l2))[i]? = some (l[i].tw l2) := bg hlt
    have hbi := hb.2 _ (List.getElem_mem hlt)
    generalize l[i] = x at hr1 hr2 hbi
    have hct := nX hst l1 l2 x hbi
    unfold aL.tw at hct
    rw [show x.tw l1 = [.int .i64 x.mark, .int .i64 x.code, .int .i64 x.pc, .int .i64 x.sender, .int .i64 x.outer, .int .i64 x.home, .int .i64 x.self.kind, .int .i64 x.self.number, .str x.self.text, .sl l1 3 (x.slots.map (aC.tw l1)), .sl l1 3 (x.stack.map (aC.tw l1)), .sl l1 3 (x.values.map (aC.tw l1)), .int .i64 x.other, .bool x.retry] from rfl] at hr1
    rw [show x.tw l2 = [.int .i64 x.mark, .int .i64 x.code, .int .i64 x.pc, .int .i64 x.sender, .int .i64 x.outer, .int .i64 x.home, .int .i64 x.self.kind, .int .i64 x.self.number, .str x.self.text, .sl l2 3 (x.slots.map (aC.tw l2)), .sl l2 3 (x.stack.map (aC.tw l2)), .sl l2 3 (x.values.map (aC.tw l2)), .int .i64 x.other, .bool x.retry] from rfl] at hr2
    repeat' (first | ((with_reducible apply o_y); exact y_; rfl) | with_reducible refine aF (by kernel_rfl) (by kernel_rfl) ?_ | with_reducible refine aN ?_ | with_reducible refine aE rfl ?_ | ((with_reducible apply d_y); exact y_; rfl) | refine ay hG hst (hct) ?_ | with_reducible refine ab rfl ?_ | (with_reducible first | apply ag | apply aa | apply ah | apply ac | apply ai | apply ap | apply aB) | refine az rfl rr_ ?_ | (refine ae rfl rr_ dd_ ?_))
    exact aG (i + 1) (by omega) (by omega) (.of _ nw_ od_ pk_)
  · repeat' (first | ((with_reducible apply o_y); exact y_; rfl) | with_reducible refine ab rfl ?_ | (with_reducible first | apply ag | apply aa | apply ah | apply ac | apply aH | apply au | apply ar | apply aq) | (refine aj rfl rr_ dd_ ?_))
    refine ao x_ rfl (.tmp _ _ rfl) (fun _ => ?_)
    exact Fin.flat rfl
end
def aU.tw (_lo : Nat) (x : aU) : List TV := [.int .i64 x.at_, .bool x.main]
def aU.small (_n : Nat) (_x : aU) : Prop := True
def aU.tz : List TV := [.int .i64 0, .bool false]
theorem aU.fin (B K : Nat) (objs : bp) (x : aU) : fR B objs K (x.tw B) (x.tw K) := .cons (.flat rfl) (.cons (.flat rfl) (.nil))
theorem aU.len (lo : Nat) (l : List aU) : (l.map (aU.tw lo)).length = l.length := by simp
section
variable {G : World → Prop}
theorem mM (_ : aY G) (lo : Nat) (l : List aU) (left : Int) (h : 0 ≤ left ∧ left ≤ 1048576) (hb : l.length ≤ 9223372036854775807 ∧ ∀ y ∈ l, aU.small 9223372036854775807 y) : CtM Tryz.prog G 85 [.sl lo 2 (l.map (aU.tw lo)), .int .i64 left] [] (fun y : Int => -1 ≤ y ∧ y ≤ left ∧ (0 ≤ y → l.length ≤ 1048576 ∧ ∀ y ∈ l, aU.small 1048576 y)) (fun _ => []) (fun y => .int .i64 y) := by
  refine bB Tryz.func85 rfl Tryz.ntmps85 rfl rfl rfl fun w0 R gs objsR hG hR => ?_
  obtain rfl := hR.inv0
  clear hR
  have hlen := aU.len lo l
  have hl1 := hb.1
  by_cases hn : left - l.length < 0
  · repeat' (first | ((with_reducible apply o_y); exact y_; rfl) | with_reducible refine ab rfl ?_ | (with_reducible first | apply ag | apply aa | apply ah | apply ac | apply au | apply ad) | (refine ae rfl rr_ dd_ ?_))
    exact a8 x_ rfl (-1) ⟨by omega, by omega, fun h => by omega⟩ rfl (.nil R) (.refl _) (.tmp _ _ rfl) rfl
  · repeat' (first | ((with_reducible apply o_y); exact y_; rfl) | with_reducible refine ab rfl ?_ | (with_reducible first | apply ag | apply aa | apply ah | apply ac | apply ap | apply au) | (refine aj rfl rr_ dd_ ?_))
    exact a8 x_ rfl (left - l.length) ⟨by omega, by omega, fun _ => ⟨by omega, fun _ _ => trivial⟩⟩ rfl (.nil R) (.refl _) (.tmp _ _ rfl) rfl
theorem nB (_hst : aY G) (lo : Nat) (x : aU) (_hb : x.small 1048576) : Ct Tryz.prog G 170 [.agg (x.tw lo)] (fun K => .agg (x.tw K)) := by
  refine aJ Tryz.func170 rfl Tryz.ntmps170 rfl rfl fun w0 _ hG => ?_
  unfold aU.small at _hb
  skip
  repeat' (first | ((with_reducible apply o_y); exact y_; rfl) | refine bf ?_ | (refine aI ?_; intro ss bb) | refine aA ?_ | with_reducible refine ab rfl ?_ | (with_reducible first | apply ag | apply aa | apply ah | apply ac | apply au))
  refine ao x_ rfl (.cell _ _ _ _ _ rfl mm_ (by kernel_rfl) (by kernel_rfl) (by kernel_rfl)) (fun _ => ?_)
  exact dE (aU.fin _ _ _ x)
theorem mf (hst : aY G) (lo : Nat) (l : List aU) (hb : l.length ≤ 1048576 ∧ ∀ y ∈ l, aU.small 1048576 y) : Ct Tryz.prog G 92 [.sl lo 2 (l.map (aU.tw lo))] (fun K => .sl K 2 (l.map (aU.tw K))) := by
  refine aJ Tryz.func92 rfl Tryz.ntmps92 rfl rfl fun w0 _ hG => ?_
  have hlen := aU.len lo l
  have hl1 := hb.1
  have h0 := cx (aU.tw w0.heap.size) aU.tz l
  repeat' (first | ((with_reducible apply o_y); exact y_; rfl) | (refine eQ ?_; intro ss bb) | with_reducible refine ab rfl ?_ | (with_reducible first | apply ag | apply aa | apply ah | apply ac | apply ai))
  apply aK (X := Nat) [0, 3] (fun i => [(4, .int .i64 (i : Int))]) (fun i => [(ss, bb, .row 2 (dw (aU.tw w0.heap.size) aU.tz l i))]) (fun i => i ≤ l.length) (fun i => l.length - i) 0 (Nat.zero_le _)
  exact kp_; (repeat (first | exact bj.envNil | refine bj.envCons we_ ?_))
  · rw [← h0]; exact .refl _
  intro i hi
  try dsimp only
  by_cases hlt : i < l.length
  · obtain ⟨hrow, hset⟩ := cN (aU.tw w0.heap.size) aU.tz hlt
    have hra : (l.map (aU.tw lo))[i]? = some (l[i].tw lo) := bg hlt
    have hbi := hb.2 _ (List.getElem_mem hlt)
    generalize l[i] = x at hset hra hbi
    have hct := nB hst lo x hbi
    unfold aU.tw at hct
    rw [show x.tw lo = [.int .i64 x.at_, .bool x.main] from rfl] at hra
    replace hrow : (dw (aU.tw w0.heap.size) aU.tz l i)[i]? = some [.int .i64 0, .bool false] := hrow
    repeat' (first | ((with_reducible apply o_y); exact y_; rfl) | refine aw hG hst (hct) ?_ | refine cE ?_ | with_reducible refine ab rfl ?_ | (with_reducible first | apply ag | apply aa | apply ah | apply ac | apply ai | apply ap | apply aB) | (refine ae rfl rr_ dd_ ?_))
    refine aG (i + 1) (by omega) (by omega) (.of _ nw_ od_ (by rw [← hset]; exact .refl _))
  · obtain rfl : i = l.length := by omega
    rw [cA]
    repeat' (first | ((with_reducible apply o_y); exact y_; rfl) | with_reducible refine ab rfl ?_ | (with_reducible first | apply ag | apply aa | apply ah | apply ac | apply aH | apply au | apply ar | apply aq) | (refine aj rfl rr_ dd_ ?_))
    refine ao x_ rfl (.tmp _ _ rfl) (fun _ => ?_)
    exact eZ (fun x => aU.fin _ _ _ x) List.mem_cons_self
theorem oI (_hst : aY G) (l1 l2 : Nat) (x : aU) (_hb : x.small 1048576) : Ct Tryz.prog G 147 [.agg (x.tw l1), .agg (x.tw l2)] (fun _ => .bool true) := by
  refine aJ Tryz.func147 rfl Tryz.ntmps147 rfl rfl fun w0 _ hG => ?_
  unfold aU.small at _hb
  skip
  unfold aU.tw
  repeat' (first | ((with_reducible apply o_y); exact y_; rfl) | refine bf ?_ | with_reducible refine ab rfl ?_ | (with_reducible first | apply ag | apply aa | apply ah | apply ac | apply ap | apply au | apply ad) | (refine aj rfl rr_ dd_ ?_) | (refine cf rfl rr_ (fun hc => ?_) (fun hc => ?_)))
  all_goals first
    | (exfalso; simp at hc; done)
    | (refine ao x_ rfl (.tmp _ _ rfl) (fun _ => ?_)
       exact Fin.flat rfl)
theorem nu (hst : aY G) (l1 l2 : Nat) (l : List aU) (hb : l.length ≤ 1048576 ∧ ∀ y ∈ l, aU.small 1048576 y) : Ct Tryz.prog G 69 [.sl l1 2 (l.map (aU.tw l1)), .sl l2 2 (l.map (aU.tw l2))] (fun _ => .bool true) := by
  refine aJ Tryz.func69 rfl Tryz.ntmps69 rfl rfl fun w0 _ hG => ?_
  have hlen := aU.len l1 l
  have hlen2 := aU.len l2 l
  have hl1 := hb.1
  repeat' (first | ((with_reducible apply o_y); exact y_; rfl) | with_reducible refine ab rfl ?_ | (with_reducible first | apply ag | apply aa | apply ah | apply ac | apply ai | apply ap) | (refine aj rfl rr_ dd_ ?_))
  apply aK (X := Nat) [0, 1] (fun i => [(5, .int .i64 (i : Int))]) (fun _ => []) (fun i => i ≤ l.length) (fun i => l.length - i) 0 (Nat.zero_le _)
  exact kp_; (repeat (first | exact bj.envNil | refine bj.envCons we_ ?_))
  · exact .refl _
  intro i hi
  try dsimp only
  by_cases hlt : i < l.length
  · have hr1 : (l.map (aU.tw l1))[i]? = some (l[i].tw l1) := bg hlt
    have hr2 : (l.map (aU.tw l2))[i]? = some (l[i].tw l2) := bg hlt
    have hbi := hb.2 _ (List.getElem_mem hlt)
    generalize l[i] = x at hr1 hr2 hbi
    have hct := oI hst l1 l2 x hbi
    unfold aU.tw at hct
    rw [show x.tw l1 = [.int .i64 x.at_, .bool x.main] from rfl] at hr1
    rw [show x.tw l2 = [.int .i64 x.at_, .bool x.main] from rfl] at hr2
    repeat' (first | ((with_reducible apply o_y); exact y_; rfl) | with_reducible refine aF (by kernel_rfl) (by kernel_rfl) ?_ | with_reducible refine aN ?_ | with_reducible refine aE rfl ?_ | ((with_reducible apply d_y); exact y_; rfl) | refine ay hG hst (hct) ?_ | with_reducible refine ab rfl ?_ | (with_reducible first | apply ag | apply aa | apply ah | apply ac | apply ai | apply ap | apply aB) | refine az rfl rr_ ?_ | (refine ae rfl rr_ dd_ ?_))
    exact aG (i + 1) (by omega) (by omega) (.of _ nw_ od_ pk_)
  · repeat' (first | ((with_reducible apply o_y); exact y_; rfl) | with_reducible refine ab rfl ?_ | (with_reducible first | apply ag | apply aa | apply ah | apply ac | apply aH | apply au | apply ar | apply aq) | (refine aj rfl rr_ dd_ ?_))
    refine ao x_ rfl (.tmp _ _ rfl) (fun _ => ?_)
    exact Fin.flat rfl
end
def aM.tw (lo : Nat) (x : aM) : List TV := [.sl lo 3 (x.base.classes.map (am.tw lo)), .sl lo 4 (x.base.codes.map (aT.tw lo)), .sl lo 4 (x.base.entries.map (aW.tw lo)), .int .i64 x.base.main, .sl lo 3 (x.store.classes.map (am.tw lo)), .sl lo 4 (x.store.objects.map (aR.tw lo)), .sl lo 1 (cL x.store.output), .int .i64 x.store.ticks, .int .i64 x.store.budget, .int .i64 x.store.made, .sl lo 6 (x.blocks.map (aQ.tw lo)), .sl lo 14 (x.contexts.map (aL.tw lo)), .sl lo 2 (x.processes.map (aU.tw lo)), .sl lo 1 (bv x.ready), .int .i64 x.now, .int .i64 x.status, .int .i64 x.value.kind, .int .i64 x.value.number, .str x.value.text, .str x.fault]
def aM.small (n : Nat) (x : aM) : Prop := (ba.small n x.base) ∧ (br.small n x.store) ∧ (x.blocks.length ≤ n ∧ ∀ y ∈ x.blocks, aQ.small n y) ∧ (x.contexts.length ≤ n ∧ ∀ y ∈ x.contexts, aL.small n y) ∧ (x.processes.length ≤ n ∧ ∀ y ∈ x.processes, aU.small n y) ∧ (x.ready.length ≤ n) ∧ (aC.small n x.value) ∧ (x.fault.size ≤ n)
def aM.tz : List TV := [.nils, .nils, .nils, .int .i64 0, .nils, .nils, .nils, .int .i64 0, .int .i64 0, .int .i64 0, .nils, .nils, .nils, .nils, .int .i64 0, .int .i64 0, .int .i64 0, .int .i64 0, .str ⟨#[]⟩, .str ⟨#[]⟩]
theorem aM.fin (B K : Nat) (objs : bp) (_x : aM) : fR B objs K (_x.tw B) (_x.tw K) := .cons (ci (fun _x => am.fin B K objs _x) _) (.cons (ci (fun _x => aT.fin B K objs _x) _) (.cons (ci (fun _x => aW.fin B K objs _x) _) (.cons (.flat rfl) (.cons (ci (fun _x => am.fin B K objs _x) _) (.cons (ci (fun _x => aR.fin B K objs _x) _) (.cons (ci (fun _x => .cons (.flat rfl) .nil) _) (.cons (.flat rfl) (.cons (.flat rfl) (.cons (.flat rfl) (.cons (ci (fun _x => aQ.fin B K objs _x) _) (.cons (ci (fun _x => aL.fin B K objs _x) _) (.cons (ci (fun _x => aU.fin B K objs _x) _) (.cons (ci (fun _x => .cons (.flat rfl) .nil) _) (.cons (.flat rfl) (.cons (.flat rfl) (.cons (.flat rfl) (.cons (.flat rfl) (.cons (.flat rfl) (.cons (.flat rfl) (.nil))))))))))))))))))))
theorem aM.len (lo : Nat) (l : List aM) : (l.map (aM.tw lo)).length = l.length := by simp
section
variable {G : World → Prop}
theorem sT (hst : aY G) (lo : Nat) (x : aM) (left : Int) (h : 0 ≤ left ∧ left ≤ 1048576) (hb : x.small 9223372036854775807) : CtM Tryz.prog G 25 [.agg (x.tw lo), .int .i64 left] [] (fun y : Int => -1 ≤ y ∧ y ≤ left ∧ (0 ≤ y → x.small 1048576)) (fun _ => []) (fun y => .int .i64 y) := by
  refine bB Tryz.func25 rfl Tryz.ntmps25 rfl rfl rfl fun w0 R gs objsR hG hR => ?_
  obtain rfl := hR.inv0
  clear hR
  unfold aM.small at hb
  have hb8 : x.fault.size ≤ 9223372036854775807 := hb.2.2.2.2.2.2.2
  unfold aM.tw
  repeat' (first | ((with_reducible apply o_y); exact y_; rfl) | refine bf ?_ | ((with_reducible apply bE); rfl; kernel_rfl; (repeat (first | exact bA.nil | ((with_reducible apply bA.cons); rfl))); exact hG; exact mU hst lo x.base _ (by omega) hb.1; exact .nil _; intro y1 hy1; refine bI ?_) | ((with_reducible apply bE); rfl; kernel_rfl; (repeat (first | exact bA.nil | ((with_reducible apply bA.cons); rfl))); exact hG; exact sY hst lo x.store _ (by omega) hb.2.1; exact .nil _; intro y2 hy2; refine bI ?_) | ((with_reducible apply bE); rfl; kernel_rfl; (repeat (first | exact bA.nil | ((with_reducible apply bA.cons); rfl))); exact hG; exact mR hst lo x.blocks _ (by omega) hb.2.2.1; exact .nil _; intro y3 hy3; refine bI ?_) | ((with_reducible apply bE); rfl; kernel_rfl; (repeat (first | exact bA.nil | ((with_reducible apply bA.cons); rfl))); exact hG; exact mD hst lo x.contexts _ (by omega) hb.2.2.2.1; exact .nil _; intro y4 hy4; refine bI ?_) | ((with_reducible apply bE); rfl; kernel_rfl; (repeat (first | exact bA.nil | ((with_reducible apply bA.cons); rfl))); exact hG; exact mM hst lo x.processes _ (by omega) hb.2.2.2.2.1; exact .nil _; intro y5 hy5; refine bI ?_) | ((with_reducible apply bE); rfl; kernel_rfl; (repeat (first | exact bA.nil | ((with_reducible apply bA.cons); rfl))); exact hG; exact nF hst lo x.ready _ (by omega) hb.2.2.2.2.2.1; exact .nil _; intro y6 hy6; refine bI ?_) | ((with_reducible apply bE); rfl; kernel_rfl; (repeat (first | exact bA.nil | ((with_reducible apply bA.cons); rfl))); exact hG; exact f6 hst lo x.value _ (by omega) hb.2.2.2.2.2.2.1; exact .nil _; intro y7 hy7; refine bI ?_) | with_reducible refine ab rfl ?_ | (with_reducible first | apply ag | apply aa | apply ah | apply ac | apply ap | apply au | apply ad) | (refine bD rfl rr_ (fun hc => ?_) (fun hc => ?_)))
  all_goals first
    | exact a8 x_ rfl (-1) ⟨by omega, by omega, fun h => by omega⟩ rfl (.nil R) (.refl _) (.tmp _ _ rfl) rfl
    | (refine a8 x_ rfl _ ⟨?_, ?_, fun _ => ?_⟩ rfl (.nil R) (.refl _) (.tmp _ _ rfl) rfl
       · omega
       · omega
       · exact ⟨hy1.2.2 (by omega), hy2.2.2 (by omega), hy3.2.2 (by omega), hy4.2.2 (by omega), hy5.2.2 (by omega), hy6.2.2 (by omega), hy7.2.2 (by omega), by omega⟩)
theorem se (hst : aY G) (lo : Nat) (x : aM) (hb : x.small 1048576) : Ct Tryz.prog G 27 [.agg (x.tw lo)] (fun K => .agg (x.tw K)) := by
  refine aJ Tryz.func27 rfl Tryz.ntmps27 rfl rfl fun w0 _ hG => ?_
  unfold aM.small at hb
  have hsbase := hb.1
  have hsstore := hb.2.1
  have hsblocks := hb.2.2.1
  have hscontexts := hb.2.2.2.1
  have hsprocesses := hb.2.2.2.2.1
  have hsready := hb.2.2.2.2.2.1
  have hsvalue := hb.2.2.2.2.2.2.1
  repeat' (first | ((with_reducible apply o_y); exact y_; rfl) | refine bf ?_ | (refine aI ?_; intro ss bb) | refine aA ?_ | refine aw hG hst (mW hst lo x.base (hsbase)) ?_ | refine aw hG hst (sZ hst lo x.store (hsstore)) ?_ | refine aw hG hst (nd hst lo x.blocks (hsblocks)) ?_ | refine aw hG hst (mg hst lo x.contexts (hscontexts)) ?_ | refine aw hG hst (mf hst lo x.processes (hsprocesses)) ?_ | refine aw hG hst (ol hst lo x.ready (hsready)) ?_ | refine aw hG hst (gl hst lo x.value (hsvalue)) ?_ | with_reducible refine ab rfl ?_ | (with_reducible first | apply ag | apply aa | apply ah | apply ac | apply au))
  refine ao x_ rfl (.cell _ _ _ _ _ rfl mm_ (by kernel_rfl) (by kernel_rfl) (by kernel_rfl)) (fun _ => ?_)
  exact dE (aM.fin _ _ _ x)
theorem rS (hst : aY G) (l1 l2 : Nat) (x : aM) (hb : x.small 1048576) : Ct Tryz.prog G 22 [.agg (x.tw l1), .agg (x.tw l2)] (fun _ => .bool true) := by
  refine aJ Tryz.func22 rfl Tryz.ntmps22 rfl rfl fun w0 _ hG => ?_
  unfold aM.small at hb
  have hsbase := hb.1
  have hsstore := hb.2.1
  have hsblocks := hb.2.2.1
  have hscontexts := hb.2.2.2.1
  have hsprocesses := hb.2.2.2.2.1
  have hsready := hb.2.2.2.2.2.1
  have hsvalue := hb.2.2.2.2.2.2.1
  have hnefault : ¬ x.fault ≠ x.fault := fun h => h rfl
  unfold aM.tw
  repeat' (first | ((with_reducible apply o_y); exact y_; rfl) | refine bf ?_ | refine aw hG hst (m6 hst l1 l2 x.base hsbase) ?_ | refine aw hG hst (sB hst l1 l2 x.store hsstore) ?_ | refine aw hG hst (mZ hst l1 l2 x.blocks hsblocks) ?_ | refine aw hG hst (mQ hst l1 l2 x.contexts hscontexts) ?_ | refine aw hG hst (nu hst l1 l2 x.processes hsprocesses) ?_ | refine aw hG hst (nO hst l1 l2 x.ready hsready) ?_ | refine aw hG hst (gf hst l1 l2 x.value hsvalue) ?_ | with_reducible refine ab rfl ?_ | (with_reducible first | apply ag | apply aa | apply ah | apply ac | apply ap | apply au) | refine az rfl rr_ ?_ | (refine aj rfl rr_ dd_ ?_))
  all_goals first
    | (exfalso; simp at hc; done)
    | (refine ao x_ rfl (.tmp _ _ rfl) (fun _ => ?_)
       exact Fin.flat rfl)
end
set_option maxRecDepth 20000
def ei (s : ByteArray) : Bool := (List.range s.size).all (fun j => inR (bat s j) 32 126) && decide (s.size ≤ 200)
def gS (k n : Int) (t : ByteArray) : Bool :=
  if k = 0 then decide (n = 0) && decide (t = ⟨#[]⟩)
  else if k = 1 then inR n 0 1 && decide (t = ⟨#[]⟩)
  else if k = 2 then inR n (-999999999) 999999999 && decide (t = ⟨#[]⟩)
  else if k = 3 then decide (n = 0) && ei t
  else if k = 4 then decide (n = 0) && cm t.data.toList
  else if k = 5 ∨ k = 6 ∨ k = 7 then decide (0 ≤ n) && decide (t = ⟨#[]⟩)
  else false
theorem qS (k : Int) : k = 0 ∨ k = 1 ∨ k = 2 ∨ k = 3 ∨ k = 4 ∨ k = 5 ∨ k = 6 ∨ k = 7 ∨ (¬ k = 0 ∧ ¬ k = 1 ∧ ¬ k = 2 ∧ ¬ k = 3 ∧ ¬ k = 4 ∧ ¬ k = 5 ∧ ¬ k = 6 ∧ ¬ k = 7) := by omega
theorem ww {s : ByteArray} (h : ∀ j, j < s.size → inR (bat s j) 32 126 = true) : ei s = decide (s.size ≤ 200) := by
  unfold ei
  rw [List.all_eq_true.2 fun j hj => h j (List.mem_range.1 hj), Bool.true_and]
theorem t7 {s : ByteArray} {j : Nat} (hj : j < s.size) (h : inR (bat s j) 32 126 = false) : ei s = false := by
  unfold ei
  have : (List.range s.size).all (fun j => inR (bat s j) 32 126) = false := by
    rw [Bool.eq_false_iff]
    intro h2
    have := List.all_eq_true.1 h2 j (List.mem_range.2 hj)
    rw [h] at this; cases this
  rw [this, Bool.false_and]
theorem vc {s : ByteArray} (h : 200 < s.size) : ei s = false := by
  unfold ei
  rw [decide_eq_false (by omega), Bool.and_false]
section
variable {G : World → Prop}
theorem kr (hst : aY G) (s : ByteArray) (hs : s.size ≤ 1048576) : Ct Tryz.prog G 98 [.str s] (fun _ => .bool (ei s)) := by
  refine aJ Tryz.func98 rfl Tryz.ntmps98 rfl rfl fun w0 _ hG => ?_
  repeat' (first | ((with_reducible apply o_y); exact y_; rfl) | with_reducible refine ab rfl ?_ | (with_reducible first | apply ag | apply aa | apply ah | apply ac | apply ai))
  apply aK (X := Nat) [0] (fun i => [(3, .int .i64 (i : Int))]) (fun _ => []) (fun i => i ≤ s.size ∧ ∀ j, j < i → inR (bat s j) 32 126 = true) (fun i => s.size - i) 0 ⟨Nat.zero_le _, fun j h => absurd h (Nat.not_lt_zero _)⟩
  exact kp_; (repeat (first | exact bj.envNil | refine bj.envCons we_ ?_))
  · exact .refl _
  rintro i ⟨hi, hall⟩
  try dsimp only
  by_cases hlt : i < s.size
  · have hwi := a7 (G := G) (bat s i) 32 126
    have hbd := q5 s i
    cases hb : inR (bat s i) 32 126 with
    | false =>
      rw [hb] at hwi
      rw [t7 hlt hb]
      repeat' (first | ((with_reducible apply o_y); exact y_; rfl) | refine aw hG hst (hwi) ?_ | with_reducible refine ab rfl ?_ | (with_reducible first | apply ag | apply aa | apply ah | apply ac | apply ai | apply ap | apply au | apply ad | apply ak) | refine av rfl rr_ ?_ | (refine ae rfl rr_ dd_ ?_))
      refine ao x_ rfl (.tmp _ _ rfl) (fun _ => ?_)
      exact Fin.flat rfl
    | true =>
      rw [hb] at hwi
      repeat' (first | ((with_reducible apply o_y); exact y_; rfl) | refine aw hG hst (hwi) ?_ | with_reducible refine ab rfl ?_ | (with_reducible first | apply ag | apply aa | apply ah | apply ac | apply ai | apply ap | apply aB) | refine az rfl rr_ ?_ | (refine ae rfl rr_ dd_ ?_))
      exact aG (i + 1) ⟨by omega, fun j hj => by
        rcases Nat.lt_or_ge j i with h | h
        · exact hall j h
        · obtain rfl : j = i := by omega
          exact hb⟩ (by omega) (.of _ nw_ od_ pk_)
  · obtain rfl : i = s.size := by omega
    rw [ww hall]
    repeat' (first | ((with_reducible apply o_y); exact y_; rfl) | with_reducible refine ab rfl ?_ | (with_reducible first | apply ag | apply aa | apply ah | apply ac | apply aH | apply au | apply ar | apply aq) | (refine aj rfl rr_ dd_ ?_))
    refine ao x_ rfl (.tmp _ _ rfl) (fun _ => ?_)
    exact aZ (by rw [decide_eq_decide]; omega)
end
theorem kY (k n : Int) (t : ByteArray) (ht : t.size ≤ 1048576) : Ct Tryz.prog GL 172 [.agg [.int .i64 k, .int .i64 n, .str t]] (fun _ => .bool (gS k n t)) := by
  refine aJ Tryz.func172 rfl Tryz.ntmps172 rfl rfl fun w0 _ hG => ?_
  have hst := cZ
  have h1 := a7 (G := GL) n 0 1
  have h2 := a7 (G := GL) n (-999999999) 999999999
  have h3 := kr (G := GL) hst t ht
  have h4 := zA t ht
  rcases qS k with rfl | rfl | rfl | rfl | rfl | rfl | rfl | rfl | ⟨g0, g1, g2, g3, g4, g5, g6, g7⟩
  · have e : gS 0 n t = (decide (n = 0) && decide (t = ⟨#[]⟩)) := rfl
    rw [e]
    repeat' (first | ((with_reducible apply o_y); exact y_; rfl) | refine bf ?_ | with_reducible refine ab rfl ?_ | (with_reducible first | apply ag | apply aa | apply ah | apply ac | apply ai | apply au | apply ad | apply ak) | refine aP rfl rfl rfl rr_ ?_ | refine aO rfl rfl rfl rr_ rfl rfl rfl ?_ | (refine bm rfl rfl rfl rr_ (fun hg => ?_) (fun hg => ?_)) | (refine ae rfl rr_ dd_ ?_))
    all_goals
      refine ao x_ rfl (.tmp _ _ rfl) (fun _ => ?_)
      exact aZ (by simp [*])
  · have e : gS 1 n t = (inR n 0 1 && decide (t = ⟨#[]⟩)) := rfl
    rw [e]
    generalize inR n 0 1 = b at h1 ⊢
    cases b
    all_goals
      repeat' (first | ((with_reducible apply o_y); exact y_; rfl) | refine bf ?_ | refine aw hG hst (h1) ?_ | with_reducible refine ab rfl ?_ | (with_reducible first | apply ag | apply aa | apply ah | apply ac | apply ai | apply au | apply ad | apply ak) | refine aP rfl rfl rfl rr_ ?_ | refine aO rfl rfl rfl rr_ rfl rfl rfl ?_ | (refine ae rfl rr_ dd_ ?_) | (refine aj rfl rr_ dd_ ?_))
      refine ao x_ rfl (.tmp _ _ rfl) (fun _ => ?_)
      exact aZ (by simp [*])
  · have e : gS 2 n t = (inR n (-999999999) 999999999 && decide (t = ⟨#[]⟩)) := rfl
    rw [e]
    generalize inR n (-999999999) 999999999 = b at h2 ⊢
    cases b
    all_goals
      repeat' (first | ((with_reducible apply o_y); exact y_; rfl) | refine bf ?_ | refine aw hG hst (h2) ?_ | with_reducible refine ab rfl ?_ | (with_reducible first | apply ag | apply aa | apply ah | apply ac | apply ai | apply au | apply ad | apply ak) | refine aP rfl rfl rfl rr_ ?_ | refine aO rfl rfl rfl rr_ rfl rfl rfl ?_ | (refine ae rfl rr_ dd_ ?_) | (refine aj rfl rr_ dd_ ?_))
      refine ao x_ rfl (.tmp _ _ rfl) (fun _ => ?_)
      exact aZ (by simp [*])
  · have e : gS 3 n t = (decide (n = 0) && ei t) := rfl
    rw [e]
    repeat' (first | ((with_reducible apply o_y); exact y_; rfl) | refine bf ?_ | refine aw hG hst (h3) ?_ | with_reducible refine ab rfl ?_ | (with_reducible first | apply ag | apply aa | apply ah | apply ac | apply ai | apply au | apply ad | apply ak) | refine aP rfl rfl rfl rr_ ?_ | refine aO rfl rfl rfl rr_ rfl rfl rfl ?_ | (refine bm rfl rfl rfl rr_ (fun hg => ?_) (fun hg => ?_)) | (refine ae rfl rr_ dd_ ?_) | (refine aj rfl rr_ dd_ ?_))
    all_goals
      refine ao x_ rfl (.tmp _ _ rfl) (fun _ => ?_)
      exact aZ (by simp [*])
  · have e : gS 4 n t = (decide (n = 0) && cm t.data.toList) := rfl
    rw [e]
    repeat' (first | ((with_reducible apply o_y); exact y_; rfl) | refine bf ?_ | refine aw hG hst (h4) ?_ | with_reducible refine ab rfl ?_ | (with_reducible first | apply ag | apply aa | apply ah | apply ac | apply ai | apply au | apply ad | apply ak) | refine aP rfl rfl rfl rr_ ?_ | refine aO rfl rfl rfl rr_ rfl rfl rfl ?_ | (refine bm rfl rfl rfl rr_ (fun hg => ?_) (fun hg => ?_)) | (refine ae rfl rr_ dd_ ?_) | (refine aj rfl rr_ dd_ ?_))
    all_goals
      refine ao x_ rfl (.tmp _ _ rfl) (fun _ => ?_)
      exact aZ (by simp [*])
  · have e : gS 5 n t = (decide (0 ≤ n) && decide (t = ⟨#[]⟩)) := rfl
    rw [e]
    repeat' (first | ((with_reducible apply o_y); exact y_; rfl) | refine bf ?_ | with_reducible refine ab rfl ?_ | (with_reducible first | apply ag | apply aa | apply ah | apply ac | apply ai | apply ap | apply au | apply ad | apply ak) | refine aP rfl rfl rfl rr_ ?_ | refine aO rfl rfl rfl rr_ rfl rfl rfl ?_ | (refine bm rfl rfl rfl rr_ (fun hg => ?_) (fun hg => ?_)) | (refine ae rfl rr_ dd_ ?_) | (refine aj rfl rr_ dd_ ?_))
    all_goals
      refine ao x_ rfl (.tmp _ _ rfl) (fun _ => ?_)
      exact aZ (by simp [*])
  · have e : gS 6 n t = (decide (0 ≤ n) && decide (t = ⟨#[]⟩)) := rfl
    rw [e]
    repeat' (first | ((with_reducible apply o_y); exact y_; rfl) | refine bf ?_ | with_reducible refine ab rfl ?_ | (with_reducible first | apply ag | apply aa | apply ah | apply ac | apply ai | apply ap | apply au | apply ad | apply ak) | refine aP rfl rfl rfl rr_ ?_ | refine aO rfl rfl rfl rr_ rfl rfl rfl ?_ | (refine bm rfl rfl rfl rr_ (fun hg => ?_) (fun hg => ?_)) | (refine ae rfl rr_ dd_ ?_) | (refine aj rfl rr_ dd_ ?_))
    all_goals
      refine ao x_ rfl (.tmp _ _ rfl) (fun _ => ?_)
      exact aZ (by simp [*])
  · have e : gS 7 n t = (decide (0 ≤ n) && decide (t = ⟨#[]⟩)) := rfl
    rw [e]
    repeat' (first | ((with_reducible apply o_y); exact y_; rfl) | refine bf ?_ | with_reducible refine ab rfl ?_ | (with_reducible first | apply ag | apply aa | apply ah | apply ac | apply ai | apply au | apply ad | apply ak) | refine aP rfl rfl rfl rr_ ?_ | refine aO rfl rfl rfl rr_ rfl rfl rfl ?_ | (refine bm rfl rfl rfl rr_ (fun hg => ?_) (fun hg => ?_)) | (refine ae rfl rr_ dd_ ?_) | (refine aj rfl rr_ dd_ ?_))
    all_goals
      refine ao x_ rfl (.tmp _ _ rfl) (fun _ => ?_)
      exact aZ (by simp [*])
  · have e : gS k n t = false := by
      unfold gS
      rw [if_neg g0, if_neg g1, if_neg g2, if_neg g3, if_neg g4, if_neg (by omega)]
    rw [e]
    repeat' (first | ((with_reducible apply o_y); exact y_; rfl) | refine bf ?_ | with_reducible refine ab rfl ?_ | (with_reducible first | apply ag | apply aa | apply ah | apply ac | apply ai | apply ap | apply au | apply aB) | (refine aj rfl rr_ dd_ ?_))
    refine ao x_ rfl (.tmp _ _ rfl) (fun _ => ?_)
    exact Fin.flat rfl
theorem eK (k n : Int) (t : ByteArray) (ht : t.size ≤ 1048576) : Ct Tryz.prog GL 159 [.agg [.int .i64 k, .int .i64 n, .str t]] (fun _ => .bool (gS k n t)) := by
  refine aJ Tryz.func159 rfl Tryz.ntmps159 rfl rfl fun w0 _ hG => ?_
  have hst := cZ
  have h1 := bz (G := GL) n 0 1
  have h2 := bz (G := GL) n (-999999999) 999999999
  have h4 := y8 t ht
  rcases qS k with rfl | rfl | rfl | rfl | rfl | rfl | rfl | rfl | ⟨g0, g1, g2, g3, g4, g5, g6, g7⟩
  · have e : gS 0 n t = (decide (n = 0) && decide (t = ⟨#[]⟩)) := rfl
    rw [e]
    repeat' (first | ((with_reducible apply o_y); exact y_; rfl) | refine bf ?_ | with_reducible refine ab rfl ?_ | (with_reducible first | apply ag | apply aa | apply ah | apply ac | apply ai | apply au | apply ad | apply ak) | refine aP rfl rfl rfl rr_ ?_ | refine aO rfl rfl rfl rr_ rfl rfl rfl ?_ | (refine bm rfl rfl rfl rr_ (fun hg => ?_) (fun hg => ?_)) | (refine ae rfl rr_ dd_ ?_))
    all_goals
      refine ao x_ rfl (.tmp _ _ rfl) (fun _ => ?_)
      exact aZ (by simp [*])
  · have e : gS 1 n t = (inR n 0 1 && decide (t = ⟨#[]⟩)) := rfl
    rw [e]
    generalize inR n 0 1 = b at h1 ⊢
    cases b
    all_goals
      repeat' (first | ((with_reducible apply o_y); exact y_; rfl) | refine bf ?_ | refine aw hG hst (h1) ?_ | with_reducible refine ab rfl ?_ | (with_reducible first | apply ag | apply aa | apply ah | apply ac | apply ai | apply au | apply ad | apply ak) | refine aP rfl rfl rfl rr_ ?_ | refine aO rfl rfl rfl rr_ rfl rfl rfl ?_ | (refine ae rfl rr_ dd_ ?_) | (refine aj rfl rr_ dd_ ?_))
      refine ao x_ rfl (.tmp _ _ rfl) (fun _ => ?_)
      exact aZ (by simp [*])
  · have e : gS 2 n t = (inR n (-999999999) 999999999 && decide (t = ⟨#[]⟩)) := rfl
    rw [e]
    generalize inR n (-999999999) 999999999 = b at h2 ⊢
    cases b
    all_goals
      repeat' (first | ((with_reducible apply o_y); exact y_; rfl) | refine bf ?_ | refine aw hG hst (h2) ?_ | with_reducible refine ab rfl ?_ | (with_reducible first | apply ag | apply aa | apply ah | apply ac | apply ai | apply au | apply ad | apply ak) | refine aP rfl rfl rfl rr_ ?_ | refine aO rfl rfl rfl rr_ rfl rfl rfl ?_ | (refine ae rfl rr_ dd_ ?_) | (refine aj rfl rr_ dd_ ?_))
      refine ao x_ rfl (.tmp _ _ rfl) (fun _ => ?_)
      exact aZ (by simp [*])
  · have e : gS 3 n t = (decide (n = 0) && ei t) := rfl
    rw [e]
    by_cases hn : n = 0
    case neg =>
      have hn2 : n ≠ 0 := hn
      rw [decide_eq_false hn, Bool.false_and]
      repeat' (first | ((with_reducible apply o_y); exact y_; rfl) | refine bf ?_ | with_reducible refine ab rfl ?_ | (with_reducible first | apply ag | apply aa | apply ah | apply ac | apply ai | apply au | apply ad | apply ak) | refine aO rfl rfl rfl rr_ rfl rfl rfl ?_ | (refine bQ rfl rfl rfl rr_ dd_ ?_) | refine av rfl rr_ ?_ | (refine ae rfl rr_ dd_ ?_) | (refine aj rfl rr_ dd_ ?_))
      refine ao x_ rfl (.tmp _ _ rfl) (fun _ => ?_)
      exact Fin.flat rfl
    subst hn
    have hn2 : ¬ ((0 : Int) ≠ 0) := fun h => h rfl
    rw [decide_eq_true rfl, Bool.true_and]
    by_cases hl : 200 < t.size
    · rw [vc hl]
      repeat' (first | ((with_reducible apply o_y); exact y_; rfl) | refine bf ?_ | with_reducible refine ab rfl ?_ | (with_reducible first | apply ag | apply aa | apply ah | apply ac | apply ai | apply au | apply ad | apply ak) | refine aP rfl rfl rfl rr_ ?_ | (refine bC rfl rfl rfl rr_ dd_ ?_) | (refine ae rfl rr_ dd_ ?_) | (refine aj rfl rr_ dd_ ?_))
      refine ao x_ rfl (.tmp _ _ rfl) (fun _ => ?_)
      exact Fin.flat rfl
    repeat' (first | ((with_reducible apply o_y); exact y_; rfl) | refine bf ?_ | with_reducible refine ab rfl ?_ | (with_reducible first | apply ag | apply aa | apply ah | apply ac | apply ai | apply ap) | refine aP rfl rfl rfl rr_ ?_ | (refine bC rfl rfl rfl rr_ dd_ ?_) | (refine ae rfl rr_ dd_ ?_) | (refine aj rfl rr_ dd_ ?_))
    apply aK (X := Nat) [1] (fun i => [(3, .int .i64 (i : Int))]) (fun _ => []) (fun i => i ≤ t.size ∧ ∀ j, j < i → inR (bat t j) 32 126 = true) (fun i => t.size - i) 0 ⟨Nat.zero_le _, fun j h => absurd h (Nat.not_lt_zero _)⟩
    exact kp_; (repeat (first | exact bj.envNil | refine bj.envCons we_ ?_))
    · exact .refl _
    rintro i ⟨hi, hall⟩
    try dsimp only
    by_cases hlt : i < t.size
    · have hbd := q5 t i
      by_cases hlo : bat t i < 32
      · rw [t7 hlt (show inR (bat t i) 32 126 = false by simp only [inR, decide_eq_false_iff_not]; omega)]
        repeat' (first | ((with_reducible apply o_y); exact y_; rfl) | with_reducible refine ab rfl ?_ | (with_reducible first | apply ag | apply aa | apply ah | apply ac | apply ai | apply ap | apply au | apply ad | apply ak) | refine aO rfl rfl rfl rr_ rfl rfl rfl ?_ | (refine bQ rfl rfl rfl rr_ dd_ ?_) | refine av rfl rr_ ?_ | (refine ae rfl rr_ dd_ ?_))
        refine ao x_ rfl (.tmp _ _ rfl) (fun _ => ?_)
        exact Fin.flat rfl
      by_cases hhi : bat t i > 126
      · rw [t7 hlt (show inR (bat t i) 32 126 = false by simp only [inR, decide_eq_false_iff_not]; omega)]
        repeat' (first | ((with_reducible apply o_y); exact y_; rfl) | with_reducible refine ab rfl ?_ | (with_reducible first | apply ag | apply aa | apply ah | apply ac | apply ai | apply ap | apply au | apply ad | apply ak) | refine aP rfl rfl rfl rr_ ?_ | (refine bC rfl rfl rfl rr_ dd_ ?_) | (refine ae rfl rr_ dd_ ?_))
        refine ao x_ rfl (.tmp _ _ rfl) (fun _ => ?_)
        exact Fin.flat rfl
      · repeat' (first | ((with_reducible apply o_y); exact y_; rfl) | with_reducible refine ab rfl ?_ | (with_reducible first | apply ag | apply aa | apply ah | apply ac | apply ai | apply ap | apply aB) | refine aP rfl rfl rfl rr_ ?_ | (refine bC rfl rfl rfl rr_ dd_ ?_) | (refine ae rfl rr_ dd_ ?_) | (refine aj rfl rr_ dd_ ?_))
        exact aG (i + 1) ⟨by omega, fun j hj => by
          rcases Nat.lt_or_ge j i with h | h
          · exact hall j h
          · obtain rfl : j = i := by omega
            simp only [inR, decide_eq_true_eq]; omega⟩ (by omega) (.of _ nw_ od_ pk_)
    · obtain rfl : i = t.size := by omega
      rw [ww hall, decide_eq_true (by omega)]
      repeat' (first | ((with_reducible apply o_y); exact y_; rfl) | with_reducible refine ab rfl ?_ | (with_reducible first | apply ag | apply aa | apply ah | apply ac | apply aH | apply au | apply ar | apply aq | apply ad | apply ak) | (refine aj rfl rr_ dd_ ?_))
      refine ao x_ rfl (.tmp _ _ rfl) (fun _ => ?_)
      exact Fin.flat rfl
  · have e : gS 4 n t = (decide (n = 0) && cm t.data.toList) := rfl
    rw [e]
    repeat' (first | ((with_reducible apply o_y); exact y_; rfl) | refine bf ?_ | refine aw hG hst (h4) ?_ | with_reducible refine ab rfl ?_ | (with_reducible first | apply ag | apply aa | apply ah | apply ac | apply ai | apply au | apply ad | apply ak) | refine aP rfl rfl rfl rr_ ?_ | refine aO rfl rfl rfl rr_ rfl rfl rfl ?_ | (refine bm rfl rfl rfl rr_ (fun hg => ?_) (fun hg => ?_)) | (refine ae rfl rr_ dd_ ?_) | (refine aj rfl rr_ dd_ ?_))
    all_goals
      refine ao x_ rfl (.tmp _ _ rfl) (fun _ => ?_)
      exact aZ (by simp [*])
  · have e : gS 5 n t = (decide (0 ≤ n) && decide (t = ⟨#[]⟩)) := rfl
    rw [e]
    repeat' (first | ((with_reducible apply o_y); exact y_; rfl) | refine bf ?_ | with_reducible refine ab rfl ?_ | (with_reducible first | apply ag | apply aa | apply ah | apply ac | apply ai | apply ap | apply au | apply ad | apply ak) | refine aP rfl rfl rfl rr_ ?_ | refine aO rfl rfl rfl rr_ rfl rfl rfl ?_ | (refine bm rfl rfl rfl rr_ (fun hg => ?_) (fun hg => ?_)) | (refine ae rfl rr_ dd_ ?_) | (refine aj rfl rr_ dd_ ?_))
    all_goals
      refine ao x_ rfl (.tmp _ _ rfl) (fun _ => ?_)
      exact aZ (by simp [*])
  · have e : gS 6 n t = (decide (0 ≤ n) && decide (t = ⟨#[]⟩)) := rfl
    rw [e]
    repeat' (first | ((with_reducible apply o_y); exact y_; rfl) | refine bf ?_ | with_reducible refine ab rfl ?_ | (with_reducible first | apply ag | apply aa | apply ah | apply ac | apply ai | apply ap | apply au | apply ad | apply ak) | refine aP rfl rfl rfl rr_ ?_ | refine aO rfl rfl rfl rr_ rfl rfl rfl ?_ | (refine bm rfl rfl rfl rr_ (fun hg => ?_) (fun hg => ?_)) | (refine ae rfl rr_ dd_ ?_) | (refine aj rfl rr_ dd_ ?_))
    all_goals
      refine ao x_ rfl (.tmp _ _ rfl) (fun _ => ?_)
      exact aZ (by simp [*])
  · have e : gS 7 n t = (decide (0 ≤ n) && decide (t = ⟨#[]⟩)) := rfl
    rw [e]
    repeat' (first | ((with_reducible apply o_y); exact y_; rfl) | refine bf ?_ | with_reducible refine ab rfl ?_ | (with_reducible first | apply ag | apply aa | apply ah | apply ac | apply ai | apply au | apply ad | apply ak) | refine aP rfl rfl rfl rr_ ?_ | refine aO rfl rfl rfl rr_ rfl rfl rfl ?_ | (refine bm rfl rfl rfl rr_ (fun hg => ?_) (fun hg => ?_)) | (refine ae rfl rr_ dd_ ?_) | (refine aj rfl rr_ dd_ ?_))
    all_goals
      refine ao x_ rfl (.tmp _ _ rfl) (fun _ => ?_)
      exact aZ (by simp [*])
  · have e : gS k n t = false := by
      unfold gS
      rw [if_neg g0, if_neg g1, if_neg g2, if_neg g3, if_neg g4, if_neg (by omega)]
    rw [e]
    repeat' (first | ((with_reducible apply o_y); exact y_; rfl) | refine bf ?_ | with_reducible refine ab rfl ?_ | (with_reducible first | apply ag | apply aa | apply ah | apply ac | apply ai | apply ap | apply au | apply aB) | (refine aj rfl rr_ dd_ ?_))
    refine ao x_ rfl (.tmp _ _ rfl) (fun _ => ?_)
    exact Fin.flat rfl
end Go.Proofs.YthpdkhejeookhaaGreatDoor
