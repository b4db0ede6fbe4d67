/- Part 7 of the proof: the texts LwT, IvA, DepP, DepF, SdA, Ints, DepG. -/
import Derived.Test.YthpdkhejeookhaaGreatDoorPart6
import Derived.Test.YthpdkhejeookhaaGreatDoorPart5
import Derived.Test.YthpdkhejeookhaaGreatDoorPart1
import Derived.Test.YthpdkhejeookhaaGreatDoorPart2
import Derived.Test.YthpdkhejeookhaaGreatDoorChecked
import Derived.Deep.QuietTactic
import Derived.BigQuiet
/- The laws' own helpers sz, to, eq, walked (frozen copies). Written by gen_lw.py. -/
namespace Go.Proofs.YthpdkhejeookhaaGreatDoor
set_option maxRecDepth 20000
open Go Go.RowKit
theorem bu {α : Type} {p : α → Prop} {l : List α} {i : Nat} (h : i < l.length) (ha : ∀ y ∈ l.take i, p y) (hx : p l[i]) : ∀ y ∈ l.take (i + 1), p y := fun y hy => by
  rw [List.take_add_one, List.getElem?_eq_getElem h] at hy
  rcases List.mem_append.1 hy with hy | hy
  · exact ha y hy
  · simp at hy; subst hy; exact hx
def dw {α : Type} (tw : α → List TV) (z : List TV) (l : List α) (i : Nat) : List (List TV) := (l.take i).map tw ++ List.replicate (l.length - i) z
theorem cx {α : Type} (tw : α → List TV) (z : List TV) (l : List α) : List.replicate l.length z = dw tw z l 0 := by simp [dw]
theorem cA {α : Type} (tw : α → List TV) (z : List TV) (l : List α) : dw tw z l l.length = l.map tw := by simp [dw]
theorem cN {α : Type} (tw : α → List TV) (z : List TV) {l : List α} {i : Nat} (h : i < l.length) : (dw tw z l i)[i]? = some z ∧ (dw tw z l i).set i (tw l[i]) = dw tw z l (i + 1) := by
  have e : l.length - i = (l.length - (i + 1)) + 1 := by omega
  have hl : ((l.take i).map tw).length = i := by simp; omega
  unfold dw
  refine ⟨?_, ?_⟩
  · rw [List.getElem?_append_right (by omega), hl, Nat.sub_self, e, List.replicate_succ]; rfl
  · rw [List.set_append_right _ _ (by omega), hl, Nat.sub_self, e, List.replicate_succ, List.set_cons_zero, show l.take (i + 1) = l.take i ++ [l[i]] from by rw [List.take_add_one, List.getElem?_eq_getElem h]; rfl, List.map_append, List.append_assoc]
    rfl
def fR (B : Nat) (objs : bp) (K : Nat) (l l' : List TV) : Prop := l'.length = l.length ∧ ∀ (j : Nat) (t t' : TV), l[j]? = some t → l'[j]? = some t' → Fin B objs K t t'
theorem fR.nil {B : Nat} {objs : bp} {K : Nat} : fR B objs K [] [] := ⟨rfl, by simp⟩
theorem fR.cons {B : Nat} {objs : bp} {K : Nat} {t t' : TV} {l l' : List TV} (h : Fin B objs K t t') (hr : fR B objs K l l') : fR B objs K (t :: l) (t' :: l') := ⟨by simp [hr.1], fun j u u' h1 h2 => by
  cases j with
  | zero => simp at h1 h2; subst h1; subst h2; exact h
  | succ j => exact hr.2 j u u' (by simpa using h1) (by simpa using h2)⟩
theorem fR.append {B : Nat} {objs : bp} {K : Nat} {a a' b b' : List TV} (h : fR B objs K a a') (k : fR B objs K b b') : fR B objs K (a ++ b) (a' ++ b') := ⟨by simp [h.1, k.1], fun j u u' h1 h2 => by
  by_cases hj : j < a.length
  · rw [List.getElem?_append_left hj] at h1
    rw [List.getElem?_append_left (by rw [h.1]; exact hj)] at h2
    exact h.2 j u u' h1 h2
  · rw [List.getElem?_append_right (by omega)] at h1
    rw [List.getElem?_append_right (by rw [h.1]; omega)] at h2
    rw [h.1] at h2
    exact k.2 _ u u' h1 h2⟩
theorem fR.rows {α : Type} {B : Nat} {objs : bp} {K : Nat} {f f' : α → List TV} (h : ∀ x, fR B objs K (f x) (f' x)) : ∀ l : List α, fR B objs K (l.map f).flatten (l.map f').flatten
  | [] => .nil
  | x :: r => by simpa using (h x).append (fR.rows h r)
theorem fR.lens {α : Type} {f f' : α → List TV} (h : ∀ x, (f' x).length = (f x).length) (l : List α) : (l.map f').map List.length = (l.map f).map List.length := by
  induction l with
  | nil => rfl
  | cons x r ih => simpa [h x] using ih
theorem ci {α : Type} {B : Nat} {objs : bp} {K m : Nat} {f f' : α → List TV} (h : ∀ x, fR B objs K (f x) (f' x)) (l : List α) : Fin B objs K (.sl B m (l.map f)) (.sl K m (l.map f')) :=
  .sl B m _ _ (Nat.le_refl _) (fR.lens (fun x => (h x).1) l) (fR.rows h l).2
theorem eZ {α : Type} {B : Nat} {objs : bp} {K s b m : Nat} {f f' : α → List TV} (h : ∀ x, fR B objs K (f x) (f' x)) {l : List α} (hm : (s, b, ca.row m (l.map f)) ∈ objs) : Fin B objs K (.ms s b 0 l.length) (.sl K m (l.map f')) :=
  .ms s b 0 l.length m _ (l.map f) _ hm (by simp) (by rw [List.drop_zero, List.take_of_length_le (by simp)]) (fR.lens (fun x => (h x).1) l) (fR.rows h l).2
theorem dE {B : Nat} {objs : bp} {K : Nat} {l l' : List TV} (h : fR B objs K l l') : Fin B objs K (.agg l) (.agg l') := .agg l l' h.1 h.2
theorem dr {l : List ByteArray} {i : Nat} (h : i < l.length) : (cL l)[i]? = some [.str l[i]] := bg h
theorem bX (l : List ByteArray) : (cL l).length = l.length := by simp [cL]
section
variable {G : World → Prop}
theorem jg (lo : Nat) (l : List ByteArray) (left : Int) (h : 0 ≤ left ∧ left ≤ 1048576) (hb : l.length ≤ 9223372036854775807 ∧ ∀ y ∈ l, ByteArray.size y ≤ 9223372036854775807) : CtM Tryz.prog G 153 [.sl lo 1 (cL l), .int .i64 left] [] (fun y : Int => -1 ≤ y ∧ y ≤ left ∧ (0 ≤ y → l.length ≤ 1048576 ∧ ∀ y ∈ l, ByteArray.size y ≤ 1048576)) (fun _ => []) (fun y => .int .i64 y) := by
  refine bB Tryz.func153 rfl Tryz.ntmps153 rfl rfl rfl fun w0 R gs objsR hG hR => ?_
  obtain rfl := hR.inv0
  clear hR
  have hlen := bX l
  have hl1 := hb.1
  by_cases hn : left - l.length < 0
  · repeat' (first | ((with_reducible apply o_y); exact y_; rfl) | with_reducible refine ab rfl ?_ | (with_reducible first | apply ag | apply aa | apply ah | apply ac | apply au | apply ad) | (refine ae rfl rr_ dd_ ?_))
    exact a8 x_ rfl (-1) ⟨by omega, by omega, fun h => by omega⟩ rfl (.nil R) (.refl _) (.tmp _ _ rfl) rfl
  · repeat' (first | ((with_reducible apply o_y); exact y_; rfl) | with_reducible refine ab rfl ?_ | (with_reducible first | apply ag | apply aa | apply ah | apply ac | apply ai | apply ap) | (refine aj rfl rr_ dd_ ?_))
    apply aK (X := Nat × Int) [0, 1000000] (fun x => [(5, .int .i64 (x.1 : Int)), (1, .int .i64 x.2)]) (fun _ => R) (fun x => x.1 ≤ l.length ∧ 0 ≤ x.2 ∧ x.2 ≤ left ∧ ∀ y ∈ l.take x.1, ByteArray.size y ≤ 1048576) (fun x => l.length - x.1) (0, left - l.length) ⟨Nat.zero_le _, by dsimp only; omega, by dsimp only; omega, by simp⟩
    exact kp_; (repeat (first | exact bj.envNil | refine bj.envCons we_ ?_))
    · exact .refl _
    rintro ⟨i, lf⟩ ⟨hi, h0, h1, hs⟩
    dsimp only at hi h0 h1 hs ⊢
    by_cases hlt : i < l.length
    · have hrow := dr hlt
      have hbi := hb.2 _ (List.getElem_mem hlt)
      have hta := bu (p := fun y => ByteArray.size y ≤ 1048576) hlt hs
      generalize l[i] = x at hrow hbi hta
      repeat' (first | ((with_reducible apply o_y); exact y_; rfl) | with_reducible refine ab rfl ?_ | (with_reducible first | apply ag | apply aa | apply ah | apply ac | apply ai | apply ap | apply au | apply ad | apply ak | apply aB) | (refine ae rfl rr_ dd_ ?_) | (refine bD rfl rr_ (fun hc => ?_) (fun hc => ?_)))
      all_goals first
        | exact a8 x_ rfl (-1) ⟨by omega, by omega, fun h => by omega⟩ rfl (.nil R) (.refl _) (.tmp _ _ rfl) rfl
        | exact aG (i + 1, lf - x.size) ⟨by dsimp only; omega, by dsimp only; omega, by dsimp only; omega, hta (by omega)⟩ (by dsimp only; omega) (.of _ nw_ od_ pk_)
    · rw [List.take_of_length_le (by omega)] at hs
      repeat' (first | ((with_reducible apply o_y); exact y_; rfl) | with_reducible refine ab rfl ?_ | (with_reducible first | apply ag | apply aa | apply ah | apply ac | apply aH | apply au | apply ar | apply aq) | (refine aj rfl rr_ dd_ ?_))
      exact a8 x_ rfl lf ⟨by omega, by omega, fun _ => ⟨by omega, hs⟩⟩ rfl (.nil R) (.refl _) (.tmp _ _ rfl) rfl
theorem jf (_hst : aY G) (lo : Nat) (l : List ByteArray) (hn : l.length ≤ 1048576) : Ct Tryz.prog G 167 [.sl lo 1 (cL l)] (fun K => .sl K 1 (cL l)) := by
  refine aJ Tryz.func167 rfl Tryz.ntmps167 rfl rfl fun w0 _ hG => ?_
  have hlen := bX l
  have h0 := cx (fun s : ByteArray => [TV.str s]) [.str ⟨#[]⟩] l
  repeat' (first | ((with_reducible apply o_y); exact y_; rfl) | (refine eQ ?_; intro ss bb) | with_reducible refine ab rfl ?_ | (with_reducible first | apply ag | apply aa | apply ah | apply ac | apply ai))
  apply aK (X := Nat) [0, 3] (fun i => [(4, .int .i64 (i : Int))]) (fun i => [(ss, bb, .row 1 (dw (fun s : ByteArray => [TV.str s]) [.str ⟨#[]⟩] l i))]) (fun i => i ≤ l.length) (fun i => l.length - i) 0 (Nat.zero_le _)
  exact kp_; (repeat (first | exact bj.envNil | refine bj.envCons we_ ?_))
  · rw [← h0]; exact .refl _
  intro i hi
  try dsimp only
  by_cases hlt : i < l.length
  · obtain ⟨hrow, hset⟩ := cN (fun s : ByteArray => [TV.str s]) [.str ⟨#[]⟩] hlt
    have hra := dr hlt
    generalize l[i] = x at hset hra
    try dsimp only at hset
    repeat' (first | ((with_reducible apply o_y); exact y_; rfl) | refine cE ?_ | with_reducible refine ab rfl ?_ | (with_reducible first | apply ag | apply aa | apply ah | apply ac | apply ai | apply ap | apply aB) | (refine ae rfl rr_ dd_ ?_))
    refine aG (i + 1) (by omega) (by omega) (.of _ nw_ od_ (by rw [← hset]; exact .refl _))
  · obtain rfl : i = l.length := by omega
    rw [cA]
    repeat' (first | ((with_reducible apply o_y); exact y_; rfl) | with_reducible refine ab rfl ?_ | (with_reducible first | apply ag | apply aa | apply ah | apply ac | apply aH | apply au | apply ar | apply aq) | (refine aj rfl rr_ dd_ ?_))
    refine ao x_ rfl (.tmp _ _ rfl) (fun _ => ?_)
    exact eZ (fun x => .cons (.flat rfl) .nil) List.mem_cons_self
theorem js (l1 l2 : Nat) (l : List ByteArray) (hn : l.length ≤ 1048576) : Ct Tryz.prog G 144 [.sl l1 1 (cL l), .sl l2 1 (cL l)] (fun _ => .bool true) := by
  refine aJ Tryz.func144 rfl Tryz.ntmps144 rfl rfl fun w0 _ hG => ?_
  have hlen := bX l
  repeat' (first | ((with_reducible apply o_y); exact y_; rfl) | with_reducible refine ab rfl ?_ | (with_reducible first | apply ag | apply aa | apply ah | apply ac | apply ai | apply ap) | (refine aj rfl rr_ dd_ ?_))
  apply aK (X := Nat) [0, 1] (fun i => [(5, .int .i64 (i : Int))]) (fun _ => []) (fun i => i ≤ l.length) (fun i => l.length - i) 0 (Nat.zero_le _)
  exact kp_; (repeat (first | exact bj.envNil | refine bj.envCons we_ ?_))
  · exact .refl _
  intro i hi
  try dsimp only
  by_cases hlt : i < l.length
  · have hrow := dr hlt
    generalize l[i] = x at hrow
    have hx : ¬ x ≠ x := fun h => h rfl
    repeat' (first | ((with_reducible apply o_y); exact y_; rfl) | with_reducible refine aF (by kernel_rfl) (by kernel_rfl) ?_ | with_reducible refine aN ?_ | with_reducible refine aE rfl ?_ | ((with_reducible apply d_y); exact y_; rfl) | with_reducible refine ab rfl ?_ | (with_reducible first | apply ag | apply aa | apply ah | apply ac | apply ai | apply ap | apply aB) | (refine ae rfl rr_ dd_ ?_) | (refine aj rfl rr_ dd_ ?_))
    exact aG (i + 1) (by omega) (by omega) (.of _ nw_ od_ pk_)
  · repeat' (first | ((with_reducible apply o_y); exact y_; rfl) | with_reducible refine ab rfl ?_ | (with_reducible first | apply ag | apply aa | apply ah | apply ac | apply aH | apply au | apply ar | apply aq) | (refine aj rfl rr_ dd_ ?_))
    refine ao x_ rfl (.tmp _ _ rfl) (fun _ => ?_)
    exact Fin.flat rfl
end
def aD.tw (_lo : Nat) (x : aD) : List TV := [.int .i64 x.op, .int .i64 x.a, .int .i64 x.b, .str x.text]
def aD.small (n : Nat) (x : aD) : Prop := (x.text.size ≤ n)
def aD.tz : List TV := [.int .i64 0, .int .i64 0, .int .i64 0, .str ⟨#[]⟩]
theorem aD.fin (B K : Nat) (objs : bp) (x : aD) : fR B objs K (x.tw B) (x.tw K) := .cons (.flat rfl) (.cons (.flat rfl) (.cons (.flat rfl) (.cons (.flat rfl) (.nil))))
theorem aD.len (lo : Nat) (l : List aD) : (l.map (aD.tw lo)).length = l.length := by simp
section
variable {G : World → Prop}
theorem sr (_hst : aY G) (lo : Nat) (x : aD) (left : Int) (h : 0 ≤ left ∧ left ≤ 1048576) (hb : x.small 9223372036854775807) : CtM Tryz.prog G 218 [.agg (x.tw lo), .int .i64 left] [] (fun y : Int => -1 ≤ y ∧ y ≤ left ∧ (0 ≤ y → x.small 1048576)) (fun _ => []) (fun y => .int .i64 y) := by
  refine bB Tryz.func218 rfl Tryz.ntmps218 rfl rfl rfl fun w0 R gs objsR hG hR => ?_
  obtain rfl := hR.inv0
  clear hR
  unfold aD.small at hb
  have hb1 : x.text.size ≤ 9223372036854775807 := hb
  unfold aD.tw
  repeat' (first | ((with_reducible apply o_y); exact y_; rfl) | refine bf ?_ | with_reducible refine ab rfl ?_ | (with_reducible first | apply ag | apply aa | apply ah | apply ac | apply ap | apply au | apply ad) | (refine bD rfl rr_ (fun hc => ?_) (fun hc => ?_)))
  all_goals first
    | exact a8 x_ rfl (-1) ⟨by omega, by omega, fun h => by omega⟩ rfl (.nil R) (.refl _) (.tmp _ _ rfl) rfl
    | (refine a8 x_ rfl _ ⟨?_, ?_, fun _ => ?_⟩ rfl (.nil R) (.refl _) (.tmp _ _ rfl) rfl
       · omega
       · omega
       · show _ ≤ _; omega)
theorem qm (hst : aY G) (lo : Nat) (l : List aD) (left : Int) (h : 0 ≤ left ∧ left ≤ 1048576) (hb : l.length ≤ 9223372036854775807 ∧ ∀ y ∈ l, aD.small 9223372036854775807 y) : CtM Tryz.prog G 178 [.sl lo 4 (l.map (aD.tw lo)), .int .i64 left] [] (fun y : Int => -1 ≤ y ∧ y ≤ left ∧ (0 ≤ y → l.length ≤ 1048576 ∧ ∀ y ∈ l, aD.small 1048576 y)) (fun _ => []) (fun y => .int .i64 y) := by
  refine bB Tryz.func178 rfl Tryz.ntmps178 rfl rfl rfl fun w0 R gs objsR hG hR => ?_
  obtain rfl := hR.inv0
  clear hR
  have hlen := aD.len lo l
  have hl1 := hb.1
  by_cases hn : left - l.length < 0
  · repeat' (first | ((with_reducible apply o_y); exact y_; rfl) | with_reducible refine ab rfl ?_ | (with_reducible first | apply ag | apply aa | apply ah | apply ac | apply au | apply ad) | (refine ae rfl rr_ dd_ ?_))
    exact a8 x_ rfl (-1) ⟨by omega, by omega, fun h => by omega⟩ rfl (.nil R) (.refl _) (.tmp _ _ rfl) rfl
  · repeat' (first | ((with_reducible apply o_y); exact y_; rfl) | with_reducible refine ab rfl ?_ | (with_reducible first | apply ag | apply aa | apply ah | apply ac | apply ai | apply ap) | (refine aj rfl rr_ dd_ ?_))
    apply aK (X := Nat × Int) [0, 1000000] (fun x => [(5, .int .i64 (x.1 : Int)), (1, .int .i64 x.2)]) (fun _ => R) (fun x => x.1 ≤ l.length ∧ 0 ≤ x.2 ∧ x.2 ≤ left ∧ ∀ y ∈ l.take x.1, aD.small 1048576 y) (fun x => l.length - x.1) (0, left - l.length) ⟨Nat.zero_le _, by dsimp only; omega, by dsimp only; omega, by simp⟩
    exact kp_; (repeat (first | exact bj.envNil | refine bj.envCons we_ ?_))
    · exact .refl _
    rintro ⟨i, lf⟩ ⟨hi, h0, h1, hs⟩
    dsimp only at hi h0 h1 hs ⊢
    by_cases hlt : i < l.length
    · have hrow : (l.map (aD.tw lo))[i]? = some (l[i].tw lo) := bg hlt
      have hbi := hb.2 _ (List.getElem_mem hlt)
      have hta := bu (p := aD.small 1048576) hlt hs
      generalize l[i] = x at hrow hbi hta
      have hct := sr hst lo x lf (by omega) hbi
      unfold aD.tw at hct
      rw [show x.tw lo = [.int .i64 x.op, .int .i64 x.a, .int .i64 x.b, .str x.text] from rfl] at hrow
      repeat' (first | ((with_reducible apply o_y); exact y_; rfl) | ((with_reducible apply bE); rfl; kernel_rfl; (repeat (first | exact bA.nil | ((with_reducible apply bA.cons); rfl))); exact hG; exact hct; exact .nil _; intro y hy; refine bI ?_) | with_reducible refine ab rfl ?_ | (with_reducible first | apply ag | apply aa | apply ah | apply ac | apply ai | apply ap | apply au | apply ad | apply ak | apply aB) | (refine ae rfl rr_ dd_ ?_) | (refine bD rfl rr_ (fun hc => ?_) (fun hc => ?_)))
      all_goals first
        | exact a8 x_ rfl (-1) ⟨by omega, by omega, fun h => by omega⟩ rfl (.nil R) (.refl _) (.tmp _ _ rfl) rfl
        | exact aG (i + 1, y) ⟨by dsimp only; omega, by dsimp only; omega, by dsimp only; omega, hta (hy.2.2 (by omega))⟩ (by dsimp only; omega) (.of _ nw_ od_ pk_)
    · rw [List.take_of_length_le (by omega)] at hs
      repeat' (first | ((with_reducible apply o_y); exact y_; rfl) | with_reducible refine ab rfl ?_ | (with_reducible first | apply ag | apply aa | apply ah | apply ac | apply aH | apply au | apply ar | apply aq) | (refine aj rfl rr_ dd_ ?_))
      exact a8 x_ rfl lf ⟨by omega, by omega, fun _ => ⟨by omega, hs⟩⟩ rfl (.nil R) (.refl _) (.tmp _ _ rfl) rfl
theorem tc (_hst : aY G) (lo : Nat) (x : aD) (_hb : x.small 1048576) : Ct Tryz.prog G 228 [.agg (x.tw lo)] (fun K => .agg (x.tw K)) := by
  refine aJ Tryz.func228 rfl Tryz.ntmps228 rfl rfl fun w0 _ hG => ?_
  unfold aD.small at _hb
  skip
  repeat' (first | ((with_reducible apply o_y); exact y_; rfl) | refine bf ?_ | (refine aI ?_; intro ss bb) | refine aA ?_ | with_reducible refine ab rfl ?_ | (with_reducible first | apply ag | apply aa | apply ah | apply ac | apply au))
  refine ao x_ rfl (.cell _ _ _ _ _ rfl mm_ (by kernel_rfl) (by kernel_rfl) (by kernel_rfl)) (fun _ => ?_)
  exact dE (aD.fin _ _ _ x)
theorem pV (hst : aY G) (lo : Nat) (l : List aD) (hb : l.length ≤ 1048576 ∧ ∀ y ∈ l, aD.small 1048576 y) : Ct Tryz.prog G 186 [.sl lo 4 (l.map (aD.tw lo))] (fun K => .sl K 4 (l.map (aD.tw K))) := by
  refine aJ Tryz.func186 rfl Tryz.ntmps186 rfl rfl fun w0 _ hG => ?_
  have hlen := aD.len lo l
  have hl1 := hb.1
  have h0 := cx (aD.tw w0.heap.size) aD.tz l
  repeat' (first | ((with_reducible apply o_y); exact y_; rfl) | (refine eQ ?_; intro ss bb) | with_reducible refine ab rfl ?_ | (with_reducible first | apply ag | apply aa | apply ah | apply ac | apply ai))
  apply aK (X := Nat) [0, 3] (fun i => [(4, .int .i64 (i : Int))]) (fun i => [(ss, bb, .row 4 (dw (aD.tw w0.heap.size) aD.tz l i))]) (fun i => i ≤ l.length) (fun i => l.length - i) 0 (Nat.zero_le _)
  exact kp_; (repeat (first | exact bj.envNil | refine bj.envCons we_ ?_))
  · rw [← h0]; exact .refl _
  intro i hi
  try dsimp only
  by_cases hlt : i < l.length
  · obtain ⟨hrow, hset⟩ := cN (aD.tw w0.heap.size) aD.tz hlt
    have hra : (l.map (aD.tw lo))[i]? = some (l[i].tw lo) := bg hlt
    have hbi := hb.2 _ (List.getElem_mem hlt)
    generalize l[i] = x at hset hra hbi
    have hct := tc hst lo x hbi
    unfold aD.tw at hct
    rw [show x.tw lo = [.int .i64 x.op, .int .i64 x.a, .int .i64 x.b, .str x.text] from rfl] at hra
    replace hrow : (dw (aD.tw w0.heap.size) aD.tz l i)[i]? = some [.int .i64 0, .int .i64 0, .int .i64 0, .str ⟨#[]⟩] := hrow
    repeat' (first | ((with_reducible apply o_y); exact y_; rfl) | refine aw hG hst (hct) ?_ | refine cE ?_ | with_reducible refine ab rfl ?_ | (with_reducible first | apply ag | apply aa | apply ah | apply ac | apply ai | apply ap | apply aB) | (refine ae rfl rr_ dd_ ?_))
    refine aG (i + 1) (by omega) (by omega) (.of _ nw_ od_ (by rw [← hset]; exact .refl _))
  · obtain rfl : i = l.length := by omega
    rw [cA]
    repeat' (first | ((with_reducible apply o_y); exact y_; rfl) | with_reducible refine ab rfl ?_ | (with_reducible first | apply ag | apply aa | apply ah | apply ac | apply aH | apply au | apply ar | apply aq) | (refine aj rfl rr_ dd_ ?_))
    refine ao x_ rfl (.tmp _ _ rfl) (fun _ => ?_)
    exact eZ (fun x => aD.fin _ _ _ x) List.mem_cons_self
theorem r7 (_hst : aY G) (l1 l2 : Nat) (x : aD) (_hb : x.small 1048576) : Ct Tryz.prog G 236 [.agg (x.tw l1), .agg (x.tw l2)] (fun _ => .bool true) := by
  refine aJ Tryz.func236 rfl Tryz.ntmps236 rfl rfl fun w0 _ hG => ?_
  unfold aD.small at _hb
  have hnetext : ¬ x.text ≠ x.text := fun h => h rfl
  unfold aD.tw
  repeat' (first | ((with_reducible apply o_y); exact y_; rfl) | refine bf ?_ | with_reducible refine ab rfl ?_ | (with_reducible first | apply ag | apply aa | apply ah | apply ac | apply ap | apply au) | (refine aj rfl rr_ dd_ ?_))
  all_goals first
    | (exfalso; simp at hc; done)
    | (refine ao x_ rfl (.tmp _ _ rfl) (fun _ => ?_)
       exact Fin.flat rfl)
theorem qA (hst : aY G) (l1 l2 : Nat) (l : List aD) (hb : l.length ≤ 1048576 ∧ ∀ y ∈ l, aD.small 1048576 y) : Ct Tryz.prog G 196 [.sl l1 4 (l.map (aD.tw l1)), .sl l2 4 (l.map (aD.tw l2))] (fun _ => .bool true) := by
  refine aJ Tryz.func196 rfl Tryz.ntmps196 rfl rfl fun w0 _ hG => ?_
  have hlen := aD.len l1 l
  have hlen2 := aD.len l2 l
  have hl1 := hb.1
  repeat' (first | ((with_reducible apply o_y); exact y_; rfl) | with_reducible refine ab rfl ?_ | (with_reducible first | apply ag | apply aa | apply ah | apply ac | apply ai | apply ap) | (refine aj rfl rr_ dd_ ?_))
  apply aK (X := Nat) [0, 1] (fun i => [(5, .int .i64 (i : Int))]) (fun _ => []) (fun i => i ≤ l.length) (fun i => l.length - i) 0 (Nat.zero_le _)
  exact kp_; (repeat (first | exact bj.envNil | refine bj.envCons we_ ?_))
  · exact .refl _
  intro i hi
  try dsimp only
  by_cases hlt : i < l.length
  · have hr1 : (l.map (aD.tw l1))[i]? = some (l[i].tw l1) := bg hlt
    have hr2 : (l.map (aD.tw l2))[i]? = some (l[i].tw l2) := bg hlt
    have hbi := hb.2 _ (List.getElem_mem hlt)
    generalize l[i] = x at hr1 hr2 hbi
    have hct := r7 hst l1 l2 x hbi
    unfold aD.tw at hct
    rw [show x.tw l1 = [.int .i64 x.op, .int .i64 x.a, .int .i64 x.b, .str x.text] from rfl] at hr1
    rw [show x.tw l2 = [.int .i64 x.op, .int .i64 x.a, .int .i64 x.b, .str x.text] from rfl] at hr2
    repeat' (first | ((with_reducible apply o_y); exact y_; rfl) | with_reducible refine aF (by kernel_rfl) (by kernel_rfl) ?_ | with_reducible refine aN ?_ | with_reducible refine aE rfl ?_ | ((with_reducible apply d_y); exact y_; rfl) | refine ay hG hst (hct) ?_ | with_reducible refine ab rfl ?_ | (with_reducible first | apply ag | apply aa | apply ah | apply ac | apply ai | apply ap | apply aB) | refine az rfl rr_ ?_ | (refine ae rfl rr_ dd_ ?_))
    exact aG (i + 1) (by omega) (by omega) (.of _ nw_ od_ pk_)
  · repeat' (first | ((with_reducible apply o_y); exact y_; rfl) | with_reducible refine ab rfl ?_ | (with_reducible first | apply ag | apply aa | apply ah | apply ac | apply aH | apply au | apply ar | apply aq) | (refine aj rfl rr_ dd_ ?_))
    refine ao x_ rfl (.tmp _ _ rfl) (fun _ => ?_)
    exact Fin.flat rfl
end
def aT.tw (lo : Nat) (x : aT) : List TV := [.bool x.block, .int .i64 x.params, .int .i64 x.slots, .sl lo 4 (x.instrs.map (aD.tw lo))]
def aT.small (n : Nat) (x : aT) : Prop := (x.instrs.length ≤ n ∧ ∀ y ∈ x.instrs, aD.small n y)
def aT.tz : List TV := [.bool false, .int .i64 0, .int .i64 0, .nils]
theorem aT.fin (B K : Nat) (objs : bp) (x : aT) : fR B objs K (x.tw B) (x.tw K) := .cons (.flat rfl) (.cons (.flat rfl) (.cons (.flat rfl) (.cons (ci (fun x => aD.fin B K objs x) _) (.nil))))
theorem aT.len (lo : Nat) (l : List aT) : (l.map (aT.tw lo)).length = l.length := by simp
section
variable {G : World → Prop}
theorem uA (hst : aY G) (lo : Nat) (x : aT) (left : Int) (h : 0 ≤ left ∧ left ≤ 1048576) (hb : x.small 9223372036854775807) : CtM Tryz.prog G 104 [.agg (x.tw lo), .int .i64 left] [] (fun y : Int => -1 ≤ y ∧ y ≤ left ∧ (0 ≤ y → x.small 1048576)) (fun _ => []) (fun y => .int .i64 y) := by
  refine bB Tryz.func104 rfl Tryz.ntmps104 rfl rfl rfl fun w0 R gs objsR hG hR => ?_
  obtain rfl := hR.inv0
  clear hR
  unfold aT.small at hb
  skip
  unfold aT.tw
  repeat' (first | ((with_reducible apply o_y); exact y_; rfl) | refine bf ?_ | ((with_reducible apply bE); rfl; kernel_rfl; (repeat (first | exact bA.nil | ((with_reducible apply bA.cons); rfl))); exact hG; exact qm hst lo x.instrs _ (by omega) hb; exact .nil _; intro y1 hy1; refine bI ?_) | with_reducible refine ab rfl ?_ | (with_reducible first | apply ag | apply aa | apply ah | apply ac | apply ap | apply au | apply ad) | (refine bD rfl rr_ (fun hc => ?_) (fun hc => ?_)))
  all_goals first
    | exact a8 x_ rfl (-1) ⟨by omega, by omega, fun h => by omega⟩ rfl (.nil R) (.refl _) (.tmp _ _ rfl) rfl
    | (refine a8 x_ rfl _ ⟨?_, ?_, fun _ => ?_⟩ rfl (.nil R) (.refl _) (.tmp _ _ rfl) rfl
       · omega
       · omega
       · exact hy1.2.2 (by omega))
theorem sL (hst : aY G) (lo : Nat) (l : List aT) (left : Int) (h : 0 ≤ left ∧ left ≤ 1048576) (hb : l.length ≤ 9223372036854775807 ∧ ∀ y ∈ l, aT.small 9223372036854775807 y) : CtM Tryz.prog G 30 [.sl lo 4 (l.map (aT.tw lo)), .int .i64 left] [] (fun y : Int => -1 ≤ y ∧ y ≤ left ∧ (0 ≤ y → l.length ≤ 1048576 ∧ ∀ y ∈ l, aT.small 1048576 y)) (fun _ => []) (fun y => .int .i64 y) := by
  refine bB Tryz.func30 rfl Tryz.ntmps30 rfl rfl rfl fun w0 R gs objsR hG hR => ?_
  obtain rfl := hR.inv0
  clear hR
  have hlen := aT.len lo l
  have hl1 := hb.1
  by_cases hn : left - l.length < 0
  · repeat' (first | ((with_reducible apply o_y); exact y_; rfl) | with_reducible refine ab rfl ?_ | (with_reducible first | apply ag | apply aa | apply ah | apply ac | apply au | apply ad) | (refine ae rfl rr_ dd_ ?_))
    exact a8 x_ rfl (-1) ⟨by omega, by omega, fun h => by omega⟩ rfl (.nil R) (.refl _) (.tmp _ _ rfl) rfl
  · repeat' (first | ((with_reducible apply o_y); exact y_; rfl) | with_reducible refine ab rfl ?_ | (with_reducible first | apply ag | apply aa | apply ah | apply ac | apply ai | apply ap) | (refine aj rfl rr_ dd_ ?_))
    apply aK (X := Nat × Int) [0, 1000000] (fun x => [(5, .int .i64 (x.1 : Int)), (1, .int .i64 x.2)]) (fun _ => R) (fun x => x.1 ≤ l.length ∧ 0 ≤ x.2 ∧ x.2 ≤ left ∧ ∀ y ∈ l.take x.1, aT.small 1048576 y) (fun x => l.length - x.1) (0, left - l.length) ⟨Nat.zero_le _, by dsimp only; omega, by dsimp only; omega, by simp⟩
    exact kp_; (repeat (first | exact bj.envNil | refine bj.envCons we_ ?_))
    · exact .refl _
    rintro ⟨i, lf⟩ ⟨hi, h0, h1, hs⟩
    dsimp only at hi h0 h1 hs ⊢
    by_cases hlt : i < l.length
    · have hrow : (l.map (aT.tw lo))[i]? = some (l[i].tw lo) := bg hlt
      have hbi := hb.2 _ (List.getElem_mem hlt)
      have hta := bu (p := aT.small 1048576) hlt hs
      generalize l[i] = x at hrow hbi hta
      have hct := uA hst lo x lf (by omega) hbi
      unfold aT.tw at hct
      rw [show x.tw lo = [.bool x.block, .int .i64 x.params, .int .i64 x.slots, .sl lo 4 (x.instrs.map (aD.tw lo))] from rfl] at hrow
      repeat' (first | ((with_reducible apply o_y); exact y_; rfl) | ((with_reducible apply bE); rfl; kernel_rfl; (repeat (first | exact bA.nil | ((with_reducible apply bA.cons); rfl))); exact hG; exact hct; exact .nil _; intro y hy; refine bI ?_) | with_reducible refine ab rfl ?_ | (with_reducible first | apply ag | apply aa | apply ah | apply ac | apply ai | apply ap | apply au | apply ad | apply ak | apply aB) | (refine ae rfl rr_ dd_ ?_) | (refine bD rfl rr_ (fun hc => ?_) (fun hc => ?_)))
      all_goals first
        | exact a8 x_ rfl (-1) ⟨by omega, by omega, fun h => by omega⟩ rfl (.nil R) (.refl _) (.tmp _ _ rfl) rfl
        | exact aG (i + 1, y) ⟨by dsimp only; omega, by dsimp only; omega, by dsimp only; omega, hta (hy.2.2 (by omega))⟩ (by dsimp only; omega) (.of _ nw_ od_ pk_)
    · rw [List.take_of_length_le (by omega)] at hs
      repeat' (first | ((with_reducible apply o_y); exact y_; rfl) | with_reducible refine ab rfl ?_ | (with_reducible first | apply ag | apply aa | apply ah | apply ac | apply aH | apply au | apply ar | apply aq) | (refine aj rfl rr_ dd_ ?_))
      exact a8 x_ rfl lf ⟨by omega, by omega, fun _ => ⟨by omega, hs⟩⟩ rfl (.nil R) (.refl _) (.tmp _ _ rfl) rfl
theorem uF (hst : aY G) (lo : Nat) (x : aT) (hb : x.small 1048576) : Ct Tryz.prog G 115 [.agg (x.tw lo)] (fun K => .agg (x.tw K)) := by
  refine aJ Tryz.func115 rfl Tryz.ntmps115 rfl rfl fun w0 _ hG => ?_
  unfold aT.small at hb
  have hsinstrs := hb
  repeat' (first | ((with_reducible apply o_y); exact y_; rfl) | refine bf ?_ | (refine aI ?_; intro ss bb) | refine aA ?_ | refine aw hG hst (pV hst lo x.instrs (hsinstrs)) ?_ | with_reducible refine ab rfl ?_ | (with_reducible first | apply ag | apply aa | apply ah | apply ac | apply au))
  refine ao x_ rfl (.cell _ _ _ _ _ rfl mm_ (by kernel_rfl) (by kernel_rfl) (by kernel_rfl)) (fun _ => ?_)
  exact dE (aT.fin _ _ _ x)
theorem sF (hst : aY G) (lo : Nat) (l : List aT) (hb : l.length ≤ 1048576 ∧ ∀ y ∈ l, aT.small 1048576 y) : Ct Tryz.prog G 37 [.sl lo 4 (l.map (aT.tw lo))] (fun K => .sl K 4 (l.map (aT.tw K))) := by
  refine aJ Tryz.func37 rfl Tryz.ntmps37 rfl rfl fun w0 _ hG => ?_
  have hlen := aT.len lo l
  have hl1 := hb.1
  have h0 := cx (aT.tw w0.heap.size) aT.tz l
  repeat' (first | ((with_reducible apply o_y); exact y_; rfl) | (refine eQ ?_; intro ss bb) | with_reducible refine ab rfl ?_ | (with_reducible first | apply ag | apply aa | apply ah | apply ac | apply ai))
  apply aK (X := Nat) [0, 3] (fun i => [(4, .int .i64 (i : Int))]) (fun i => [(ss, bb, .row 4 (dw (aT.tw w0.heap.size) aT.tz l i))]) (fun i => i ≤ l.length) (fun i => l.length - i) 0 (Nat.zero_le _)
  exact kp_; (repeat (first | exact bj.envNil | refine bj.envCons we_ ?_))
  · rw [← h0]; exact .refl _
  intro i hi
  try dsimp only
  by_cases hlt : i < l.length
  · obtain ⟨hrow, hset⟩ := cN (aT.tw w0.heap.size) aT.tz hlt
    have hra : (l.map (aT.tw lo))[i]? = some (l[i].tw lo) := bg hlt
    have hbi := hb.2 _ (List.getElem_mem hlt)
    generalize l[i] = x at hset hra hbi
    have hct := uF hst lo x hbi
    unfold aT.tw at hct
    rw [show x.tw lo = [.bool x.block, .int .i64 x.params, .int .i64 x.slots, .sl lo 4 (x.instrs.map (aD.tw lo))] from rfl] at hra
    replace hrow : (dw (aT.tw w0.heap.size) aT.tz l i)[i]? = some [.bool false, .int .i64 0, .int .i64 0, .nils] := hrow
    repeat' (first | ((with_reducible apply o_y); exact y_; rfl) | refine aw hG hst (hct) ?_ | refine cE ?_ | with_reducible refine ab rfl ?_ | (with_reducible first | apply ag | apply aa | apply ah | apply ac | apply ai | apply ap | apply aB) | (refine ae rfl rr_ dd_ ?_))
    refine aG (i + 1) (by omega) (by omega) (.of _ nw_ od_ (by rw [← hset]; exact .refl _))
  · obtain rfl : i = l.length := by omega
    rw [cA]
    repeat' (first | ((with_reducible apply o_y); exact y_; rfl) | with_reducible refine ab rfl ?_ | (with_reducible first | apply ag | apply aa | apply ah | apply ac | apply aH | apply au | apply ar | apply aq) | (refine aj rfl rr_ dd_ ?_))
    refine ao x_ rfl (.tmp _ _ rfl) (fun _ => ?_)
    exact eZ (fun x => aT.fin _ _ _ x) List.mem_cons_self
theorem ur (hst : aY G) (l1 l2 : Nat) (x : aT) (hb : x.small 1048576) : Ct Tryz.prog G 125 [.agg (x.tw l1), .agg (x.tw l2)] (fun _ => .bool true) := by
  refine aJ Tryz.func125 rfl Tryz.ntmps125 rfl rfl fun w0 _ hG => ?_
  unfold aT.small at hb
  have hsinstrs := hb
  unfold aT.tw
  repeat' (first | ((with_reducible apply o_y); exact y_; rfl) | refine bf ?_ | refine aw hG hst (qA hst l1 l2 x.instrs hsinstrs) ?_ | with_reducible refine ab rfl ?_ | (with_reducible first | apply ag | apply aa | apply ah | apply ac | apply ap | apply au | apply ad) | refine az rfl rr_ ?_ | (refine aj rfl rr_ dd_ ?_) | (refine cf rfl rr_ (fun hc => ?_) (fun hc => ?_)))
  all_goals first
    | (exfalso; simp at hc; done)
    | (refine ao x_ rfl (.tmp _ _ rfl) (fun _ => ?_)
       exact Fin.flat rfl)
theorem sG (hst : aY G) (l1 l2 : Nat) (l : List aT) (hb : l.length ≤ 1048576 ∧ ∀ y ∈ l, aT.small 1048576 y) : Ct Tryz.prog G 46 [.sl l1 4 (l.map (aT.tw l1)), .sl l2 4 (l.map (aT.tw l2))] (fun _ => .bool true) := by
  refine aJ Tryz.func46 rfl Tryz.ntmps46 rfl rfl fun w0 _ hG => ?_
  have hlen := aT.len l1 l
  have hlen2 := aT.len l2 l
  have hl1 := hb.1
  repeat' (first | ((with_reducible apply o_y); exact y_; rfl) | with_reducible refine ab rfl ?_ | (with_reducible first | apply ag | apply aa | apply ah | apply ac | apply ai | apply ap) | (refine aj rfl rr_ dd_ ?_))
  apply aK (X := Nat) [0, 1] (fun i => [(5, .int .i64 (i : Int))]) (fun _ => []) (fun i => i ≤ l.length) (fun i => l.length - i) 0 (Nat.zero_le _)
  exact kp_; (repeat (first | exact bj.envNil | refine bj.envCons we_ ?_))
  · exact .refl _
  intro i hi
  try dsimp only
  by_cases hlt : i < l.length
  · have hr1 : (l.map (aT.tw l1))[i]? = some (l[i].tw l1) := bg hlt
    have hr2 : (l.map (aT.tw l2))[i]? = some (l[i].tw l2) := bg hlt
    have hbi := hb.2 _ (List.getElem_mem hlt)
    generalize l[i] = x at hr1 hr2 hbi
    have hct := ur hst l1 l2 x hbi
    unfold aT.tw at hct
    rw [show x.tw l1 = [.bool x.block, .int .i64 x.params, .int .i64 x.slots, .sl l1 4 (x.instrs.map (aD.tw l1))] from rfl] at hr1
    rw [show x.tw l2 = [.bool x.block, .int .i64 x.params, .int .i64 x.slots, .sl l2 4 (x.instrs.map (aD.tw l2))] from rfl] at hr2
    repeat' (first | ((with_reducible apply o_y); exact y_; rfl) | with_reducible refine aF (by kernel_rfl) (by kernel_rfl) ?_ | with_reducible refine aN ?_ | with_reducible refine aE rfl ?_ | ((with_reducible apply d_y); exact y_; rfl) | refine ay hG hst (hct) ?_ | with_reducible refine ab rfl ?_ | (with_reducible first | apply ag | apply aa | apply ah | apply ac | apply ai | apply ap | apply aB) | refine az rfl rr_ ?_ | (refine ae rfl rr_ dd_ ?_))
    exact aG (i + 1) (by omega) (by omega) (.of _ nw_ od_ pk_)
  · repeat' (first | ((with_reducible apply o_y); exact y_; rfl) | with_reducible refine ab rfl ?_ | (with_reducible first | apply ag | apply aa | apply ah | apply ac | apply aH | apply au | apply ar | apply aq) | (refine aj rfl rr_ dd_ ?_))
    refine ao x_ rfl (.tmp _ _ rfl) (fun _ => ?_)
    exact Fin.flat rfl
end
def aW.tw (_lo : Nat) (x : aW) : List TV := [.int .i64 x.owner, .bool x.class_, .str x.selector, .int .i64 x.code]
def aW.small (n : Nat) (x : aW) : Prop := (x.selector.size ≤ n)
def aW.tz : List TV := [.int .i64 0, .bool false, .str ⟨#[]⟩, .int .i64 0]
theorem aW.fin (B K : Nat) (objs : bp) (x : aW) : fR B objs K (x.tw B) (x.tw K) := .cons (.flat rfl) (.cons (.flat rfl) (.cons (.flat rfl) (.cons (.flat rfl) (.nil))))
theorem aW.len (lo : Nat) (l : List aW) : (l.map (aW.tw lo)).length = l.length := by simp
section
variable {G : World → Prop}
theorem sh (_hst : aY G) (lo : Nat) (x : aW) (left : Int) (h : 0 ≤ left ∧ left ≤ 1048576) (hb : x.small 9223372036854775807) : CtM Tryz.prog G 105 [.agg (x.tw lo), .int .i64 left] [] (fun y : Int => -1 ≤ y ∧ y ≤ left ∧ (0 ≤ y → x.small 1048576)) (fun _ => []) (fun y => .int .i64 y) := by
  refine bB Tryz.func105 rfl Tryz.ntmps105 rfl rfl rfl fun w0 R gs objsR hG hR => ?_
  obtain rfl := hR.inv0
  clear hR
  unfold aW.small at hb
  have hb1 : x.selector.size ≤ 9223372036854775807 := hb
  unfold aW.tw
  repeat' (first | ((with_reducible apply o_y); exact y_; rfl) | refine bf ?_ | with_reducible refine ab rfl ?_ | (with_reducible first | apply ag | apply aa | apply ah | apply ac | apply ap | apply au | apply ad) | (refine bD rfl rr_ (fun hc => ?_) (fun hc => ?_)))
  all_goals first
    | exact a8 x_ rfl (-1) ⟨by omega, by omega, fun h => by omega⟩ rfl (.nil R) (.refl _) (.tmp _ _ rfl) rfl
    | (refine a8 x_ rfl _ ⟨?_, ?_, fun _ => ?_⟩ rfl (.nil R) (.refl _) (.tmp _ _ rfl) rfl
       · omega
       · omega
       · show _ ≤ _; omega)
theorem qb (hst : aY G) (lo : Nat) (l : List aW) (left : Int) (h : 0 ≤ left ∧ left ≤ 1048576) (hb : l.length ≤ 9223372036854775807 ∧ ∀ y ∈ l, aW.small 9223372036854775807 y) : CtM Tryz.prog G 31 [.sl lo 4 (l.map (aW.tw lo)), .int .i64 left] [] (fun y : Int => -1 ≤ y ∧ y ≤ left ∧ (0 ≤ y → l.length ≤ 1048576 ∧ ∀ y ∈ l, aW.small 1048576 y)) (fun _ => []) (fun y => .int .i64 y) := by
  refine bB Tryz.func31 rfl Tryz.ntmps31 rfl rfl rfl fun w0 R gs objsR hG hR => ?_
  obtain rfl := hR.inv0
  clear hR
  have hlen := aW.len lo l
  have hl1 := hb.1
  by_cases hn : left - l.length < 0
  · repeat' (first | ((with_reducible apply o_y); exact y_; rfl) | with_reducible refine ab rfl ?_ | (with_reducible first | apply ag | apply aa | apply ah | apply ac | apply au | apply ad) | (refine ae rfl rr_ dd_ ?_))
    exact a8 x_ rfl (-1) ⟨by omega, by omega, fun h => by omega⟩ rfl (.nil R) (.refl _) (.tmp _ _ rfl) rfl
  · repeat' (first | ((with_reducible apply o_y); exact y_; rfl) | with_reducible refine ab rfl ?_ | (with_reducible first | apply ag | apply aa | apply ah | apply ac | apply ai | apply ap) | (refine aj rfl rr_ dd_ ?_))
    apply aK (X := Nat × Int) [0, 1000000] (fun x => [(5, .int .i64 (x.1 : Int)), (1, .int .i64 x.2)]) (fun _ => R) (fun x => x.1 ≤ l.length ∧ 0 ≤ x.2 ∧ x.2 ≤ left ∧ ∀ y ∈ l.take x.1, aW.small 1048576 y) (fun x => l.length - x.1) (0, left - l.length) ⟨Nat.zero_le _, by dsimp only; omega, by dsimp only; omega, by simp⟩
    exact kp_; (repeat (first | exact bj.envNil | refine bj.envCons we_ ?_))
    · exact .refl _
    rintro ⟨i, lf⟩ ⟨hi, h0, h1, hs⟩
    dsimp only at hi h0 h1 hs ⊢
    by_cases hlt : i < l.length
    · have hrow : (l.map (aW.tw lo))[i]? = some (l[i].tw lo) := bg hlt
      have hbi := hb.2 _ (List.getElem_mem hlt)
      have hta := bu (p := aW.small 1048576) hlt hs
      generalize l[i] = x at hrow hbi hta
      have hct := sh hst lo x lf (by omega) hbi
      unfold aW.tw at hct
      rw [show x.tw lo = [.int .i64 x.owner, .bool x.class_, .str x.selector, .int .i64 x.code] from rfl] at hrow
      repeat' (first | ((with_reducible apply o_y); exact y_; rfl) | ((with_reducible apply bE); rfl; kernel_rfl; (repeat (first | exact bA.nil | ((with_reducible apply bA.cons); rfl))); exact hG; exact hct; exact .nil _; intro y hy; refine bI ?_) | with_reducible refine ab rfl ?_ | (with_reducible first | apply ag | apply aa | apply ah | apply ac | apply ai | apply ap | apply au | apply ad | apply ak | apply aB) | (refine ae rfl rr_ dd_ ?_) | (refine bD rfl rr_ (fun hc => ?_) (fun hc => ?_)))
      all_goals first
        | exact a8 x_ rfl (-1) ⟨by omega, by omega, fun h => by omega⟩ rfl (.nil R) (.refl _) (.tmp _ _ rfl) rfl
        | exact aG (i + 1, y) ⟨by dsimp only; omega, by dsimp only; omega, by dsimp only; omega, hta (hy.2.2 (by omega))⟩ (by dsimp only; omega) (.of _ nw_ od_ pk_)
    · rw [List.take_of_length_le (by omega)] at hs
      repeat' (first | ((with_reducible apply o_y); exact y_; rfl) | with_reducible refine ab rfl ?_ | (with_reducible first | apply ag | apply aa | apply ah | apply ac | apply aH | apply au | apply ar | apply aq) | (refine aj rfl rr_ dd_ ?_))
      exact a8 x_ rfl lf ⟨by omega, by omega, fun _ => ⟨by omega, hs⟩⟩ rfl (.nil R) (.refl _) (.tmp _ _ rfl) rfl
theorem sO (_hst : aY G) (lo : Nat) (x : aW) (_hb : x.small 1048576) : Ct Tryz.prog G 116 [.agg (x.tw lo)] (fun K => .agg (x.tw K)) := by
  refine aJ Tryz.func116 rfl Tryz.ntmps116 rfl rfl fun w0 _ hG => ?_
  unfold aW.small at _hb
  skip
  repeat' (first | ((with_reducible apply o_y); exact y_; rfl) | refine bf ?_ | (refine aI ?_; intro ss bb) | refine aA ?_ | with_reducible refine ab rfl ?_ | (with_reducible first | apply ag | apply aa | apply ah | apply ac | apply au))
  refine ao x_ rfl (.cell _ _ _ _ _ rfl mm_ (by kernel_rfl) (by kernel_rfl) (by kernel_rfl)) (fun _ => ?_)
  exact dE (aW.fin _ _ _ x)
theorem p6 (hst : aY G) (lo : Nat) (l : List aW) (hb : l.length ≤ 1048576 ∧ ∀ y ∈ l, aW.small 1048576 y) : Ct Tryz.prog G 38 [.sl lo 4 (l.map (aW.tw lo))] (fun K => .sl K 4 (l.map (aW.tw K))) := by
  refine aJ Tryz.func38 rfl Tryz.ntmps38 rfl rfl fun w0 _ hG => ?_
  have hlen := aW.len lo l
  have hl1 := hb.1
  have h0 := cx (aW.tw w0.heap.size) aW.tz l
  repeat' (first | ((with_reducible apply o_y); exact y_; rfl) | (refine eQ ?_; intro ss bb) | with_reducible refine ab rfl ?_ | (with_reducible first | apply ag | apply aa | apply ah | apply ac | apply ai))
  apply aK (X := Nat) [0, 3] (fun i => [(4, .int .i64 (i : Int))]) (fun i => [(ss, bb, .row 4 (dw (aW.tw w0.heap.size) aW.tz l i))]) (fun i => i ≤ l.length) (fun i => l.length - i) 0 (Nat.zero_le _)
  exact kp_; (repeat (first | exact bj.envNil | refine bj.envCons we_ ?_))
  · rw [← h0]; exact .refl _
  intro i hi
  try dsimp only
  by_cases hlt : i < l.length
  · obtain ⟨hrow, hset⟩ := cN (aW.tw w0.heap.size) aW.tz hlt
    have hra : (l.map (aW.tw lo))[i]? = some (l[i].tw lo) := bg hlt
    have hbi := hb.2 _ (List.getElem_mem hlt)
    generalize l[i] = x at hset hra hbi
    have hct := sO hst lo x hbi
    unfold aW.tw at hct
    rw [show x.tw lo = [.int .i64 x.owner, .bool x.class_, .str x.selector, .int .i64 x.code] from rfl] at hra
    replace hrow : (dw (aW.tw w0.heap.size) aW.tz l i)[i]? = some [.int .i64 0, .bool false, .str ⟨#[]⟩, .int .i64 0] := hrow
    repeat' (first | ((with_reducible apply o_y); exact y_; rfl) | refine aw hG hst (hct) ?_ | refine cE ?_ | with_reducible refine ab rfl ?_ | (with_reducible first | apply ag | apply aa | apply ah | apply ac | apply ai | apply ap | apply aB) | (refine ae rfl rr_ dd_ ?_))
    refine aG (i + 1) (by omega) (by omega) (.of _ nw_ od_ (by rw [← hset]; exact .refl _))
  · obtain rfl : i = l.length := by omega
    rw [cA]
    repeat' (first | ((with_reducible apply o_y); exact y_; rfl) | with_reducible refine ab rfl ?_ | (with_reducible first | apply ag | apply aa | apply ah | apply ac | apply aH | apply au | apply ar | apply aq) | (refine aj rfl rr_ dd_ ?_))
    refine ao x_ rfl (.tmp _ _ rfl) (fun _ => ?_)
    exact eZ (fun x => aW.fin _ _ _ x) List.mem_cons_self
theorem su (_hst : aY G) (l1 l2 : Nat) (x : aW) (_hb : x.small 1048576) : Ct Tryz.prog G 126 [.agg (x.tw l1), .agg (x.tw l2)] (fun _ => .bool true) := by
  refine aJ Tryz.func126 rfl Tryz.ntmps126 rfl rfl fun w0 _ hG => ?_
  unfold aW.small at _hb
  have hneselector : ¬ x.selector ≠ x.selector := fun h => h rfl
  unfold aW.tw
  repeat' (first | ((with_reducible apply o_y); exact y_; rfl) | refine bf ?_ | with_reducible refine ab rfl ?_ | (with_reducible first | apply ag | apply aa | apply ah | apply ac | apply ap | apply au | apply ad) | (refine aj rfl rr_ dd_ ?_) | (refine cf rfl rr_ (fun hc => ?_) (fun hc => ?_)))
  all_goals first
    | (exfalso; simp at hc; done)
    | (refine ao x_ rfl (.tmp _ _ rfl) (fun _ => ?_)
       exact Fin.flat rfl)
theorem qw (hst : aY G) (l1 l2 : Nat) (l : List aW) (hb : l.length ≤ 1048576 ∧ ∀ y ∈ l, aW.small 1048576 y) : Ct Tryz.prog G 47 [.sl l1 4 (l.map (aW.tw l1)), .sl l2 4 (l.map (aW.tw l2))] (fun _ => .bool true) := by
  refine aJ Tryz.func47 rfl Tryz.ntmps47 rfl rfl fun w0 _ hG => ?_
  have hlen := aW.len l1 l
  have hlen2 := aW.len l2 l
  have hl1 := hb.1
  repeat' (first | ((with_reducible apply o_y); exact y_; rfl) | with_reducible refine ab rfl ?_ | (with_reducible first | apply ag | apply aa | apply ah | apply ac | apply ai | apply ap) | (refine aj rfl rr_ dd_ ?_))
  apply aK (X := Nat) [0, 1] (fun i => [(5, .int .i64 (i : Int))]) (fun _ => []) (fun i => i ≤ l.length) (fun i => l.length - i) 0 (Nat.zero_le _)
  exact kp_; (repeat (first | exact bj.envNil | refine bj.envCons we_ ?_))
  · exact .refl _
  intro i hi
  try dsimp only
  by_cases hlt : i < l.length
  · have hr1 : (l.map (aW.tw l1))[i]? = some (l[i].tw l1) := bg hlt
    have hr2 : (l.map (aW.tw l2))[i]? = some (l[i].tw l2) := bg hlt
    have hbi := hb.2 _ (List.getElem_mem hlt)
    generalize l[i] = x at hr1 hr2 hbi
    have hct := su hst l1 l2 x hbi
    unfold aW.tw at hct
    rw [show x.tw l1 = [.int .i64 x.owner, .bool x.class_, .str x.selector, .int .i64 x.code] from rfl] at hr1
    rw [show x.tw l2 = [.int .i64 x.owner, .bool x.class_, .str x.selector, .int .i64 x.code] from rfl] at hr2
    repeat' (first | ((with_reducible apply o_y); exact y_; rfl) | with_reducible refine aF (by kernel_rfl) (by kernel_rfl) ?_ | with_reducible refine aN ?_ | with_reducible refine aE rfl ?_ | ((with_reducible apply d_y); exact y_; rfl) | refine ay hG hst (hct) ?_ | with_reducible refine ab rfl ?_ | (with_reducible first | apply ag | apply aa | apply ah | apply ac | apply ai | apply ap | apply aB) | refine az rfl rr_ ?_ | (refine ae rfl rr_ dd_ ?_))
    exact aG (i + 1) (by omega) (by omega) (.of _ nw_ od_ pk_)
  · repeat' (first | ((with_reducible apply o_y); exact y_; rfl) | with_reducible refine ab rfl ?_ | (with_reducible first | apply ag | apply aa | apply ah | apply ac | apply aH | apply au | apply ar | apply aq) | (refine aj rfl rr_ dd_ ?_))
    refine ao x_ rfl (.tmp _ _ rfl) (fun _ => ?_)
    exact Fin.flat rfl
end
def am.tw (lo : Nat) (x : am) : List TV := [.str x.name, .int .i64 x.parent, .sl lo 1 (cL x.fields)]
def am.small (n : Nat) (x : am) : Prop := (x.name.size ≤ n) ∧ (x.fields.length ≤ n ∧ ∀ y ∈ x.fields, ByteArray.size y ≤ n)
def am.tz : List TV := [.str ⟨#[]⟩, .int .i64 0, .nils]
theorem am.fin (B K : Nat) (objs : bp) (_x : am) : fR B objs K (_x.tw B) (_x.tw K) := .cons (.flat rfl) (.cons (.flat rfl) (.cons (ci (fun _x => .cons (.flat rfl) .nil) _) (.nil)))
theorem am.len (lo : Nat) (l : List am) : (l.map (am.tw lo)).length = l.length := by simp
section
variable {G : World → Prop}
theorem lc (_hst : aY G) (lo : Nat) (x : am) (left : Int) (h : 0 ≤ left ∧ left ≤ 1048576) (hb : x.small 9223372036854775807) : CtM Tryz.prog G 103 [.agg (x.tw lo), .int .i64 left] [] (fun y : Int => -1 ≤ y ∧ y ≤ left ∧ (0 ≤ y → x.small 1048576)) (fun _ => []) (fun y => .int .i64 y) := by
  refine bB Tryz.func103 rfl Tryz.ntmps103 rfl rfl rfl fun w0 R gs objsR hG hR => ?_
  obtain rfl := hR.inv0
  clear hR
  unfold am.small at hb
  have hb1 : x.name.size ≤ 9223372036854775807 := hb.1
  unfold am.tw
  repeat' (first | ((with_reducible apply o_y); exact y_; rfl) | refine bf ?_ | ((with_reducible apply bE); rfl; kernel_rfl; (repeat (first | exact bA.nil | ((with_reducible apply bA.cons); rfl))); exact hG; exact jg lo x.fields _ (by omega) hb.2; exact .nil _; intro y2 hy2; refine bI ?_) | with_reducible refine ab rfl ?_ | (with_reducible first | apply ag | apply aa | apply ah | apply ac | apply ap | apply au | apply ad) | (refine bD rfl rr_ (fun hc => ?_) (fun hc => ?_)))
  all_goals first
    | exact a8 x_ rfl (-1) ⟨by omega, by omega, fun h => by omega⟩ rfl (.nil R) (.refl _) (.tmp _ _ rfl) rfl
    | (refine a8 x_ rfl _ ⟨?_, ?_, fun _ => ?_⟩ rfl (.nil R) (.refl _) (.tmp _ _ rfl) rfl
       · omega
       · omega
       · exact ⟨by omega, hy2.2.2 (by omega)⟩)
theorem fC (hst : aY G) (lo : Nat) (l : List am) (left : Int) (h : 0 ≤ left ∧ left ≤ 1048576) (hb : l.length ≤ 9223372036854775807 ∧ ∀ y ∈ l, am.small 9223372036854775807 y) : CtM Tryz.prog G 29 [.sl lo 3 (l.map (am.tw lo)), .int .i64 left] [] (fun y : Int => -1 ≤ y ∧ y ≤ left ∧ (0 ≤ y → l.length ≤ 1048576 ∧ ∀ y ∈ l, am.small 1048576 y)) (fun _ => []) (fun y => .int .i64 y) := by
  refine bB Tryz.func29 rfl Tryz.ntmps29 rfl rfl rfl fun w0 R gs objsR hG hR => ?_
  obtain rfl := hR.inv0
  clear hR
  have hlen := am.len lo l
  have hl1 := hb.1
  by_cases hn : left - l.length < 0
  · repeat' (first | ((with_reducible apply o_y); exact y_; rfl) | with_reducible refine ab rfl ?_ | (with_reducible first | apply ag | apply aa | apply ah | apply ac | apply au | apply ad) | (refine ae rfl rr_ dd_ ?_))
    exact a8 x_ rfl (-1) ⟨by omega, by omega, fun h => by omega⟩ rfl (.nil R) (.refl _) (.tmp _ _ rfl) rfl
  · repeat' (first | ((with_reducible apply o_y); exact y_; rfl) | with_reducible refine ab rfl ?_ | (with_reducible first | apply ag | apply aa | apply ah | apply ac | apply ai | apply ap) | (refine aj rfl rr_ dd_ ?_))
    apply aK (X := Nat × Int) [0, 1000000] (fun x => [(5, .int .i64 (x.1 : Int)), (1, .int .i64 x.2)]) (fun _ => R) (fun x => x.1 ≤ l.length ∧ 0 ≤ x.2 ∧ x.2 ≤ left ∧ ∀ y ∈ l.take x.1, am.small 1048576 y) (fun x => l.length - x.1) (0, left - l.length) ⟨Nat.zero_le _, by dsimp only; omega, by dsimp only; omega, by simp⟩
    exact kp_; (repeat (first | exact bj.envNil | refine bj.envCons we_ ?_))
    · exact .refl _
    rintro ⟨i, lf⟩ ⟨hi, h0, h1, hs⟩
    dsimp only at hi h0 h1 hs ⊢
    by_cases hlt : i < l.length
    · have hrow : (l.map (am.tw lo))[i]? = some (l[i].tw lo) := bg hlt
      have hbi := hb.2 _ (List.getElem_mem hlt)
      have hta := bu (p := am.small 1048576) hlt hs
      generalize l[i] = x at hrow hbi hta
      have hct := lc hst lo x lf (by omega) hbi
      unfold am.tw at hct
      rw [show x.tw lo = [.str x.name, .int .i64 x.parent, .sl lo 1 (cL x.fields)] from rfl] at hrow
      repeat' (first | ((with_reducible apply o_y); exact y_; rfl) | ((with_reducible apply bE); rfl; kernel_rfl; (repeat (first | exact bA.nil | ((with_reducible apply bA.cons); rfl))); exact hG; exact hct; exact .nil _; intro y hy; refine bI ?_) | with_reducible refine ab rfl ?_ | (with_reducible first | apply ag | apply aa | apply ah | apply ac | apply ai | apply ap | apply au | apply ad | apply ak | apply aB) | (refine ae rfl rr_ dd_ ?_) | (refine bD rfl rr_ (fun hc => ?_) (fun hc => ?_)))
      all_goals first
        | exact a8 x_ rfl (-1) ⟨by omega, by omega, fun h => by omega⟩ rfl (.nil R) (.refl _) (.tmp _ _ rfl) rfl
        | exact aG (i + 1, y) ⟨by dsimp only; omega, by dsimp only; omega, by dsimp only; omega, hta (hy.2.2 (by omega))⟩ (by dsimp only; omega) (.of _ nw_ od_ pk_)
    · rw [List.take_of_length_le (by omega)] at hs
      repeat' (first | ((with_reducible apply o_y); exact y_; rfl) | with_reducible refine ab rfl ?_ | (with_reducible first | apply ag | apply aa | apply ah | apply ac | apply aH | apply au | apply ar | apply aq) | (refine aj rfl rr_ dd_ ?_))
      exact a8 x_ rfl lf ⟨by omega, by omega, fun _ => ⟨by omega, hs⟩⟩ rfl (.nil R) (.refl _) (.tmp _ _ rfl) rfl
theorem k8 (hst : aY G) (lo : Nat) (x : am) (hb : x.small 1048576) : Ct Tryz.prog G 114 [.agg (x.tw lo)] (fun K => .agg (x.tw K)) := by
  refine aJ Tryz.func114 rfl Tryz.ntmps114 rfl rfl fun w0 _ hG => ?_
  unfold am.small at hb
  have hsfields := (hb.2).1
  repeat' (first | ((with_reducible apply o_y); exact y_; rfl) | refine bf ?_ | (refine aI ?_; intro ss bb) | refine aA ?_ | refine aw hG hst (jf hst lo x.fields (hsfields)) ?_ | with_reducible refine ab rfl ?_ | (with_reducible first | apply ag | apply aa | apply ah | apply ac | apply au))
  refine ao x_ rfl (.cell _ _ _ _ _ rfl mm_ (by kernel_rfl) (by kernel_rfl) (by kernel_rfl)) (fun _ => ?_)
  exact dE (am.fin _ _ _ x)
theorem fF (hst : aY G) (lo : Nat) (l : List am) (hb : l.length ≤ 1048576 ∧ ∀ y ∈ l, am.small 1048576 y) : Ct Tryz.prog G 36 [.sl lo 3 (l.map (am.tw lo))] (fun K => .sl K 3 (l.map (am.tw K))) := by
  refine aJ Tryz.func36 rfl Tryz.ntmps36 rfl rfl fun w0 _ hG => ?_
  have hlen := am.len lo l
  have hl1 := hb.1
  have h0 := cx (am.tw w0.heap.size) am.tz l
  repeat' (first | ((with_reducible apply o_y); exact y_; rfl) | (refine eQ ?_; intro ss bb) | with_reducible refine ab rfl ?_ | (with_reducible first | apply ag | apply aa | apply ah | apply ac | apply ai))
  apply aK (X := Nat) [0, 3] (fun i => [(4, .int .i64 (i : Int))]) (fun i => [(ss, bb, .row 3 (dw (am.tw w0.heap.size) am.tz l i))]) (fun i => i ≤ l.length) (fun i => l.length - i) 0 (Nat.zero_le _)
  exact kp_; (repeat (first | exact bj.envNil | refine bj.envCons we_ ?_))
  · rw [← h0]; exact .refl _
  intro i hi
  try dsimp only
  by_cases hlt : i < l.length
  · obtain ⟨hrow, hset⟩ := cN (am.tw w0.heap.size) am.tz hlt
    have hra : (l.map (am.tw lo))[i]? = some (l[i].tw lo) := bg hlt
    have hbi := hb.2 _ (List.getElem_mem hlt)
    generalize l[i] = x at hset hra hbi
    have hct := k8 hst lo x hbi
    unfold am.tw at hct
    rw [show x.tw lo = [.str x.name, .int .i64 x.parent, .sl lo 1 (cL x.fields)] from rfl] at hra
    replace hrow : (dw (am.tw w0.heap.size) am.tz l i)[i]? = some [.str ⟨#[]⟩, .int .i64 0, .nils] := hrow
    repeat' (first | ((with_reducible apply o_y); exact y_; rfl) | refine aw hG hst (hct) ?_ | refine cE ?_ | with_reducible refine ab rfl ?_ | (with_reducible first | apply ag | apply aa | apply ah | apply ac | apply ai | apply ap | apply aB) | (refine ae rfl rr_ dd_ ?_))
    refine aG (i + 1) (by omega) (by omega) (.of _ nw_ od_ (by rw [← hset]; exact .refl _))
  · obtain rfl : i = l.length := by omega
    rw [cA]
    repeat' (first | ((with_reducible apply o_y); exact y_; rfl) | with_reducible refine ab rfl ?_ | (with_reducible first | apply ag | apply aa | apply ah | apply ac | apply aH | apply au | apply ar | apply aq) | (refine aj rfl rr_ dd_ ?_))
    refine ao x_ rfl (.tmp _ _ rfl) (fun _ => ?_)
    exact eZ (fun x => am.fin _ _ _ x) List.mem_cons_self
theorem lh (hst : aY G) (l1 l2 : Nat) (x : am) (hb : x.small 1048576) : Ct Tryz.prog G 124 [.agg (x.tw l1), .agg (x.tw l2)] (fun _ => .bool true) := by
  refine aJ Tryz.func124 rfl Tryz.ntmps124 rfl rfl fun w0 _ hG => ?_
  unfold am.small at hb
  have hsfields := (hb.2).1
  have hnename : ¬ x.name ≠ x.name := fun h => h rfl
  unfold am.tw
  repeat' (first | ((with_reducible apply o_y); exact y_; rfl) | refine bf ?_ | refine aw hG hst (js l1 l2 x.fields hsfields) ?_ | with_reducible refine ab rfl ?_ | (with_reducible first | apply ag | apply aa | apply ah | apply ac | apply ap | apply au) | refine az rfl rr_ ?_ | (refine aj rfl rr_ dd_ ?_))
  all_goals first
    | (exfalso; simp at hc; done)
    | (refine ao x_ rfl (.tmp _ _ rfl) (fun _ => ?_)
       exact Fin.flat rfl)
theorem fJ (hst : aY G) (l1 l2 : Nat) (l : List am) (hb : l.length ≤ 1048576 ∧ ∀ y ∈ l, am.small 1048576 y) : Ct Tryz.prog G 45 [.sl l1 3 (l.map (am.tw l1)), .sl l2 3 (l.map (am.tw l2))] (fun _ => .bool true) := by
  refine aJ Tryz.func45 rfl Tryz.ntmps45 rfl rfl fun w0 _ hG => ?_
  have hlen := am.len l1 l
  have hlen2 := am.len l2 l
  have hl1 := hb.1
  repeat' (first | ((with_reducible apply o_y); exact y_; rfl) | with_reducible refine ab rfl ?_ | (with_reducible first | apply ag | apply aa | apply ah | apply ac | apply ai | apply ap) | (refine aj rfl rr_ dd_ ?_))
  apply aK (X := Nat) [0, 1] (fun i => [(5, .int .i64 (i : Int))]) (fun _ => []) (fun i => i ≤ l.length) (fun i => l.length - i) 0 (Nat.zero_le _)
  exact kp_; (repeat (first | exact bj.envNil | refine bj.envCons we_ ?_))
  · exact .refl _
  intro i hi
  try dsimp only
  by_cases hlt : i < l.length
  · have hr1 : (l.map (am.tw l1))[i]? = some (l[i].tw l1) := bg hlt
    have hr2 : (l.map (am.tw l2))[i]? = some (l[i].tw l2) := bg hlt
    have hbi := hb.2 _ (List.getElem_mem hlt)
    generalize l[i] = x at hr1 hr2 hbi
    have hct := lh hst l1 l2 x hbi
    unfold am.tw at hct
    rw [show x.tw l1 = [.str x.name, .int .i64 x.parent, .sl l1 1 (cL x.fields)] from rfl] at hr1
    rw [show x.tw l2 = [.str x.name, .int .i64 x.parent, .sl l2 1 (cL x.fields)] from rfl] at hr2
    repeat' (first | ((with_reducible apply o_y); exact y_; rfl) | with_reducible refine aF (by kernel_rfl) (by kernel_rfl) ?_ | with_reducible refine aN ?_ | with_reducible refine aE rfl ?_ | ((with_reducible apply d_y); exact y_; rfl) | refine ay hG hst (hct) ?_ | with_reducible refine ab rfl ?_ | (with_reducible first | apply ag | apply aa | apply ah | apply ac | apply ai | apply ap | apply aB) | refine az rfl rr_ ?_ | (refine ae rfl rr_ dd_ ?_))
    exact aG (i + 1) (by omega) (by omega) (.of _ nw_ od_ pk_)
  · repeat' (first | ((with_reducible apply o_y); exact y_; rfl) | with_reducible refine ab rfl ?_ | (with_reducible first | apply ag | apply aa | apply ah | apply ac | apply aH | apply au | apply ar | apply aq) | (refine aj rfl rr_ dd_ ?_))
    refine ao x_ rfl (.tmp _ _ rfl) (fun _ => ?_)
    exact Fin.flat rfl
end
def ba.tw (lo : Nat) (x : ba) : List TV := [.sl lo 3 (x.classes.map (am.tw lo)), .sl lo 4 (x.codes.map (aT.tw lo)), .sl lo 4 (x.entries.map (aW.tw lo)), .int .i64 x.main]
def ba.small (n : Nat) (x : ba) : Prop := (x.classes.length ≤ n ∧ ∀ y ∈ x.classes, am.small n y) ∧ (x.codes.length ≤ n ∧ ∀ y ∈ x.codes, aT.small n y) ∧ (x.entries.length ≤ n ∧ ∀ y ∈ x.entries, aW.small n y)
def ba.tz : List TV := [.nils, .nils, .nils, .int .i64 0]
theorem ba.fin (B K : Nat) (objs : bp) (x : ba) : fR B objs K (x.tw B) (x.tw K) := .cons (ci (fun x => am.fin B K objs x) _) (.cons (ci (fun x => aT.fin B K objs x) _) (.cons (ci (fun x => aW.fin B K objs x) _) (.cons (.flat rfl) (.nil))))
theorem ba.len (lo : Nat) (l : List ba) : (l.map (ba.tw lo)).length = l.length := by simp
section
variable {G : World → Prop}
theorem mU (hst : aY G) (lo : Nat) (x : ba) (left : Int) (h : 0 ≤ left ∧ left ≤ 1048576) (hb : x.small 9223372036854775807) : CtM Tryz.prog G 8 [.agg (x.tw lo), .int .i64 left] [] (fun y : Int => -1 ≤ y ∧ y ≤ left ∧ (0 ≤ y → x.small 1048576)) (fun _ => []) (fun y => .int .i64 y) := by
  refine bB Tryz.func8 rfl Tryz.ntmps8 rfl rfl rfl fun w0 R gs objsR hG hR => ?_
  obtain rfl := hR.inv0
  clear hR
  unfold ba.small at hb
  skip
  unfold ba.tw
  repeat' (first | ((with_reducible apply o_y); exact y_; rfl) | refine bf ?_ | ((with_reducible apply bE); rfl; kernel_rfl; (repeat (first | exact bA.nil | ((with_reducible apply bA.cons); rfl))); exact hG; exact fC hst lo x.classes _ (by omega) hb.1; exact .nil _; intro y1 hy1; refine bI ?_) | ((with_reducible apply bE); rfl; kernel_rfl; (repeat (first | exact bA.nil | ((with_reducible apply bA.cons); rfl))); exact hG; exact sL hst lo x.codes _ (by omega) hb.2.1; exact .nil _; intro y2 hy2; refine bI ?_) | ((with_reducible apply bE); rfl; kernel_rfl; (repeat (first | exact bA.nil | ((with_reducible apply bA.cons); rfl))); exact hG; exact qb hst lo x.entries _ (by omega) hb.2.2; exact .nil _; intro y3 hy3; refine bI ?_) | with_reducible refine ab rfl ?_ | (with_reducible first | apply ag | apply aa | apply ah | apply ac | apply ap | apply au | apply ad) | (refine bD rfl rr_ (fun hc => ?_) (fun hc => ?_)))
  all_goals first
    | exact a8 x_ rfl (-1) ⟨by omega, by omega, fun h => by omega⟩ rfl (.nil R) (.refl _) (.tmp _ _ rfl) rfl
    | (refine a8 x_ rfl _ ⟨?_, ?_, fun _ => ?_⟩ rfl (.nil R) (.refl _) (.tmp _ _ rfl) rfl
       · omega
       · omega
       · exact ⟨hy1.2.2 (by omega), hy2.2.2 (by omega), hy3.2.2 (by omega)⟩)
theorem mW (hst : aY G) (lo : Nat) (x : ba) (hb : x.small 1048576) : Ct Tryz.prog G 10 [.agg (x.tw lo)] (fun K => .agg (x.tw K)) := by
  refine aJ Tryz.func10 rfl Tryz.ntmps10 rfl rfl fun w0 _ hG => ?_
  unfold ba.small at hb
  have hsclasses := hb.1
  have hscodes := hb.2.1
  have hsentries := hb.2.2
  repeat' (first | ((with_reducible apply o_y); exact y_; rfl) | refine bf ?_ | (refine aI ?_; intro ss bb) | refine aA ?_ | refine aw hG hst (fF hst lo x.classes (hsclasses)) ?_ | refine aw hG hst (sF hst lo x.codes (hscodes)) ?_ | refine aw hG hst (p6 hst lo x.entries (hsentries)) ?_ | with_reducible refine ab rfl ?_ | (with_reducible first | apply ag | apply aa | apply ah | apply ac | apply au))
  refine ao x_ rfl (.cell _ _ _ _ _ rfl mm_ (by kernel_rfl) (by kernel_rfl) (by kernel_rfl)) (fun _ => ?_)
  exact dE (ba.fin _ _ _ x)
theorem m6 (hst : aY G) (l1 l2 : Nat) (x : ba) (hb : x.small 1048576) : Ct Tryz.prog G 12 [.agg (x.tw l1), .agg (x.tw l2)] (fun _ => .bool true) := by
  refine aJ Tryz.func12 rfl Tryz.ntmps12 rfl rfl fun w0 _ hG => ?_
  unfold ba.small at hb
  have hsclasses := hb.1
  have hscodes := hb.2.1
  have hsentries := hb.2.2
  unfold ba.tw
  repeat' (first | ((with_reducible apply o_y); exact y_; rfl) | refine bf ?_ | refine aw hG hst (fJ hst l1 l2 x.classes hsclasses) ?_ | refine aw hG hst (sG hst l1 l2 x.codes hscodes) ?_ | refine aw hG hst (qw hst l1 l2 x.entries hsentries) ?_ | with_reducible refine ab rfl ?_ | (with_reducible first | apply ag | apply aa | apply ah | apply ac | apply ap | apply au) | refine az rfl rr_ ?_ | (refine aj rfl rr_ dd_ ?_))
  all_goals first
    | (exfalso; simp at hc; done)
    | (refine ao x_ rfl (.tmp _ _ rfl) (fun _ => ?_)
       exact Fin.flat rfl)
end
def dM.tw (_lo : Nat) (x : dM) : List TV := [.int .i64 x.code, .int .i64 x.at_, .int .i64 x.kind]
def dM.small (_n : Nat) (_x : dM) : Prop := True
def dM.tz : List TV := [.int .i64 0, .int .i64 0, .int .i64 0]
theorem dM.fin (B K : Nat) (objs : bp) (x : dM) : fR B objs K (x.tw B) (x.tw K) := .cons (.flat rfl) (.cons (.flat rfl) (.cons (.flat rfl) (.nil)))
theorem dM.len (lo : Nat) (l : List dM) : (l.map (dM.tw lo)).length = l.length := by simp
section
variable {G : World → Prop}
end
set_option maxRecDepth 20000
def bH : List am := [⟨⟨#[79, 98, 106, 101, 99, 116]⟩, -1, []⟩, ⟨⟨#[69, 120, 99, 101, 112, 116, 105, 111, 110]⟩, 0, [⟨#[116, 101, 120, 116]⟩]⟩, ⟨⟨#[69, 114, 114, 111, 114]⟩, 1, [⟨#[116, 101, 120, 116]⟩]⟩, ⟨⟨#[77, 101, 115, 115, 97, 103, 101, 78, 111, 116, 85, 110, 100, 101, 114, 115, 116, 111, 111, 100]⟩, 2, [⟨#[116, 101, 120, 116]⟩]⟩, ⟨⟨#[90, 101, 114, 111, 68, 105, 118, 105, 100, 101]⟩, 2, [⟨#[116, 101, 120, 116]⟩]⟩, ⟨⟨#[73, 110, 116, 101, 103, 101, 114]⟩, 0, []⟩, ⟨⟨#[66, 111, 111, 108, 101, 97, 110]⟩, 0, []⟩, ⟨⟨#[78, 105, 108]⟩, 0, []⟩, ⟨⟨#[83, 116, 114, 105, 110, 103]⟩, 0, []⟩, ⟨⟨#[83, 121, 109, 98, 111, 108]⟩, 0, []⟩, ⟨⟨#[65, 114, 114, 97, 121]⟩, 0, []⟩, ⟨⟨#[66, 108, 111, 99, 107]⟩, 0, []⟩, ⟨⟨#[83, 101, 109, 97, 112, 104, 111, 114, 101]⟩, 0, []⟩, ⟨⟨#[80, 114, 111, 99, 101, 115, 115]⟩, 0, []⟩, ⟨⟨#[84, 114, 97, 110, 115, 99, 114, 105, 112, 116]⟩, 0, []⟩, ⟨⟨#[67, 108, 97, 115, 115]⟩, 0, []⟩]
def cj : List ByteArray := [⟨#[79, 98, 106, 101, 99, 116]⟩, ⟨#[69, 120, 99, 101, 112, 116, 105, 111, 110]⟩, ⟨#[69, 114, 114, 111, 114]⟩, ⟨#[77, 101, 115, 115, 97, 103, 101, 78, 111, 116, 85, 110, 100, 101, 114, 115, 116, 111, 111, 100]⟩, ⟨#[90, 101, 114, 111, 68, 105, 118, 105, 100, 101]⟩, ⟨#[73, 110, 116, 101, 103, 101, 114]⟩, ⟨#[66, 111, 111, 108, 101, 97, 110]⟩, ⟨#[78, 105, 108]⟩, ⟨#[83, 116, 114, 105, 110, 103]⟩, ⟨#[83, 121, 109, 98, 111, 108]⟩, ⟨#[65, 114, 114, 97, 121]⟩, ⟨#[66, 108, 111, 99, 107]⟩, ⟨#[83, 101, 109, 97, 112, 104, 111, 114, 101]⟩, ⟨#[80, 114, 111, 99, 101, 115, 115]⟩, ⟨#[84, 114, 97, 110, 115, 99, 114, 105, 112, 116]⟩, ⟨#[67, 108, 97, 115, 115]⟩]
def fb (k : Int) : List ByteArray := if k = 1 ∨ k = 2 ∨ k = 3 ∨ k = 4 then [⟨#[116, 101, 120, 116]⟩] else []
def q8 : List (List TV) := [[TV.int .i64 (-1)], [TV.int .i64 0], [TV.int .i64 1], [TV.int .i64 2], [TV.int .i64 2], [TV.int .i64 0], [TV.int .i64 0], [TV.int .i64 0], [TV.int .i64 0], [TV.int .i64 0], [TV.int .i64 0], [TV.int .i64 0], [TV.int .i64 0], [TV.int .i64 0], [TV.int .i64 0], [TV.int .i64 0]]
theorem ef : bH.length = 16 := rfl
theorem ga {i : Nat} (h : i < 16) : ∃ x, bH[i]? = some x ∧ (cL cj)[i]? = some [.str x.name] ∧ q8[i]? = some [.int .i64 x.parent] ∧ fb (i : Int) = x.fields ∧ bH.take (i + 1) = bH.take i ++ [x] := by
  match i, h with
  | 0, _ => exact ⟨_, rfl, rfl, rfl, rfl, rfl⟩
  | 1, _ => exact ⟨_, rfl, rfl, rfl, rfl, rfl⟩
  | 2, _ => exact ⟨_, rfl, rfl, rfl, rfl, rfl⟩
  | 3, _ => exact ⟨_, rfl, rfl, rfl, rfl, rfl⟩
  | 4, _ => exact ⟨_, rfl, rfl, rfl, rfl, rfl⟩
  | 5, _ => exact ⟨_, rfl, rfl, rfl, rfl, rfl⟩
  | 6, _ => exact ⟨_, rfl, rfl, rfl, rfl, rfl⟩
  | 7, _ => exact ⟨_, rfl, rfl, rfl, rfl, rfl⟩
  | 8, _ => exact ⟨_, rfl, rfl, rfl, rfl, rfl⟩
  | 9, _ => exact ⟨_, rfl, rfl, rfl, rfl, rfl⟩
  | 10, _ => exact ⟨_, rfl, rfl, rfl, rfl, rfl⟩
  | 11, _ => exact ⟨_, rfl, rfl, rfl, rfl, rfl⟩
  | 12, _ => exact ⟨_, rfl, rfl, rfl, rfl, rfl⟩
  | 13, _ => exact ⟨_, rfl, rfl, rfl, rfl, rfl⟩
  | 14, _ => exact ⟨_, rfl, rfl, rfl, rfl, rfl⟩
  | 15, _ => exact ⟨_, rfl, rfl, rfl, rfl, rfl⟩
  | n + 16, h => omega
section
variable {G : World → Prop}
theorem k7 : Ct Tryz.prog G 219 [] (fun K => .sl K 1 (cL cj)) := by
  refine aJ Tryz.func219 rfl Tryz.ntmps219 rfl rfl fun w0 _ hG => ?_
  repeat' (first | ((with_reducible apply o_y); exact y_; rfl) | refine dk ?_ | with_reducible refine ab rfl ?_ | (with_reducible first | apply ag | apply aa | apply ah | apply ac | apply au))
  refine ao (r1 := .tmp 0) (t1 := .sl w0.heap.size 1 (cL cj)) (.inr rfl) rfl (.tmp _ _ rfl) (fun _ => ?_)
  exact ci (f := fun s : ByteArray => [TV.str s]) (f' := fun s : ByteArray => [TV.str s]) (fun x => .cons (.flat rfl) .nil) cj
theorem kO : Ct Tryz.prog G 229 [] (fun K => .sl K 1 (cL cj)) := by
  refine aJ Tryz.func229 rfl Tryz.ntmps229 rfl rfl fun w0 _ hG => ?_
  repeat' (first | ((with_reducible apply o_y); exact y_; rfl) | refine dk ?_ | with_reducible refine ab rfl ?_ | (with_reducible first | apply ag | apply aa | apply ah | apply ac | apply au))
  refine ao (r1 := .tmp 0) (t1 := .sl w0.heap.size 1 (cL cj)) (.inr rfl) rfl (.tmp _ _ rfl) (fun _ => ?_)
  exact ci (f := fun s : ByteArray => [TV.str s]) (f' := fun s : ByteArray => [TV.str s]) (fun x => .cons (.flat rfl) .nil) cj
theorem qH (tu : TV) (k : Int) (h : k < 16) : Ct Tryz.prog G 220 [tu, .int .i64 k] (fun K => .sl K 1 (cL (fb k))) := by
  refine aJ Tryz.func220 rfl Tryz.ntmps220 rfl rfl fun w0 _ hG => ?_
  by_cases hk : k = 1 ∨ k = 2 ∨ k = 3 ∨ k = 4
  · rw [show fb k = [⟨#[116, 101, 120, 116]⟩] from if_pos hk]
    repeat' (first | ((with_reducible apply o_y); exact y_; rfl) | refine dk ?_ | with_reducible refine ab rfl ?_ | (with_reducible first | apply ag | apply aa | apply ah | apply ac | apply au | apply ad) | refine aP rfl rfl rfl rr_ ?_ | refine aO rfl rfl rfl rr_ rfl rfl rfl ?_ | (refine bm rfl rfl rfl rr_ (fun hg => ?_) (fun hg => ?_)) | refine av rfl rr_ ?_ | (refine ae rfl rr_ dd_ ?_))
    all_goals first
      | (exfalso; omega)
      | (refine ao x_ rfl (.tmp _ _ rfl) (fun _ => ?_)
         exact ci (f := fun s : ByteArray => [TV.str s]) (f' := fun s : ByteArray => [TV.str s]) (fun x => .cons (.flat rfl) .nil) [⟨#[116, 101, 120, 116]⟩])
  · rw [show fb k = [] from if_neg hk]
    repeat' (first | ((with_reducible apply o_y); exact y_; rfl) | refine dk ?_ | with_reducible refine ab rfl ?_ | (with_reducible first | apply ag | apply aa | apply ah | apply ac | apply ap | apply au | apply ad) | refine aP rfl rfl rfl rr_ ?_ | (refine bC rfl rfl rfl rr_ dd_ ?_) | (refine ae rfl rr_ dd_ ?_) | (refine aj rfl rr_ dd_ ?_))
    all_goals first
      | (exfalso; omega)
      | (refine ao x_ rfl (.tmp _ _ rfl) (fun _ => ?_)
         exact ci (f := fun s : ByteArray => [TV.str s]) (f' := fun s : ByteArray => [TV.str s]) (fun x => .cons (.flat rfl) .nil) [])
theorem sq (hst : aY G) (rest : List TV) : Ct Tryz.prog G 179 [.cp 0 (.nils :: rest)] (fun K => .sl K 3 (bH.map (am.tw K))) := by
  refine aJ Tryz.func179 rfl Tryz.ntmps179 rfl rfl fun w0 _ hG => ?_
  repeat' (first | ((with_reducible apply o_y); exact y_; rfl) | refine aw hG hst (k7) ?_ | with_reducible refine bx (id := 3) ?_ | (refine la ?_; intro ss bb) | with_reducible refine ab rfl ?_ | (with_reducible first | apply ag | apply aa | apply ah | apply ac))
  refine ⟨?_⟩
  repeat' (first | ((with_reducible apply o_y); exact y_; rfl) | refine dk ?_ | with_reducible refine ab rfl ?_ | (with_reducible first | apply ag | apply aa | apply ah | apply ac | apply ai))
  apply aK (X := Nat × Nat) [0, 4, 5] (fun x => [(6, .int .i64 (x.1 : Int)), (3, .ms ss x.2 0 x.1)]) (fun x => [(ss, x.2, .row 3 ((bH.take x.1).map (am.tw w0.heap.size)))]) (fun x => x.1 ≤ 16) (fun x => 16 - x.1) (0, bb) (Nat.zero_le _)
  exact kp_; (repeat (first | exact bj.envNil | refine bj.envCons we_ ?_))
  · exact .refl _
  rintro ⟨i, b⟩ hi
  dsimp only at hi ⊢
  by_cases hlt : i < 16
  · obtain ⟨x, hx, h1, h2, h3, h4⟩ := ga hlt
    unfold q8 at h2
    have hle : ((bH.take i).map (am.tw w0.heap.size)).length = i := by rw [List.length_map, List.length_take, ef]; omega
    repeat' (first | ((with_reducible apply o_y); exact y_; rfl) | (with_reducible apply mc (id := 7) 14; kernel_rfl; kernel_rfl; kernel_rfl; (repeat (first | exact Cut.zero _ | apply Cut.succ))) | with_reducible refine pL ?_ | with_reducible refine aE rfl ?_ | ((with_reducible apply d_y); exact y_; rfl) | ((with_reducible apply wt); rfl; kernel_rfl; (repeat (first | exact dU.nil | ((with_reducible apply dU.cons); rfl; exact .same _))); exact hG; exact hst; exact qH _ _ (by omega)) | refine vL ?_ | refine ye ?_ | (refine oU ?_; intro bb) | with_reducible refine ab rfl ?_ | (with_reducible first | apply ag | apply aa | apply ah | apply ac | apply ai | apply ap | apply aB) | (refine ae rfl rr_ dd_ ?_))
    have hrow : (bH.take i).map (am.tw w0.heap.size) ++ [[TV.str x.name, .int .i64 x.parent, .sl w0.heap.size 1 (cL (fb i))]] = (bH.take (i + 1)).map (am.tw w0.heap.size) := by
      rw [h4, h3, List.map_append]; rfl
    rw [hrow]
    exact aG (i + 1, bb) (by dsimp only; omega) (by dsimp only; omega) (.of _ nw_ od_ pk_)
  · obtain rfl : i = 16 := by omega
    repeat' (first | ((with_reducible apply o_y); exact y_; rfl) | with_reducible refine ab rfl ?_ | (with_reducible first | apply ag | apply aa | apply ah | apply ac | apply ai | apply aH | apply ar | apply aq) | (refine aj rfl rr_ dd_ ?_))
    apply aK (X := Unit) [0, 3] (fun _ => [(7, .int .i64 0)]) (fun _ => [(ss, b, .row 3 (bH.map (am.tw w0.heap.size)))]) (fun _ => True) (fun _ => 0) () trivial
    exact kp_; (repeat (first | exact bj.envNil | refine bj.envCons we_ ?_))
    · exact .refl _
    rintro _ -
    repeat' (first | ((with_reducible apply o_y); exact y_; rfl) | with_reducible refine ab rfl ?_ | (with_reducible first | apply ag | apply aa | apply ah | apply ac | apply aH | apply au | apply ar | apply aq) | (refine aj rfl rr_ dd_ ?_))
    refine ao x_ rfl (.tmp _ _ rfl) (fun _ => ?_)
    exact eZ (fun x => am.fin _ _ _ x) List.mem_cons_self
end

def aD.eff (i : aD) : Int × Int :=
  if i.op = 9 ∨ i.op = 11 ∨ i.op = 18 then (1, 1)
  else if i.op = 13 then (bS i.text.data.toList + 1, 1)
  else if i.op = 14 then (bS i.text.data.toList, 1)
  else if i.op = 16 ∨ i.op = 19 ∨ i.op = 21 ∨ i.op = 22 then (1, 0)
  else if i.op = 17 then (1, 2)
  else if i.op = 24 ∨ i.op = 25 then (2, 2)
  else if i.op = 26 then (2, 1)
  else if i.op = 20 ∨ i.op = 23 then (0, 0)
  else (0, 1)
def aD.labs (i : aD) : List Int :=
  if i.op = 20 then [i.a] else if i.op = 21 ∨ i.op = 22 then [i.a, i.b] else if i.op = 24 ∨ i.op = 25 ∨ i.op = 26 then [i.b] else []
def aD.nexts (i : aD) (at_ d : Int) : List (Int × Int) :=
  if i.op = 19 then []
  else if i.op = 20 then [(i.a, d - i.eff.1 + i.eff.2)]
  else if i.op = 21 ∨ i.op = 22 then [(at_ + 1, d - i.eff.1 + i.eff.2), (i.a, d - i.eff.1 + i.eff.2), (i.b, d - i.eff.1 + i.eff.2 + 1)]
  else if i.op = 24 ∨ i.op = 25 then [(at_ + 1, d - i.eff.1 + i.eff.2), (i.b, d - 1)]
  else if i.op = 26 then [(at_ + 1, d - i.eff.1 + i.eff.2), (i.b, d)]
  else [(at_ + 1, d - i.eff.1 + i.eff.2)]

theorem kh (k : Int) : k = 9 ∨ k = 11 ∨ k = 13 ∨ k = 14 ∨ k = 16 ∨ k = 17 ∨ k = 18 ∨ k = 19 ∨ k = 20 ∨ k = 21 ∨ k = 22 ∨ k = 23 ∨ k = 24 ∨ k = 25 ∨ k = 26 ∨ (¬ k = 9 ∧ ¬ k = 11 ∧ ¬ k = 13 ∧ ¬ k = 14 ∧ ¬ k = 16 ∧ ¬ k = 17 ∧ ¬ k = 18 ∧ ¬ k = 19 ∧ ¬ k = 20 ∧ ¬ k = 21 ∧ ¬ k = 22 ∧ ¬ k = 23 ∧ ¬ k = 24 ∧ ¬ k = 25 ∧ ¬ k = 26) := by omega

theorem wb (l : List UInt8) : cm l = decide (0 ≤ bS l) := by
  unfold cm bS
  cases iQ l
  · cases ce l
    · cases kwL l <;> simp
    · simp
  · simp
theorem nt (l : List UInt8) : -1 ≤ bS l := by
  unfold bS
  split
  · omega
  · split
    · omega
    · split <;> omega
theorem uK {l : List UInt8} {ps : List (List UInt8)} (h : kwL l = some ps) : ps.length ≤ 4 := by
  unfold kwL at h
  split at h
  · split at h
    · rename_i h2
      simp only [Bool.and_eq_true, decide_eq_true_eq] at h2
      cases h; exact h2.2
    · cases h
  · cases h
theorem m9 (l : List UInt8) : bS l ≤ 4 := by
  unfold bS
  split
  · omega
  · split
    · omega
    · split
      · rename_i ps h
        have := uK h
        omega
      · omega
theorem fS (i : aD) : -1 ≤ i.eff.1 ∧ i.eff.1 ≤ 5 ∧ 0 ≤ i.eff.2 ∧ i.eff.2 ≤ 2 := by
  have h1 := nt i.text.data.toList
  have h2 := m9 i.text.data.toList
  unfold aD.eff
  repeat' split
  all_goals (refine ⟨?_, ?_, ?_, ?_⟩ <;> simp <;> omega)

def gd (ds : List Int) (p : Int) : Int := ds.getD p.toNat 0
def yh (is : List aD) (p : Int) : Int := ((is[p.toNat]?).map aD.op).getD 0

def cU (n : Nat) (i : aD) : Bool := inR i.op 1 26 && (!(decide (i.op = 13) || decide (i.op = 14)) || decide (0 ≤ bS i.text.data.toList)) && i.labs.all fun l => inR l 0 ((n : Int) - 1)
def gO (is : List aD) : Bool := is.all (cU is.length)

abbrev Dst := List Int × List Nat
def pl (n : Nat) (ds : List Int) (p d : Int) : Bool := !inR p 0 ((n : Int) - 1) || decide (250 < d) || (decide (0 ≤ gd ds p) && !decide (gd ds p = d))
def eT (n : Nat) : List (Int × Int) → Dst → Option Dst
  | [], s => some s
  | (p, d) :: r, (ds, q) => if pl n ds p d then none else if gd ds p < 0 then eT n r (ds.set p.toNat d, q ++ [p.toNat]) else eT n r (ds, q)
def eY (is : List aD) (at_ : Int) (op l : Int) : Bool := !decide (op = 26) && decide (l ≤ at_) && !decide (yh is l = 23)
def iW (is : List aD) (i : aD) (at_ : Nat) (ds : List Int) : Option Dst :=
  if gd ds at_ < i.eff.1 then none
  else if i.labs.any (eY is at_ i.op) then none
  else eT is.length (i.nexts at_ (gd ds at_)) (ds, [])
def rR (is : List aD) (at_ : Int) (op p : Int) : Bool := decide ((is.length : Int) ≤ p) || eY is at_ op p
def gp (is : List aD) (at_ op : Int) : List (Int × Int) → Dst → Option Dst
  | [], s => some s
  | (p, d) :: r, (ds, q) => if rR is at_ op p then none else if gd ds p = -1 then gp is at_ op r (ds.set p.toNat d, q ++ [p.toNat]) else if gd ds p = d then gp is at_ op r (ds, q) else none
def ny (is : List aD) (i : aD) (at_ : Nat) (ds : List Int) : Option Dst :=
  if gd ds at_ - i.eff.1 < 0 ∨ 250 < gd ds at_ - i.eff.1 + i.eff.2 then none
  else gp is at_ i.op (i.nexts at_ (gd ds at_)) (ds, [])

def jE : List (Int × Int) → Dst → Option Dst
  | [], s => some s
  | (p, d) :: r, (ds, q) => if gd ds p < 0 then jE r (ds.set p.toNat d, q ++ [p.toNat]) else if gd ds p = d then jE r (ds, q) else none
def okP (n : Nat) (x : Int × Int) : Bool := inR x.1 0 ((n : Int) - 1) && decide (x.2 ≤ 250)
theorem rf (n : Nat) : ∀ (l : List (Int × Int)) (s : Dst), eT n l s = if l.all (okP n) then jE l s else none
  | [], s => by simp [eT, jE]
  | (p, d) :: r, (ds, q) => by
    have ih := rf n r
    by_cases hr : inR p 0 ((n : Int) - 1) = true
    · by_cases hd : d ≤ 250
      · have hd' : ¬ 250 < d := by omega
        by_cases hg : gd ds p < 0
        · have hg' : ¬ 0 ≤ gd ds p := by omega
          simp only [eT, pl, jE, okP, List.all_cons, hr, hd, hd', hg, hg', ih, decide_true, decide_false, Bool.not_true, Bool.or_false, Bool.false_and, Bool.true_and, if_true, Bool.false_eq_true, if_false]
        · have hg' : 0 ≤ gd ds p := by omega
          by_cases he : gd ds p = d
          · have h1 : ¬ d < 0 := he ▸ hg
            have h2 : 0 ≤ d := he ▸ hg'
            simp only [eT, pl, jE, okP, List.all_cons, hr, hd, hd', he, h1, h2, ih, decide_true, decide_false, Bool.not_true, Bool.or_false, Bool.true_and, if_true, Bool.false_eq_true, if_false]
          · simp [eT, pl, jE, okP, hr, hd, hd', hg, hg', he]
            exact (ite_self _).symm
      · have hd' : 250 < d := by omega
        simp [eT, pl, okP, hr, hd, hd']
    · simp [eT, pl, okP, hr]

def wD (ds : List Int) : Prop := ∀ x ∈ ds, -1 ≤ x ∧ x ≤ 250
theorem wD.gd {ds : List Int} (h : wD ds) (p : Int) : -1 ≤ gd ds p ∧ gd ds p ≤ 250 := by
  unfold Proofs.YthpdkhejeookhaaGreatDoor.gd
  rw [List.getD_eq_getElem?_getD]
  cases hp : ds[p.toNat]? with
  | none => simp
  | some x => exact h x (List.mem_of_getElem? hp)
theorem wD.set {ds : List Int} (h : wD ds) {d : Int} (h0 : -1 ≤ d) (h1 : d ≤ 250) (p : Nat) : wD (ds.set p d) := fun x hx => by
  rcases List.mem_or_eq_of_mem_set hx with hx | rfl
  · exact h x hx
  · exact ⟨h0, h1⟩
theorem rB (is : List aD) (at_ op : Int) : ∀ (l : List (Int × Int)) (s : Dst), wD s.1 → (∀ x ∈ l, 0 ≤ x.2 ∧ x.2 ≤ 250) → gp is at_ op l s = if l.all (fun x => !rR is at_ op x.1) then jE l s else none
  | [], s, _, _ => by simp [gp, jE]
  | (p, d) :: r, (ds, q), hI, hl => by
    have ih := rB is at_ op r
    have hd := hl (p, d) (by simp)
    have hl' : ∀ x ∈ r, 0 ≤ x.2 ∧ x.2 ≤ 250 := fun x hx => hl x (by simp [hx])
    have hg := hI.gd p
    by_cases hb : rR is at_ op p = true
    · simp [gp, hb]
    · by_cases h1 : gd ds p = -1
      · have h2 : gd ds p < 0 := by omega
        have := ih (ds.set p.toNat d, q ++ [p.toNat]) (hI.set (by omega) hd.2 _) hl'
        simp only [gp, jE, List.all_cons, hb, h1, if_true, Bool.false_eq_true, if_false, Bool.not_false, Bool.true_and, this, show ((-1 : Int) < 0) from by omega]
      · have h2 : ¬ gd ds p < 0 := by simp only at hg; omega
        by_cases he : gd ds p = d
        · have h3 : ¬ d < 0 := he ▸ h2
          have h4 : ¬ d = -1 := he ▸ h1
          have := ih (ds, q) hI hl'
          simp only [gp, jE, List.all_cons, hb, he, h3, h4, if_true, Bool.false_eq_true, if_false, Bool.not_false, Bool.true_and, this]
        · simp [gp, jE, hb, h1, h2, he]
          exact (ite_self _).symm

theorem wd (i : aD) (at_ : Nat) (g : Int) (h0 : 0 ≤ g) (h1 : g ≤ 250) (h : 250 < g - i.eff.1 + i.eff.2) (_hl : ∀ _l : Int, True) : ∃ x ∈ i.nexts at_ g, 250 < x.2 := by
  rcases kh i.op with h' | h' | h' | h' | h' | h' | h' | h' | h' | h' | h' | h' | h' | h' | h' | h'
  all_goals first
    | (refine ⟨((at_ : Int) + 1, g - i.eff.1 + i.eff.2), ?_, h⟩; simp [aD.nexts, h']; done)
    | (refine ⟨(i.a, g - i.eff.1 + i.eff.2), ?_, h⟩; simp [aD.nexts, h']; done)
    | (exfalso; simp [aD.eff, h'] at h; omega)
theorem pZ (i : aD) (at_ : Nat) (g : Int) (h0 : 0 ≤ g) (h1 : g ≤ 250) (ht : ¬ g < i.eff.1) (h : ¬ 250 < g - i.eff.1 + i.eff.2) (_hsel : i.op = 14 → 0 ≤ i.eff.1) : ∀ x ∈ i.nexts at_ g, 0 ≤ x.2 ∧ x.2 ≤ 250 := by
  have he := fS i
  intro x hx
  rcases kh i.op with h' | h' | h' | h' | h' | h' | h' | h' | h' | h' | h' | h' | h' | h' | h' | h'
  all_goals first
      | (simp [aD.nexts, h'] at hx; done)
      | skip
  all_goals
    simp [aD.nexts, h'] at hx
    try simp [aD.eff, h'] at ht h he _hsel hx
    first
      | (subst hx; simp; omega)
      | (rcases hx with rfl | rfl <;> simp <;> omega)
      | (rcases hx with rfl | rfl | rfl <;> simp <;> omega)
theorem xX (n : Nat) (l : Int) : inR l 0 ((n : Int) - 1) = (decide (0 ≤ l) && !decide ((n : Int) ≤ l)) := by
  simp only [inR]; rw [Bool.eq_iff_iff]; simp; omega
theorem tP (is : List aD) (i : aD) (at_ : Nat) (g : Int) (_h0 : 0 ≤ g) (h1 : g ≤ 250) (_ht : ¬ g < i.eff.1) (h : ¬ 250 < g - i.eff.1 + i.eff.2) (hlab : (i.labs.all fun l => inR l 0 ((is.length : Int) - 1)) = true) :
    (!i.labs.any (eY is at_ i.op) && (i.nexts at_ g).all (okP is.length)) = (i.nexts at_ g).all (fun x => !rR is at_ i.op x.1) := by
  have hb1 : ∀ op, eY is at_ op ((at_ : Int) + 1) = false := fun op => by
    simp only [eY]
    rw [show decide ((at_ : Int) + 1 ≤ at_) = false from decide_eq_false (by omega)]; simp
  have hin1 : inR ((at_ : Int) + 1) 0 ((is.length : Int) - 1) = !decide ((is.length : Int) ≤ (at_ : Int) + 1) := by
    rw [xX, show decide (0 ≤ (at_ : Int) + 1) = true from decide_eq_true (by omega)]; rfl
  have hl2 : ∀ l ∈ i.labs, inR l 0 ((is.length : Int) - 1) = true ∧ decide ((is.length : Int) ≤ l) = false := fun l hl => by
    have := List.all_eq_true.1 hlab l hl
    refine ⟨this, ?_⟩
    simp only [inR, decide_eq_true_eq] at this
    exact decide_eq_false (by omega)
  rcases kh i.op with h' | h' | h' | h' | h' | h' | h' | h' | h' | h' | h' | h' | h' | h' | h' | h'
  all_goals
    simp only [aD.labs, aD.eff, h'] at hl2 _ht h
    simp [aD.nexts, aD.labs, aD.eff, h', okP, rR, hb1, hin1]
    try simp at hl2 _ht h
  all_goals first
    | (intros; omega)
    | grind

theorem uo (is : List aD) (i : aD) (at_ : Nat) (ds : List Int) (hI : wD ds) (hp : cU is.length i = true) (hg : 0 ≤ gd ds at_) : iW is i at_ ds = ny is i at_ ds := by
  have hr := hI.gd at_
  unfold iW ny
  by_cases ht : gd ds at_ < i.eff.1
  · rw [if_pos ht, if_pos (by omega)]
  rw [if_neg ht]
  simp only [cU, Bool.and_eq_true] at hp
  obtain ⟨⟨hop, hsel⟩, hlab⟩ := hp
  have hsel' : i.op = 14 → 0 ≤ i.eff.1 := fun h => by
    simp [h] at hsel
    simp [aD.eff, h]; exact hsel
  rw [rf]
  by_cases h250 : 250 < gd ds at_ - i.eff.1 + i.eff.2
  · rw [if_pos (Or.inr h250)]
    obtain ⟨x, hx, hx2⟩ := wd i at_ _ hg hr.2 h250 fun _ => trivial
    have hno : (i.nexts at_ (gd ds at_)).all (okP is.length) = false := by
      rw [List.all_eq_false]
      exact ⟨x, hx, by simp [okP]; intro _; omega⟩
    rw [hno]; simp
  · rw [if_neg (c := gd ds at_ - i.eff.1 < 0 ∨ 250 < gd ds at_ - i.eff.1 + i.eff.2) (by omega), rB _ _ _ _ _ hI (pZ i at_ _ hg hr.2 ht h250 hsel')]
    have key := tP is i at_ _ hg hr.2 ht h250 hlab
    by_cases hA : i.labs.any (eY is at_ i.op) = true
    · rw [hA] at key
      rw [if_pos hA, ← key]; rfl
    · rw [if_neg hA]
      rw [Bool.not_eq_true] at hA
      rw [hA] at key
      rw [← key]; rfl


structure DSt (n : Nat) (ds : List Int) (q : List Nat) (k : Nat) : Prop where
  len : ds.length = n
  inv : wD ds
  ok : ∀ p ∈ q, p < n ∧ 0 ≤ gd ds p
  mu : q.length + ds.countP (· < 0) ≤ k
theorem yc {ds : List Int} {p : Int} (hp : p.toNat < ds.length) (d : Int) (x : Nat) : gd (ds.set p.toNat d) (x : Int) = if p.toNat = x then d else gd ds x := by
  unfold gd
  simp only [Int.toNat_natCast, List.getD_eq_getElem?_getD, List.getElem?_set]
  split
  · rename_i h; subst h; simp
  · rfl
theorem lV {ds : List Int} {p : Nat} (hp : p < ds.length) : gd ds (p : Int) = ds[p] := by
  unfold gd; simp [hp]
theorem DSt.push {n : Nat} {ds : List Int} {q : List Nat} {k : Nat} (h : DSt n ds q k) {p d : Int} (hp : inR p 0 ((n : Int) - 1) = true) (h0 : 0 ≤ d) (h1 : d ≤ 250) (hg : gd ds p < 0) : DSt n (ds.set p.toNat d) (q ++ [p.toNat]) k := by
  simp only [inR, decide_eq_true_eq] at hp
  have hl := h.len
  have hpl : p.toNat < ds.length := by omega
  refine ⟨by simp [hl], h.inv.set (by omega) h1 _, fun x hx => ?_, ?_⟩
  · rw [yc hpl]
    rcases List.mem_append.1 hx with hx | hx
    · refine ⟨(h.ok x hx).1, ?_⟩
      split
      · exact h0
      · exact (h.ok x hx).2
    · simp at hx; subst hx
      exact ⟨by omega, by rw [if_pos rfl]; exact h0⟩
  · have hn : ds[p.toNat] < 0 := by
      have := lV hpl
      have hpp : ((p.toNat : Nat) : Int) = p := by omega
      rw [hpp] at this; omega
    have hc := List.countP_set (p := fun x : Int => decide (x < 0)) (l := ds) (a := d) hpl
    have hpos : 0 < ds.countP (fun x : Int => decide (x < 0)) := List.countP_pos_iff.2 ⟨_, List.getElem_mem hpl, by simpa using hn⟩
    have hm := h.mu
    simp only [hn, decide_true, if_true, show decide (d < 0) = false from decide_eq_false (by omega), Bool.false_eq_true, if_false] at hc
    rw [List.length_append, List.length_singleton, hc]
    omega
theorem DSt.pop {n : Nat} {ds : List Int} {p : Nat} {q : List Nat} {k : Nat} (h : DSt n ds (p :: q) k) : ∃ j, k = j + 1 ∧ DSt n ds q j ∧ p < n ∧ 0 ≤ gd ds p := by
  have hm := h.mu
  rw [List.length_cons] at hm
  exact ⟨k - 1, by omega, ⟨h.len, h.inv, fun x hx => h.ok x (by simp [hx]), by omega⟩, h.ok p (by simp)⟩

def nj (is : List aD) (step : aD → Nat → List Int → Option Dst) : Nat → List Int → List Nat → Option (List Int)
  | _, ds, [] => some ds
  | 0, _, _ :: _ => none
  | f + 1, ds, p :: q => match is[p]? with
    | none => none
    | some i => match step i p ds with
      | none => none
      | some (ds', new) => nj is step f ds' (q ++ new)
theorem fH (is : List aD) (step : aD → Nat → List Int → Option Dst) (f : Nat) (ds : List Int) {p : Nat} (q : List Nat) (hp : p < is.length) : nj is step (f + 1) ds (p :: q) = match step is[p] p ds with
      | none => none
      | some (ds', new) => nj is step f ds' (q ++ new) := by
  simp only [nj, List.getElem?_eq_getElem hp]

theorem ew (i : aD) (at_ : Nat) (g : Int) (h0 : 0 ≤ g) (ht : ¬ g < i.eff.1) (_hsel : i.op = 14 → 0 ≤ i.eff.1) : ∀ x ∈ i.nexts at_ g, 0 ≤ x.2 := by
  have he := fS i
  intro x hx
  rcases kh i.op with h' | h' | h' | h' | h' | h' | h' | h' | h' | h' | h' | h' | h' | h' | h' | h'
  all_goals first
      | (simp [aD.nexts, h'] at hx; done)
      | skip
  all_goals
    simp [aD.nexts, h'] at hx
    try simp [aD.eff, h'] at ht he _hsel hx
    first
      | (subst hx; simp; omega)
      | (rcases hx with rfl | rfl <;> simp <;> omega)
      | (rcases hx with rfl | rfl | rfl <;> simp <;> omega)

theorem f3 {n k : Nat} : ∀ (l : List (Int × Int)) (ds : List Int) (q0 new : List Nat) (s : Dst), (∀ x ∈ l, 0 ≤ x.2) → DSt n ds (q0 ++ new) k → eT n l (ds, new) = some s → DSt n s.1 (q0 ++ s.2) k
  | [], ds, q0, new, s, _, h, e => by simp only [eT, Option.some.injEq] at e; subst e; exact h
  | (p, d) :: r, ds, q0, new, s, hl, h, e => by
    have h0 := hl (p, d) (by simp)
    have hr : ∀ x ∈ r, 0 ≤ x.2 := fun x hx => hl x (by simp [hx])
    simp only [eT] at e
    by_cases hb : pl n ds p d = true
    · rw [if_pos hb] at e; cases e
    · rw [if_neg hb] at e
      simp only [pl, Bool.or_eq_true, not_or, Bool.not_eq_true, Bool.not_eq_false', decide_eq_false_iff_not] at hb
      by_cases hg : gd ds p < 0
      · rw [if_pos hg] at e
        exact f3 r _ q0 _ s hr (by rw [← List.append_assoc]; exact h.push hb.1.1 h0 (by omega) hg) e
      · rw [if_neg hg] at e
        exact f3 r _ q0 _ s hr h e

theorem uD (is : List aD) (hp : gO is = true) : ∀ (f : Nat) (ds : List Int) (q : List Nat), DSt is.length ds q f → nj is (iW is) f ds q = nj is (ny is) f ds q
  | _, _, [], _ => by simp [nj]
  | 0, _, _ :: _, _ => by simp [nj]
  | f + 1, ds, p :: q, h => by
    obtain ⟨j, hj, hst, hpl, hg⟩ := h.pop
    obtain rfl : f = j := by omega
    rw [fH _ _ _ _ _ hpl, fH _ _ _ _ _ hpl]
    have hpi : cU is.length is[p] = true := List.all_eq_true.1 hp _ (List.getElem_mem _)
    have hse := uo is is[p] p ds h.inv hpi hg
    rw [← hse]
    cases hs : iW is is[p] p ds with
    | none => rfl
    | some s =>
      have hsel : is[p].op = 14 → 0 ≤ is[p].eff.1 := fun h14 => by
        simp only [cU, Bool.and_eq_true] at hpi
        have := hpi.1.2
        simp [h14] at this
        simp [aD.eff, h14]; exact this
      unfold iW at hs
      by_cases ht : gd ds p < is[p].eff.1
      · rw [if_pos ht] at hs; cases hs
      · rw [if_neg ht] at hs
        by_cases hA : (is[p].labs.any (eY is p is[p].op)) = true
        · rw [if_pos hA] at hs; cases hs
        · rw [if_neg hA] at hs
          have hst' := f3 _ ds q [] s (ew _ p _ hg ht hsel) (by rw [List.append_nil]; exact hst) hs
          exact uD is hp f s.1 (q ++ s.2) hst'

def bP (is : List aD) : Option (List Int) :=
  if is.length = 0 then none else if gO is then nj is (iW is) is.length (0 :: List.replicate (is.length - 1) (-1)) [0] else none
theorem jK {n : Nat} (hn : 1 ≤ n) : DSt n (0 :: List.replicate (n - 1) (-1)) [0] n := by
  refine ⟨by simp; omega, fun x hx => ?_, fun p hp => ?_, ?_⟩
  · rcases List.mem_cons.1 hx with rfl | hx
    · omega
    · rw [List.eq_of_mem_replicate hx]; omega
  · simp at hp; subst hp; exact ⟨by omega, by simp [gd]⟩
  · simp [List.countP_replicate]; omega
set_option maxRecDepth 20000
theorem lH {P : Program} {G : World → Prop} {f : FuncId} {s : ByteArray} {n : Int} (h : ∀ w, G w → Calls P f #[.string s] w fun e w' => e = .returned (.int .i64 n) ∧ Below w.heap.size w w') : Ct P G f [.str s] (fun _ => .int .i64 n) := fun w vs _ hG hs hr => by
  obtain ⟨v, rfl, h1⟩ := ya hs hr
  rw [h1.str_inv]
  refine (h w hG).mono ?_
  rintro e w' ⟨rfl, hb⟩
  exact ⟨_, rfl, hb, fun _ _ => .int _ _⟩
def aD.tv (x : aD) : List TV := [.int .i64 x.op, .int .i64 x.a, .int .i64 x.b, .str x.text]
set_option maxRecDepth 4000 in
set_option maxHeartbeats 2000000 in
theorem nC {G : World → Prop} (hst : aY G) (hca : ∀ s : ByteArray, s.size ≤ 1048576 → Ct Tryz.prog G 183 [.str s] (fun _ => .int .i64 (bS s.data.toList))) (op a b : Int) (t : ByteArray) (hs : t.size ≤ 1048576) (hop : inR op 1 26 = true) : Ct Tryz.prog G 197 [.agg [.int .i64 op, .int .i64 a, .int .i64 b, .str t]] (fun _ => .tup [.int .i64 (aD.eff ⟨op, a, b, t⟩).1, .int .i64 (aD.eff ⟨op, a, b, t⟩).2]) := by
  refine aJ Tryz.func197 rfl Tryz.ntmps197 rfl rfl fun w0 _ hG => ?_
  have h1 := nt t.data.toList
  have h2 := m9 t.data.toList
  simp only [inR, decide_eq_true_eq] at hop
  repeat' (first | ((with_reducible apply o_y); exact y_; rfl) | refine bf ?_ | refine aw hG hst (hca _ hs) ?_ | with_reducible refine ab rfl ?_ | (with_reducible first | apply ag | apply aa | apply ah | apply ac | apply ai | apply ap | apply au | apply ad | apply ak | apply aB) | (refine ae rfl rr_ dd_ ?_) | (refine bD rfl rr_ (fun hc => ?_) (fun hc => ?_)))
  all_goals
    clear hst
    have he : aD.eff ⟨op, a, b, t⟩ = aD.eff ⟨op, a, b, t⟩ := rfl
    conv at he => rhs; unfold aD.eff
    dsimp only at he
    rw [he]
    refine dq x_ rfl (.tmp _ _ rfl) (.tmp _ _ rfl) (fun _ => ?_) (fun _ => ?_)
    all_goals
      refine uX ?_
      first
        | (subst hc; simp; done)
        | (have h3 : op = 20 ∨ op = 23 := by omega
           rcases h3 with rfl | rfl <;> simp; done)

theorem Tryz.infoInt : (Tryz.prog.info? 3).map (fun i => (i.zero, i.size, i.bytes)) = some (some (.int .i64 0), 1, 8) := by kernel_rfl

def w9 (zs : List Int) : List PT := zs.map (PT.int .i64)
def xx (k n : Nat) : List Int := (List.range n).map fun i => ((k + i : Nat) : Int)

def yC (ds : List Int) : Array Value := (ds.map (Value.int .i64)).toArray
theorem vX (ds : List Int) (p : Nat) (d : Int) : (yC ds).setIfInBounds p (.int .i64 d) = yC (ds.set p d) := by
  unfold yC
  rw [List.setIfInBounds_toArray, List.map_set]
def nts (q : List Nat) : List Int := q.map Int.ofNat
theorem rN (a b : List Nat) : nts (a ++ b) = nts a ++ nts b := by simp [nts]
theorem f9.blk {w : World} {g : Nat} {e : TypeId} {xs : List Value} (h : f9 w g e xs.length xs) : Blk w g e xs.toArray := by
  obtain ⟨cur, h1, h2, _, h4⟩ := h
  have : cur = xs.toArray := by
    rw [List.take_of_length_le (by simp [h2])] at h4
    rw [← h4]
  rw [← this]; exact h1
def yx (x : aD) : Array Value := #[.int .i64 x.op, .int .i64 x.a, .int .i64 x.b, .string x.text]
structure kC (w wi : World) (g B B2 gb : Nat) (x : aD) (L : List (Int × Int)) (A13 : Option Addr) (c13 : Nat) (A14 : Option Addr) (c14 : Nat) (r14 : List Int) (ds : List Int) (tl : List Nat) (A : Option Addr) (c : Nat) : Prop where
  own : ck wi (fun b => g < b ∧ (b < B ∨ B2 ≤ b)) (.sl A c 1 (w9 (nts tl)))
  dep : Blk wi g 3 (yC ds)
  s13 : dl wi (Rng B B2) (.sl A13 c13 1 (w9 (L.map Prod.fst)))
  s14 : dl wi (Rng B B2) (.sl A14 c14 1 (w9 (L.map Prod.snd ++ r14)))
  box : Blk wi gb 116 (yx x)
  old : Below w.heap.size w wi
  sz : B2 ≤ wi.heap.size
  hg : g < B
  hg0 : w.heap.size ≤ g
  hB : B ≤ B2
  hgb : B ≤ gb
  hgb2 : gb < B2
section
variable {w wi : World} {g B B2 gb : Nat} {x : aD} {L : List (Int × Int)} {A13 : Option Addr} {c13 : Nat} {A14 : Option Addr} {c14 : Nat} {r14 : List Int} {ds : List Int} {tl : List Nat} {A : Option Addr} {c : Nat}
theorem kC.set (h : kC w wi g B B2 gb x L A13 c13 A14 c14 r14 ds tl A c) (p : Nat) (d : Int) : kC w (wi.setCell ⟨g, p, none⟩ (.int .i64 d)) g B B2 gb x L A13 c13 A14 c14 r14 (ds.set p d) tl A c :=
  ⟨h.own.far (p := ⟨g, p, none⟩) (fun hh => by have := hh.1; simp at this) _, by rw [← vX]; exact h.dep.set_ p _,
   h.s13.keep (fun b hb => Below.heap_setCell _ _ _ _ (by have := hb.1; have := h.hg; simp only; omega)) (fun _ hb _ => hb),
   h.s14.keep (fun b hb => Below.heap_setCell _ _ _ _ (by have := hb.1; have := h.hg; simp only; omega)) (fun _ hb _ => hb),
   h.box.far (p := ⟨g, p, none⟩) (by have := h.hg; have := h.hgb; simp only; omega) _, h.old.setCell h.hg0 _, by have := h.sz; simpa [World.setCell] using this, h.hg, h.hg0, h.hB, h.hgb, h.hgb2⟩
theorem kC.drewN (h : kC w wi g B B2 gb x L A13 c13 A14 c14 r14 ds tl A c) (n : Nat) : kC w (wi.drewN n) g B B2 gb x L A13 c13 A14 c14 r14 ds tl A c :=
  ⟨h.own.keep fun _ _ _ => rfl, h.dep, h.s13.keep (fun _ _ => rfl) fun _ hb _ => hb, h.s14.keep (fun _ _ => rfl) fun _ hb _ => hb, h.box, bw h.old n, h.sz, h.hg, h.hg0, h.hB, h.hgb, h.hgb2⟩
theorem kC.push (h : kC w wi g B B2 gb x L A13 c13 A14 c14 r14 ds tl A c) {w2 : World} {A' : Option Addr} {c' p : Nat} (ho : ck w2 (fun b => g < b ∧ (b < B ∨ B2 ≤ b)) (.sl A' c' 1 (w9 (nts tl ++ [(p : Int)])))) (ht : cW (· ∈ PT.rowOf A) wi w2) : kC w w2 g B B2 gb x L A13 c13 A14 c14 r14 ds (tl ++ [p]) A' c' := by
  have hA : ∀ b, b ∈ PT.rowOf A → g < b ∧ (b < B ∨ B2 ≤ b) := fun b hb => h.own.2.2 b (by simp [PT.blocks, hb])
  refine ⟨by rw [rN]; exact ho, h.dep.touch ht fun hb => by have := (hA g hb).1; omega, h.s13.touch ht fun b hb _ hm => ?_, h.s14.touch ht fun b hb _ hm => ?_, h.box.touch ht fun hb => ?_, h.old.trans (ht.below h.old.size fun b hb => by have := (hA b hb).1; have := h.hg0; omega), Nat.le_trans h.sz ht.size, h.hg, h.hg0, h.hB, h.hgb, h.hgb2⟩
  · have h1 := hA b hm; have h2 := hb.1; have h3 := hb.2; omega
  · have h1 := hA b hm; have h2 := hb.1; have h3 := hb.2; omega
  · have h1 := hA gb hb; have h2 := h.hgb; have h3 := h.hgb2; omega
end

structure rb (w wx : World) (g : Nat) (ds : List Int) (tl : List Nat) (A : Option Addr) (c : Nat) : Prop where
  own : ck wx (g < ·) (.sl A c 1 (w9 (nts tl)))
  dep : Blk wx g 3 (yC ds)
  old : Below w.heap.size w wx
  hg0 : w.heap.size ≤ g
theorem rb.below {w wx w' : World} {g : Nat} {ds : List Int} {tl : List Nat} {A : Option Addr} {c : Nat} (h : rb w wx g ds tl A c) (hb : Below wx.heap.size wx w') : rb w w' g ds tl A c :=
  ⟨h.own.below hb, h.dep.below hb h.dep.lt, h.old.trans (hb.mono h.old.size), h.hg0⟩
theorem kC.out {w wi : World} {g B B2 gb : Nat} {x : aD} {L : List (Int × Int)} {A13 : Option Addr} {c13 : Nat} {A14 : Option Addr} {c14 : Nat} {r14 : List Int} {ds : List Int} {tl : List Nat} {A : Option Addr} {c : Nat} (h : kC w wi g B B2 gb x L A13 c13 A14 c14 r14 ds tl A c) : rb w wi g ds tl A c :=
  ⟨h.own.mono fun _b hb _ => hb.1, h.dep, h.old, h.hg0⟩
theorem wl {is : List aD} {i : aD} {at_ : Nat} {ds ds' : List Int} {new q : List Nat} {k : Nat} (hpi : cU is.length i = true) (hD : DSt is.length ds q k) (hg : 0 ≤ gd ds at_) (h : ny is i at_ ds = some (ds', new)) : DSt is.length ds' (q ++ new) k := by
  rw [← uo is i at_ ds hD.inv hpi hg] at h
  have hsel : i.op = 14 → 0 ≤ i.eff.1 := fun h14 => by
    simp only [cU, Bool.and_eq_true] at hpi
    have := hpi.1.2
    simp [h14] at this
    simp [aD.eff, h14]; exact this
  unfold iW at h
  by_cases ht : gd ds at_ < i.eff.1
  · rw [if_pos ht] at h; cases h
  · rw [if_neg ht] at h
    by_cases hA : (i.labs.any (eY is at_ i.op)) = true
    · rw [if_pos hA] at h; cases h
    · rw [if_neg hA] at h
      exact f3 _ ds q [] _ (ew _ at_ _ hg ht hsel) (by rw [List.append_nil]; exact hD) h

theorem rU (is : List aD) (at_ op p d : Int) (r : List (Int × Int)) (ds : List Int) (q : List Nat) : gp is at_ op ((p, d) :: r) (ds, q) = if rR is at_ op p then none else if gd ds p = -1 then gp is at_ op r (ds.set p.toNat d, q ++ [p.toNat]) else if gd ds p = d then gp is at_ op r (ds, q) else none := rfl

def cG (is : List aD) : Option (List Int) := if is.length = 0 then none else nj is (ny is) is.length (0 :: List.replicate (is.length - 1) (-1)) [0]
theorem lC (is : List aD) (hp : gO is = true) : bP is = cG is := by
  unfold bP cG
  rw [if_pos hp]
  split
  · rfl
  · rename_i h
    exact uD is hp _ _ _ (jK (by omega))
theorem uT {n : Nat} (i : aD) (at_ : Nat) (d : Int) (h : cU n i = true) : ∀ x ∈ i.nexts at_ d, 0 ≤ x.1 := by
  simp only [cU, Bool.and_eq_true] at h
  have hl := h.2
  simp only [List.all_eq_true, inR, decide_eq_true_eq] at hl
  intro x hx
  rcases kh i.op with h' | h' | h' | h' | h' | h' | h' | h' | h' | h' | h' | h' | h' | h' | h' | h'
  all_goals
    simp only [aD.labs, h'] at hl
    simp [aD.nexts, h'] at hx
    try simp at hl
    try first
      | (subst hx; simp; omega)
      | (rcases hx with rfl | rfl <;> simp <;> omega)
      | (rcases hx with rfl | rfl | rfl <;> simp <;> omega)
theorem n8 (i : aD) (a d : Int) : (i.nexts a d).length ≤ 3 := by
  unfold aD.nexts
  repeat' split
  all_goals simp
end Go.Proofs.YthpdkhejeookhaaGreatDoor
