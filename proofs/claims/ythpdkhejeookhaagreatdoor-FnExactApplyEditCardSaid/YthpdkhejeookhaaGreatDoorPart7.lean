/- Part 7 of the proof: the texts LwT, IvA, DepP, DepF, SdA, Ints, DepG. -/
import Derived.Test.YthpdkhejeookhaaGreatDoorPart6
import Derived.Test.YthpdkhejeookhaaGreatDoorPart5
import Derived.Test.YthpdkhejeookhaaGreatDoorPart1
import Derived.Test.YthpdkhejeookhaaGreatDoorPart2
import Derived.Test.YthpdkhejeookhaaGreatDoorChecked
import Derived.Deep.QuietTactic
import Derived.BigQuiet
/- The laws' own helpers sz, to, eq, walked (frozen copies). Written by gen_lw.py. -/
namespace Go.Proofs.YthpdkhejeookhaaGreatDoor
set_option maxRecDepth 20000
open Go Go.RowKit
theorem take_all {α : Type} {p : α → Prop} {l : List α} {i : Nat} (h : i < l.length) (ha : ∀ y ∈ l.take i, p y) (hx : p l[i]) : ∀ y ∈ l.take (i + 1), p y := fun y hy => by
  rw [List.take_add_one, List.getElem?_eq_getElem h] at hy
  rcases List.mem_append.1 hy with hy | hy
  · exact ha y hy
  · simp at hy; subst hy; exact hx
/-- A copy under way. -/
def copyR {α : Type} (tw : α → List TV) (z : List TV) (l : List α) (i : Nat) : List (List TV) := (l.take i).map tw ++ List.replicate (l.length - i) z
theorem copyR_zero {α : Type} (tw : α → List TV) (z : List TV) (l : List α) : List.replicate l.length z = copyR tw z l 0 := by simp [copyR]
theorem copyR_full {α : Type} (tw : α → List TV) (z : List TV) (l : List α) : copyR tw z l l.length = l.map tw := by simp [copyR]
theorem copyR_set {α : Type} (tw : α → List TV) (z : List TV) {l : List α} {i : Nat} (h : i < l.length) : (copyR tw z l i)[i]? = some z ∧ (copyR tw z l i).set i (tw l[i]) = copyR tw z l (i + 1) := by
  have e : l.length - i = (l.length - (i + 1)) + 1 := by omega
  have hl : ((l.take i).map tw).length = i := by simp; omega
  unfold copyR
  refine ⟨?_, ?_⟩
  · rw [List.getElem?_append_right (by omega), hl, Nat.sub_self, e, List.replicate_succ]; rfl
  · rw [List.set_append_right _ _ (by omega), hl, Nat.sub_self, e, List.replicate_succ, List.set_cons_zero, show l.take (i + 1) = l.take i ++ [l[i]] from by rw [List.take_add_one, List.getElem?_eq_getElem h]; rfl, List.map_append, List.append_assoc]
    rfl
/-- Cells that end as others, one by one. -/
def FinL (B : Nat) (objs : Objs) (K : Nat) (l l' : List TV) : Prop := l'.length = l.length ∧ ∀ (j : Nat) (t t' : TV), l[j]? = some t → l'[j]? = some t' → Fin B objs K t t'
theorem FinL.nil {B : Nat} {objs : Objs} {K : Nat} : FinL B objs K [] [] := ⟨rfl, by simp⟩
theorem FinL.cons {B : Nat} {objs : Objs} {K : Nat} {t t' : TV} {l l' : List TV} (h : Fin B objs K t t') (hr : FinL B objs K l l') : FinL B objs K (t :: l) (t' :: l') := ⟨by simp [hr.1], fun j u u' h1 h2 => by
  cases j with
  | zero => simp at h1 h2; subst h1; subst h2; exact h
  | succ j => exact hr.2 j u u' (by simpa using h1) (by simpa using h2)⟩
theorem FinL.append {B : Nat} {objs : Objs} {K : Nat} {a a' b b' : List TV} (h : FinL B objs K a a') (k : FinL B objs K b b') : FinL B objs K (a ++ b) (a' ++ b') := ⟨by simp [h.1, k.1], fun j u u' h1 h2 => by
  by_cases hj : j < a.length
  · rw [List.getElem?_append_left hj] at h1
    rw [List.getElem?_append_left (by rw [h.1]; exact hj)] at h2
    exact h.2 j u u' h1 h2
  · rw [List.getElem?_append_right (by omega)] at h1
    rw [List.getElem?_append_right (by rw [h.1]; omega)] at h2
    rw [h.1] at h2
    exact k.2 _ u u' h1 h2⟩
theorem FinL.rows {α : Type} {B : Nat} {objs : Objs} {K : Nat} {f f' : α → List TV} (h : ∀ x, FinL B objs K (f x) (f' x)) : ∀ l : List α, FinL B objs K (l.map f).flatten (l.map f').flatten
  | [] => .nil
  | x :: r => by simpa using (h x).append (FinL.rows h r)
theorem FinL.lens {α : Type} {f f' : α → List TV} (h : ∀ x, (f' x).length = (f x).length) (l : List α) : (l.map f').map List.length = (l.map f).map List.length := by
  induction l with
  | nil => rfl
  | cons x r ih => simpa [h x] using ih
/-- A frozen slice ends as a frozen slice. -/
theorem fin_sl {α : Type} {B : Nat} {objs : Objs} {K m : Nat} {f f' : α → List TV} (h : ∀ x, FinL B objs K (f x) (f' x)) (l : List α) : Fin B objs K (.sl B m (l.map f)) (.sl K m (l.map f')) :=
  .sl B m _ _ (Nat.le_refl _) (FinL.lens (fun x => (h x).1) l) (FinL.rows h l).2
theorem fin_ms {α : Type} {B : Nat} {objs : Objs} {K s b m : Nat} {f f' : α → List TV} (h : ∀ x, FinL B objs K (f x) (f' x)) {l : List α} (hm : (s, b, TObj.row m (l.map f)) ∈ objs) : Fin B objs K (.ms s b 0 l.length) (.sl K m (l.map f')) :=
  .ms s b 0 l.length m _ (l.map f) _ hm (by simp) (by rw [List.drop_zero, List.take_of_length_le (by simp)]) (FinL.lens (fun x => (h x).1) l) (FinL.rows h l).2
theorem fin_agg {B : Nat} {objs : Objs} {K : Nat} {l l' : List TV} (h : FinL B objs K l l') : Fin B objs K (.agg l) (.agg l') := .agg l l' h.1 h.2
theorem strR_row {l : List ByteArray} {i : Nat} (h : i < l.length) : (strR l)[i]? = some [.str l[i]] := row_map h
theorem strR_len (l : List ByteArray) : (strR l).length = l.length := by simp [strR]
section
variable {G : World → Prop}
theorem szStringS_ct (lo : Nat) (l : List ByteArray) (left : Int) (h : 0 ≤ left ∧ left ≤ 1048576) (hb : l.length ≤ 9223372036854775807 ∧ ∀ y ∈ l, ByteArray.size y ≤ 9223372036854775807) : CtM Tryz.prog G 153 [.sl lo 1 (strR l), .int .i64 left] [] (fun y : Int => -1 ≤ y ∧ y ≤ left ∧ (0 ≤ y → l.length ≤ 1048576 ∧ ∀ y ∈ l, ByteArray.size y ≤ 1048576)) (fun _ => []) (fun y => .int .i64 y) := by
  refine ctm_enter Tryz.func153 rfl Tryz.ntmps153 rfl rfl rfl fun w0 R gs objsR hG hR => ?_
  obtain rfl := hR.inv0
  clear hR
  have hlen := strR_len l
  have hl1 := hb.1
  by_cases hn : left - l.length < 0
  · repeat' (first | ((with_reducible apply o_y); exact y_; rfl) | with_reducible refine al_none rfl ?_ | (with_reducible first | apply aw_seq | apply aw_region | apply al_nil | apply aq_then | apply aw_ret | apply aq_then_ret) | (refine aw_cond_dt rfl rr_ dd_ ?_))
    exact aq_retm1 x_ rfl (-1) ⟨by omega, by omega, fun h => by omega⟩ rfl (.nil R) (.refl _) (.tmp _ _ rfl) rfl
  · repeat' (first | ((with_reducible apply o_y); exact y_; rfl) | with_reducible refine al_none rfl ?_ | (with_reducible first | apply aw_seq | apply aw_region | apply al_nil | apply aq_then | apply aw_block | apply aw_skip) | (refine aw_cond_df rfl rr_ dd_ ?_))
    apply aw_loopk (X := Nat × Int) [0, 1000000] (fun x => [(5, .int .i64 (x.1 : Int)), (1, .int .i64 x.2)]) (fun _ => R) (fun x => x.1 ≤ l.length ∧ 0 ≤ x.2 ∧ x.2 ≤ left ∧ ∀ y ∈ l.take x.1, ByteArray.size y ≤ 1048576) (fun x => l.length - x.1) (0, left - l.length) ⟨Nat.zero_le _, by dsimp only; omega, by dsimp only; omega, by simp⟩
    exact kp_; (repeat (first | exact Weak.envNil | refine Weak.envCons we_ ?_))
    · exact .refl _
    rintro ⟨i, lf⟩ ⟨hi, h0, h1, hs⟩
    dsimp only at hi h0 h1 hs ⊢
    by_cases hlt : i < l.length
    · have hrow := strR_row hlt
      have hbi := hb.2 _ (List.getElem_mem hlt)
      have hta := take_all (p := fun y => ByteArray.size y ≤ 1048576) hlt hs
      generalize l[i] = x at hrow hbi hta
      repeat' (first | ((with_reducible apply o_y); exact y_; rfl) | with_reducible refine al_none rfl ?_ | (with_reducible first | apply aw_seq | apply aw_region | apply al_nil | apply aq_then | apply aw_block | apply aw_skip | apply aw_ret | apply aq_then_ret | apply aq_block_ret | apply aq_block) | (refine aw_cond_dt rfl rr_ dd_ ?_) | (refine aw_cond rfl rr_ (fun hc => ?_) (fun hc => ?_)))
      all_goals first
        | exact aq_retm1 x_ rfl (-1) ⟨by omega, by omega, fun h => by omega⟩ rfl (.nil R) (.refl _) (.tmp _ _ rfl) rfl
        | exact aq_round (i + 1, lf - x.size) ⟨by dsimp only; omega, by dsimp only; omega, by dsimp only; omega, hta (by omega)⟩ (by dsimp only; omega) (.of _ nw_ od_ pk_)
    · rw [List.take_of_length_le (by omega)] at hs
      repeat' (first | ((with_reducible apply o_y); exact y_; rfl) | with_reducible refine al_none rfl ?_ | (with_reducible first | apply aw_seq | apply aw_region | apply al_nil | apply aq_then | apply aw_exit | apply aw_ret | apply aq_block_hit | apply aq_then_exit) | (refine aw_cond_df rfl rr_ dd_ ?_))
      exact aq_retm1 x_ rfl lf ⟨by omega, by omega, fun _ => ⟨by omega, hs⟩⟩ rfl (.nil R) (.refl _) (.tmp _ _ rfl) rfl
theorem toStringS_ct (_hst : Stable G) (lo : Nat) (l : List ByteArray) (hn : l.length ≤ 1048576) : Ct Tryz.prog G 167 [.sl lo 1 (strR l)] (fun K => .sl K 1 (strR l)) := by
  refine ct_enter Tryz.func167 rfl Tryz.ntmps167 rfl rfl fun w0 _ hG => ?_
  have hlen := strR_len l
  have h0 := copyR_zero (fun s : ByteArray => [TV.str s]) [.str ⟨#[]⟩] l
  repeat' (first | ((with_reducible apply o_y); exact y_; rfl) | (refine e_make ?_; intro ss bb) | with_reducible refine al_none rfl ?_ | (with_reducible first | apply aw_seq | apply aw_region | apply al_nil | apply aq_then | apply aw_block))
  apply aw_loopk (X := Nat) [0, 3] (fun i => [(4, .int .i64 (i : Int))]) (fun i => [(ss, bb, .row 1 (copyR (fun s : ByteArray => [TV.str s]) [.str ⟨#[]⟩] l i))]) (fun i => i ≤ l.length) (fun i => l.length - i) 0 (Nat.zero_le _)
  exact kp_; (repeat (first | exact Weak.envNil | refine Weak.envCons we_ ?_))
  · rw [← h0]; exact .refl _
  intro i hi
  try dsimp only
  by_cases hlt : i < l.length
  · obtain ⟨hrow, hset⟩ := copyR_set (fun s : ByteArray => [TV.str s]) [.str ⟨#[]⟩] hlt
    have hra := strR_row hlt
    generalize l[i] = x at hset hra
    try dsimp only at hset
    repeat' (first | ((with_reducible apply o_y); exact y_; rfl) | refine e_store ?_ | with_reducible refine al_none rfl ?_ | (with_reducible first | apply aw_seq | apply aw_region | apply al_nil | apply aq_then | apply aw_block | apply aw_skip | apply aq_block) | (refine aw_cond_dt rfl rr_ dd_ ?_))
    refine aq_round (i + 1) (by omega) (by omega) (.of _ nw_ od_ (by rw [← hset]; exact .refl _))
  · obtain rfl : i = l.length := by omega
    rw [copyR_full]
    repeat' (first | ((with_reducible apply o_y); exact y_; rfl) | with_reducible refine al_none rfl ?_ | (with_reducible first | apply aw_seq | apply aw_region | apply al_nil | apply aq_then | apply aw_exit | apply aw_ret | apply aq_block_hit | apply aq_then_exit) | (refine aw_cond_df rfl rr_ dd_ ?_))
    refine aq_ret1 x_ rfl (.tmp _ _ rfl) (fun _ => ?_)
    exact fin_ms (fun x => .cons (.flat rfl) .nil) List.mem_cons_self
theorem eqStringS_ct (l1 l2 : Nat) (l : List ByteArray) (hn : l.length ≤ 1048576) : Ct Tryz.prog G 144 [.sl l1 1 (strR l), .sl l2 1 (strR l)] (fun _ => .bool true) := by
  refine ct_enter Tryz.func144 rfl Tryz.ntmps144 rfl rfl fun w0 _ hG => ?_
  have hlen := strR_len l
  repeat' (first | ((with_reducible apply o_y); exact y_; rfl) | with_reducible refine al_none rfl ?_ | (with_reducible first | apply aw_seq | apply aw_region | apply al_nil | apply aq_then | apply aw_block | apply aw_skip) | (refine aw_cond_df rfl rr_ dd_ ?_))
  apply aw_loopk (X := Nat) [0, 1] (fun i => [(5, .int .i64 (i : Int))]) (fun _ => []) (fun i => i ≤ l.length) (fun i => l.length - i) 0 (Nat.zero_le _)
  exact kp_; (repeat (first | exact Weak.envNil | refine Weak.envCons we_ ?_))
  · exact .refl _
  intro i hi
  try dsimp only
  by_cases hlt : i < l.length
  · have hrow := strR_row hlt
    generalize l[i] = x at hrow
    have hx : ¬ x ≠ x := fun h => h rfl
    repeat' (first | ((with_reducible apply o_y); exact y_; rfl) | with_reducible refine aw_draw (by kernel_rfl) (by kernel_rfl) ?_ | with_reducible refine dr_nil ?_ | with_reducible refine dr_none rfl ?_ | ((with_reducible apply d_y); exact y_; rfl) | with_reducible refine al_none rfl ?_ | (with_reducible first | apply aw_seq | apply aw_region | apply al_nil | apply aq_then | apply aw_block | apply aw_skip | apply aq_block) | (refine aw_cond_dt rfl rr_ dd_ ?_) | (refine aw_cond_df rfl rr_ dd_ ?_))
    exact aq_round (i + 1) (by omega) (by omega) (.of _ nw_ od_ pk_)
  · repeat' (first | ((with_reducible apply o_y); exact y_; rfl) | with_reducible refine al_none rfl ?_ | (with_reducible first | apply aw_seq | apply aw_region | apply al_nil | apply aq_then | apply aw_exit | apply aw_ret | apply aq_block_hit | apply aq_then_exit) | (refine aw_cond_df rfl rr_ dd_ ?_))
    refine aq_ret1 x_ rfl (.tmp _ _ rfl) (fun _ => ?_)
    exact Fin.flat rfl
end
def TInstr.tw (_lo : Nat) (x : TInstr) : List TV := [.int .i64 x.op, .int .i64 x.a, .int .i64 x.b, .str x.text]
def TInstr.small (n : Nat) (x : TInstr) : Prop := (x.text.size ≤ n)
def TInstr.tz : List TV := [.int .i64 0, .int .i64 0, .int .i64 0, .str ⟨#[]⟩]
theorem TInstr.fin (B K : Nat) (objs : Objs) (x : TInstr) : FinL B objs K (x.tw B) (x.tw K) := .cons (.flat rfl) (.cons (.flat rfl) (.cons (.flat rfl) (.cons (.flat rfl) (.nil))))
theorem TInstr.len (lo : Nat) (l : List TInstr) : (l.map (TInstr.tw lo)).length = l.length := by simp
section
variable {G : World → Prop}
theorem szInstr_ct (_hst : Stable G) (lo : Nat) (x : TInstr) (left : Int) (h : 0 ≤ left ∧ left ≤ 1048576) (hb : x.small 9223372036854775807) : CtM Tryz.prog G 218 [.agg (x.tw lo), .int .i64 left] [] (fun y : Int => -1 ≤ y ∧ y ≤ left ∧ (0 ≤ y → x.small 1048576)) (fun _ => []) (fun y => .int .i64 y) := by
  refine ctm_enter Tryz.func218 rfl Tryz.ntmps218 rfl rfl rfl fun w0 R gs objsR hG hR => ?_
  obtain rfl := hR.inv0
  clear hR
  unfold TInstr.small at hb
  have hb1 : x.text.size ≤ 9223372036854775807 := hb
  unfold TInstr.tw
  repeat' (first | ((with_reducible apply o_y); exact y_; rfl) | refine e_box ?_ | with_reducible refine al_none rfl ?_ | (with_reducible first | apply aw_seq | apply aw_region | apply al_nil | apply aq_then | apply aw_skip | apply aw_ret | apply aq_then_ret) | (refine aw_cond rfl rr_ (fun hc => ?_) (fun hc => ?_)))
  all_goals first
    | exact aq_retm1 x_ rfl (-1) ⟨by omega, by omega, fun h => by omega⟩ rfl (.nil R) (.refl _) (.tmp _ _ rfl) rfl
    | (refine aq_retm1 x_ rfl _ ⟨?_, ?_, fun _ => ?_⟩ rfl (.nil R) (.refl _) (.tmp _ _ rfl) rfl
       · omega
       · omega
       · show _ ≤ _; omega)
theorem szInstrS_ct (hst : Stable G) (lo : Nat) (l : List TInstr) (left : Int) (h : 0 ≤ left ∧ left ≤ 1048576) (hb : l.length ≤ 9223372036854775807 ∧ ∀ y ∈ l, TInstr.small 9223372036854775807 y) : CtM Tryz.prog G 178 [.sl lo 4 (l.map (TInstr.tw lo)), .int .i64 left] [] (fun y : Int => -1 ≤ y ∧ y ≤ left ∧ (0 ≤ y → l.length ≤ 1048576 ∧ ∀ y ∈ l, TInstr.small 1048576 y)) (fun _ => []) (fun y => .int .i64 y) := by
  refine ctm_enter Tryz.func178 rfl Tryz.ntmps178 rfl rfl rfl fun w0 R gs objsR hG hR => ?_
  obtain rfl := hR.inv0
  clear hR
  have hlen := TInstr.len lo l
  have hl1 := hb.1
  by_cases hn : left - l.length < 0
  · repeat' (first | ((with_reducible apply o_y); exact y_; rfl) | with_reducible refine al_none rfl ?_ | (with_reducible first | apply aw_seq | apply aw_region | apply al_nil | apply aq_then | apply aw_ret | apply aq_then_ret) | (refine aw_cond_dt rfl rr_ dd_ ?_))
    exact aq_retm1 x_ rfl (-1) ⟨by omega, by omega, fun h => by omega⟩ rfl (.nil R) (.refl _) (.tmp _ _ rfl) rfl
  · repeat' (first | ((with_reducible apply o_y); exact y_; rfl) | with_reducible refine al_none rfl ?_ | (with_reducible first | apply aw_seq | apply aw_region | apply al_nil | apply aq_then | apply aw_block | apply aw_skip) | (refine aw_cond_df rfl rr_ dd_ ?_))
    apply aw_loopk (X := Nat × Int) [0, 1000000] (fun x => [(5, .int .i64 (x.1 : Int)), (1, .int .i64 x.2)]) (fun _ => R) (fun x => x.1 ≤ l.length ∧ 0 ≤ x.2 ∧ x.2 ≤ left ∧ ∀ y ∈ l.take x.1, TInstr.small 1048576 y) (fun x => l.length - x.1) (0, left - l.length) ⟨Nat.zero_le _, by dsimp only; omega, by dsimp only; omega, by simp⟩
    exact kp_; (repeat (first | exact Weak.envNil | refine Weak.envCons we_ ?_))
    · exact .refl _
    rintro ⟨i, lf⟩ ⟨hi, h0, h1, hs⟩
    dsimp only at hi h0 h1 hs ⊢
    by_cases hlt : i < l.length
    · have hrow : (l.map (TInstr.tw lo))[i]? = some (l[i].tw lo) := row_map hlt
      have hbi := hb.2 _ (List.getElem_mem hlt)
      have hta := take_all (p := TInstr.small 1048576) hlt hs
      generalize l[i] = x at hrow hbi hta
      have hct := szInstr_ct hst lo x lf (by omega) hbi
      unfold TInstr.tw at hct
      rw [show x.tw lo = [.int .i64 x.op, .int .i64 x.a, .int .i64 x.b, .str x.text] from rfl] at hrow
      repeat' (first | ((with_reducible apply o_y); exact y_; rfl) | ((with_reducible apply o_callM); rfl; kernel_rfl; (repeat (first | exact ArgsM.nil | ((with_reducible apply ArgsM.cons); rfl))); exact hG; exact hct; exact .nil _; intro y hy; refine al_app0 ?_) | with_reducible refine al_none rfl ?_ | (with_reducible first | apply aw_seq | apply aw_region | apply al_nil | apply aq_then | apply aw_block | apply aw_skip | apply aw_ret | apply aq_then_ret | apply aq_block_ret | apply aq_block) | (refine aw_cond_dt rfl rr_ dd_ ?_) | (refine aw_cond rfl rr_ (fun hc => ?_) (fun hc => ?_)))
      all_goals first
        | exact aq_retm1 x_ rfl (-1) ⟨by omega, by omega, fun h => by omega⟩ rfl (.nil R) (.refl _) (.tmp _ _ rfl) rfl
        | exact aq_round (i + 1, y) ⟨by dsimp only; omega, by dsimp only; omega, by dsimp only; omega, hta (hy.2.2 (by omega))⟩ (by dsimp only; omega) (.of _ nw_ od_ pk_)
    · rw [List.take_of_length_le (by omega)] at hs
      repeat' (first | ((with_reducible apply o_y); exact y_; rfl) | with_reducible refine al_none rfl ?_ | (with_reducible first | apply aw_seq | apply aw_region | apply al_nil | apply aq_then | apply aw_exit | apply aw_ret | apply aq_block_hit | apply aq_then_exit) | (refine aw_cond_df rfl rr_ dd_ ?_))
      exact aq_retm1 x_ rfl lf ⟨by omega, by omega, fun _ => ⟨by omega, hs⟩⟩ rfl (.nil R) (.refl _) (.tmp _ _ rfl) rfl
theorem toInstr_ct (_hst : Stable G) (lo : Nat) (x : TInstr) (_hb : x.small 1048576) : Ct Tryz.prog G 228 [.agg (x.tw lo)] (fun K => .agg (x.tw K)) := by
  refine ct_enter Tryz.func228 rfl Tryz.ntmps228 rfl rfl fun w0 _ hG => ?_
  unfold TInstr.small at _hb
  skip
  repeat' (first | ((with_reducible apply o_y); exact y_; rfl) | refine e_box ?_ | (refine e_alloc ?_; intro ss bb) | refine e_storep ?_ | with_reducible refine al_none rfl ?_ | (with_reducible first | apply aw_seq | apply aw_region | apply al_nil | apply aq_then | apply aw_ret))
  refine aq_ret1 x_ rfl (.cell _ _ _ _ _ rfl mm_ (by kernel_rfl) (by kernel_rfl) (by kernel_rfl)) (fun _ => ?_)
  exact fin_agg (TInstr.fin _ _ _ x)
theorem toInstrS_ct (hst : Stable G) (lo : Nat) (l : List TInstr) (hb : l.length ≤ 1048576 ∧ ∀ y ∈ l, TInstr.small 1048576 y) : Ct Tryz.prog G 186 [.sl lo 4 (l.map (TInstr.tw lo))] (fun K => .sl K 4 (l.map (TInstr.tw K))) := by
  refine ct_enter Tryz.func186 rfl Tryz.ntmps186 rfl rfl fun w0 _ hG => ?_
  have hlen := TInstr.len lo l
  have hl1 := hb.1
  have h0 := copyR_zero (TInstr.tw w0.heap.size) TInstr.tz l
  repeat' (first | ((with_reducible apply o_y); exact y_; rfl) | (refine e_make ?_; intro ss bb) | with_reducible refine al_none rfl ?_ | (with_reducible first | apply aw_seq | apply aw_region | apply al_nil | apply aq_then | apply aw_block))
  apply aw_loopk (X := Nat) [0, 3] (fun i => [(4, .int .i64 (i : Int))]) (fun i => [(ss, bb, .row 4 (copyR (TInstr.tw w0.heap.size) TInstr.tz l i))]) (fun i => i ≤ l.length) (fun i => l.length - i) 0 (Nat.zero_le _)
  exact kp_; (repeat (first | exact Weak.envNil | refine Weak.envCons we_ ?_))
  · rw [← h0]; exact .refl _
  intro i hi
  try dsimp only
  by_cases hlt : i < l.length
  · obtain ⟨hrow, hset⟩ := copyR_set (TInstr.tw w0.heap.size) TInstr.tz hlt
    have hra : (l.map (TInstr.tw lo))[i]? = some (l[i].tw lo) := row_map hlt
    have hbi := hb.2 _ (List.getElem_mem hlt)
    generalize l[i] = x at hset hra hbi
    have hct := toInstr_ct hst lo x hbi
    unfold TInstr.tw at hct
    rw [show x.tw lo = [.int .i64 x.op, .int .i64 x.a, .int .i64 x.b, .str x.text] from rfl] at hra
    replace hrow : (copyR (TInstr.tw w0.heap.size) TInstr.tz l i)[i]? = some [.int .i64 0, .int .i64 0, .int .i64 0, .str ⟨#[]⟩] := hrow
    repeat' (first | ((with_reducible apply o_y); exact y_; rfl) | refine e_call hG hst (hct) ?_ | refine e_store ?_ | with_reducible refine al_none rfl ?_ | (with_reducible first | apply aw_seq | apply aw_region | apply al_nil | apply aq_then | apply aw_block | apply aw_skip | apply aq_block) | (refine aw_cond_dt rfl rr_ dd_ ?_))
    refine aq_round (i + 1) (by omega) (by omega) (.of _ nw_ od_ (by rw [← hset]; exact .refl _))
  · obtain rfl : i = l.length := by omega
    rw [copyR_full]
    repeat' (first | ((with_reducible apply o_y); exact y_; rfl) | with_reducible refine al_none rfl ?_ | (with_reducible first | apply aw_seq | apply aw_region | apply al_nil | apply aq_then | apply aw_exit | apply aw_ret | apply aq_block_hit | apply aq_then_exit) | (refine aw_cond_df rfl rr_ dd_ ?_))
    refine aq_ret1 x_ rfl (.tmp _ _ rfl) (fun _ => ?_)
    exact fin_ms (fun x => TInstr.fin _ _ _ x) List.mem_cons_self
theorem eqInstr_ct (_hst : Stable G) (l1 l2 : Nat) (x : TInstr) (_hb : x.small 1048576) : Ct Tryz.prog G 236 [.agg (x.tw l1), .agg (x.tw l2)] (fun _ => .bool true) := by
  refine ct_enter Tryz.func236 rfl Tryz.ntmps236 rfl rfl fun w0 _ hG => ?_
  unfold TInstr.small at _hb
  have hnetext : ¬ x.text ≠ x.text := fun h => h rfl
  unfold TInstr.tw
  repeat' (first | ((with_reducible apply o_y); exact y_; rfl) | refine e_box ?_ | with_reducible refine al_none rfl ?_ | (with_reducible first | apply aw_seq | apply aw_region | apply al_nil | apply aq_then | apply aw_skip | apply aw_ret) | (refine aw_cond_df rfl rr_ dd_ ?_))
  all_goals first
    | (exfalso; simp at hc; done)
    | (refine aq_ret1 x_ rfl (.tmp _ _ rfl) (fun _ => ?_)
       exact Fin.flat rfl)
theorem eqInstrS_ct (hst : Stable G) (l1 l2 : Nat) (l : List TInstr) (hb : l.length ≤ 1048576 ∧ ∀ y ∈ l, TInstr.small 1048576 y) : Ct Tryz.prog G 196 [.sl l1 4 (l.map (TInstr.tw l1)), .sl l2 4 (l.map (TInstr.tw l2))] (fun _ => .bool true) := by
  refine ct_enter Tryz.func196 rfl Tryz.ntmps196 rfl rfl fun w0 _ hG => ?_
  have hlen := TInstr.len l1 l
  have hlen2 := TInstr.len l2 l
  have hl1 := hb.1
  repeat' (first | ((with_reducible apply o_y); exact y_; rfl) | with_reducible refine al_none rfl ?_ | (with_reducible first | apply aw_seq | apply aw_region | apply al_nil | apply aq_then | apply aw_block | apply aw_skip) | (refine aw_cond_df rfl rr_ dd_ ?_))
  apply aw_loopk (X := Nat) [0, 1] (fun i => [(5, .int .i64 (i : Int))]) (fun _ => []) (fun i => i ≤ l.length) (fun i => l.length - i) 0 (Nat.zero_le _)
  exact kp_; (repeat (first | exact Weak.envNil | refine Weak.envCons we_ ?_))
  · exact .refl _
  intro i hi
  try dsimp only
  by_cases hlt : i < l.length
  · have hr1 : (l.map (TInstr.tw l1))[i]? = some (l[i].tw l1) := row_map hlt
    have hr2 : (l.map (TInstr.tw l2))[i]? = some (l[i].tw l2) := row_map hlt
    have hbi := hb.2 _ (List.getElem_mem hlt)
    generalize l[i] = x at hr1 hr2 hbi
    have hct := eqInstr_ct hst l1 l2 x hbi
    unfold TInstr.tw at hct
    rw [show x.tw l1 = [.int .i64 x.op, .int .i64 x.a, .int .i64 x.b, .str x.text] from rfl] at hr1
    rw [show x.tw l2 = [.int .i64 x.op, .int .i64 x.a, .int .i64 x.b, .str x.text] from rfl] at hr2
    repeat' (first | ((with_reducible apply o_y); exact y_; rfl) | with_reducible refine aw_draw (by kernel_rfl) (by kernel_rfl) ?_ | with_reducible refine dr_nil ?_ | with_reducible refine dr_none rfl ?_ | ((with_reducible apply d_y); exact y_; rfl) | refine e_calld hG hst (hct) ?_ | with_reducible refine al_none rfl ?_ | (with_reducible first | apply aw_seq | apply aw_region | apply al_nil | apply aq_then | apply aw_block | apply aw_skip | apply aq_block) | refine aw_cond_f rfl rr_ ?_ | (refine aw_cond_dt rfl rr_ dd_ ?_))
    exact aq_round (i + 1) (by omega) (by omega) (.of _ nw_ od_ pk_)
  · repeat' (first | ((with_reducible apply o_y); exact y_; rfl) | with_reducible refine al_none rfl ?_ | (with_reducible first | apply aw_seq | apply aw_region | apply al_nil | apply aq_then | apply aw_exit | apply aw_ret | apply aq_block_hit | apply aq_then_exit) | (refine aw_cond_df rfl rr_ dd_ ?_))
    refine aq_ret1 x_ rfl (.tmp _ _ rfl) (fun _ => ?_)
    exact Fin.flat rfl
end
def TCode.tw (lo : Nat) (x : TCode) : List TV := [.bool x.block, .int .i64 x.params, .int .i64 x.slots, .sl lo 4 (x.instrs.map (TInstr.tw lo))]
def TCode.small (n : Nat) (x : TCode) : Prop := (x.instrs.length ≤ n ∧ ∀ y ∈ x.instrs, TInstr.small n y)
def TCode.tz : List TV := [.bool false, .int .i64 0, .int .i64 0, .nils]
theorem TCode.fin (B K : Nat) (objs : Objs) (x : TCode) : FinL B objs K (x.tw B) (x.tw K) := .cons (.flat rfl) (.cons (.flat rfl) (.cons (.flat rfl) (.cons (fin_sl (fun x => TInstr.fin B K objs x) _) (.nil))))
theorem TCode.len (lo : Nat) (l : List TCode) : (l.map (TCode.tw lo)).length = l.length := by simp
section
variable {G : World → Prop}
theorem szCode_ct (hst : Stable G) (lo : Nat) (x : TCode) (left : Int) (h : 0 ≤ left ∧ left ≤ 1048576) (hb : x.small 9223372036854775807) : CtM Tryz.prog G 104 [.agg (x.tw lo), .int .i64 left] [] (fun y : Int => -1 ≤ y ∧ y ≤ left ∧ (0 ≤ y → x.small 1048576)) (fun _ => []) (fun y => .int .i64 y) := by
  refine ctm_enter Tryz.func104 rfl Tryz.ntmps104 rfl rfl rfl fun w0 R gs objsR hG hR => ?_
  obtain rfl := hR.inv0
  clear hR
  unfold TCode.small at hb
  skip
  unfold TCode.tw
  repeat' (first | ((with_reducible apply o_y); exact y_; rfl) | refine e_box ?_ | ((with_reducible apply o_callM); rfl; kernel_rfl; (repeat (first | exact ArgsM.nil | ((with_reducible apply ArgsM.cons); rfl))); exact hG; exact szInstrS_ct hst _ x.instrs _ (by omega) hb; exact .nil _; intro y1 hy1; refine al_app0 ?_) | with_reducible refine al_none rfl ?_ | (with_reducible first | apply aw_seq | apply aw_region | apply al_nil | apply aq_then | apply aw_skip | apply aw_ret | apply aq_then_ret) | (refine aw_cond rfl rr_ (fun hc => ?_) (fun hc => ?_)))
  all_goals first
    | exact aq_retm1 x_ rfl (-1) ⟨by omega, by omega, fun h => by omega⟩ rfl (.nil R) (.refl _) (.tmp _ _ rfl) rfl
    | (refine aq_retm1 x_ rfl _ ⟨?_, ?_, fun _ => ?_⟩ rfl (.nil R) (.refl _) (.tmp _ _ rfl) rfl
       · omega
       · omega
       · exact hy1.2.2 (by omega))
theorem szCodeS_ct (hst : Stable G) (lo : Nat) (l : List TCode) (left : Int) (h : 0 ≤ left ∧ left ≤ 1048576) (hb : l.length ≤ 9223372036854775807 ∧ ∀ y ∈ l, TCode.small 9223372036854775807 y) : CtM Tryz.prog G 30 [.sl lo 4 (l.map (TCode.tw lo)), .int .i64 left] [] (fun y : Int => -1 ≤ y ∧ y ≤ left ∧ (0 ≤ y → l.length ≤ 1048576 ∧ ∀ y ∈ l, TCode.small 1048576 y)) (fun _ => []) (fun y => .int .i64 y) := by
  refine ctm_enter Tryz.func30 rfl Tryz.ntmps30 rfl rfl rfl fun w0 R gs objsR hG hR => ?_
  obtain rfl := hR.inv0
  clear hR
  have hlen := TCode.len lo l
  have hl1 := hb.1
  by_cases hn : left - l.length < 0
  · repeat' (first | ((with_reducible apply o_y); exact y_; rfl) | with_reducible refine al_none rfl ?_ | (with_reducible first | apply aw_seq | apply aw_region | apply al_nil | apply aq_then | apply aw_ret | apply aq_then_ret) | (refine aw_cond_dt rfl rr_ dd_ ?_))
    exact aq_retm1 x_ rfl (-1) ⟨by omega, by omega, fun h => by omega⟩ rfl (.nil R) (.refl _) (.tmp _ _ rfl) rfl
  · repeat' (first | ((with_reducible apply o_y); exact y_; rfl) | with_reducible refine al_none rfl ?_ | (with_reducible first | apply aw_seq | apply aw_region | apply al_nil | apply aq_then | apply aw_block | apply aw_skip) | (refine aw_cond_df rfl rr_ dd_ ?_))
    apply aw_loopk (X := Nat × Int) [0, 1000000] (fun x => [(5, .int .i64 (x.1 : Int)), (1, .int .i64 x.2)]) (fun _ => R) (fun x => x.1 ≤ l.length ∧ 0 ≤ x.2 ∧ x.2 ≤ left ∧ ∀ y ∈ l.take x.1, TCode.small 1048576 y) (fun x => l.length - x.1) (0, left - l.length) ⟨Nat.zero_le _, by dsimp only; omega, by dsimp only; omega, by simp⟩
    exact kp_; (repeat (first | exact Weak.envNil | refine Weak.envCons we_ ?_))
    · exact .refl _
    rintro ⟨i, lf⟩ ⟨hi, h0, h1, hs⟩
    dsimp only at hi h0 h1 hs ⊢
    by_cases hlt : i < l.length
    · have hrow : (l.map (TCode.tw lo))[i]? = some (l[i].tw lo) := row_map hlt
      have hbi := hb.2 _ (List.getElem_mem hlt)
      have hta := take_all (p := TCode.small 1048576) hlt hs
      generalize l[i] = x at hrow hbi hta
      have hct := szCode_ct hst lo x lf (by omega) hbi
      unfold TCode.tw at hct
      rw [show x.tw lo = [.bool x.block, .int .i64 x.params, .int .i64 x.slots, .sl lo 4 (x.instrs.map (TInstr.tw lo))] from rfl] at hrow
      repeat' (first | ((with_reducible apply o_y); exact y_; rfl) | ((with_reducible apply o_callM); rfl; kernel_rfl; (repeat (first | exact ArgsM.nil | ((with_reducible apply ArgsM.cons); rfl))); exact hG; exact hct; exact .nil _; intro y hy; refine al_app0 ?_) | with_reducible refine al_none rfl ?_ | (with_reducible first | apply aw_seq | apply aw_region | apply al_nil | apply aq_then | apply aw_block | apply aw_skip | apply aw_ret | apply aq_then_ret | apply aq_block_ret | apply aq_block) | (refine aw_cond_dt rfl rr_ dd_ ?_) | (refine aw_cond rfl rr_ (fun hc => ?_) (fun hc => ?_)))
      all_goals first
        | exact aq_retm1 x_ rfl (-1) ⟨by omega, by omega, fun h => by omega⟩ rfl (.nil R) (.refl _) (.tmp _ _ rfl) rfl
        | exact aq_round (i + 1, y) ⟨by dsimp only; omega, by dsimp only; omega, by dsimp only; omega, hta (hy.2.2 (by omega))⟩ (by dsimp only; omega) (.of _ nw_ od_ pk_)
    · rw [List.take_of_length_le (by omega)] at hs
      repeat' (first | ((with_reducible apply o_y); exact y_; rfl) | with_reducible refine al_none rfl ?_ | (with_reducible first | apply aw_seq | apply aw_region | apply al_nil | apply aq_then | apply aw_exit | apply aw_ret | apply aq_block_hit | apply aq_then_exit) | (refine aw_cond_df rfl rr_ dd_ ?_))
      exact aq_retm1 x_ rfl lf ⟨by omega, by omega, fun _ => ⟨by omega, hs⟩⟩ rfl (.nil R) (.refl _) (.tmp _ _ rfl) rfl
theorem toCode_ct (hst : Stable G) (lo : Nat) (x : TCode) (hb : x.small 1048576) : Ct Tryz.prog G 115 [.agg (x.tw lo)] (fun K => .agg (x.tw K)) := by
  refine ct_enter Tryz.func115 rfl Tryz.ntmps115 rfl rfl fun w0 _ hG => ?_
  unfold TCode.small at hb
  have hsinstrs := hb
  repeat' (first | ((with_reducible apply o_y); exact y_; rfl) | refine e_box ?_ | (refine e_alloc ?_; intro ss bb) | refine e_storep ?_ | refine e_call hG hst (toInstrS_ct hst _ x.instrs (hsinstrs)) ?_ | with_reducible refine al_none rfl ?_ | (with_reducible first | apply aw_seq | apply aw_region | apply al_nil | apply aq_then | apply aw_ret))
  refine aq_ret1 x_ rfl (.cell _ _ _ _ _ rfl mm_ (by kernel_rfl) (by kernel_rfl) (by kernel_rfl)) (fun _ => ?_)
  exact fin_agg (TCode.fin _ _ _ x)
theorem toCodeS_ct (hst : Stable G) (lo : Nat) (l : List TCode) (hb : l.length ≤ 1048576 ∧ ∀ y ∈ l, TCode.small 1048576 y) : Ct Tryz.prog G 37 [.sl lo 4 (l.map (TCode.tw lo))] (fun K => .sl K 4 (l.map (TCode.tw K))) := by
  refine ct_enter Tryz.func37 rfl Tryz.ntmps37 rfl rfl fun w0 _ hG => ?_
  have hlen := TCode.len lo l
  have hl1 := hb.1
  have h0 := copyR_zero (TCode.tw w0.heap.size) TCode.tz l
  repeat' (first | ((with_reducible apply o_y); exact y_; rfl) | (refine e_make ?_; intro ss bb) | with_reducible refine al_none rfl ?_ | (with_reducible first | apply aw_seq | apply aw_region | apply al_nil | apply aq_then | apply aw_block))
  apply aw_loopk (X := Nat) [0, 3] (fun i => [(4, .int .i64 (i : Int))]) (fun i => [(ss, bb, .row 4 (copyR (TCode.tw w0.heap.size) TCode.tz l i))]) (fun i => i ≤ l.length) (fun i => l.length - i) 0 (Nat.zero_le _)
  exact kp_; (repeat (first | exact Weak.envNil | refine Weak.envCons we_ ?_))
  · rw [← h0]; exact .refl _
  intro i hi
  try dsimp only
  by_cases hlt : i < l.length
  · obtain ⟨hrow, hset⟩ := copyR_set (TCode.tw w0.heap.size) TCode.tz hlt
    have hra : (l.map (TCode.tw lo))[i]? = some (l[i].tw lo) := row_map hlt
    have hbi := hb.2 _ (List.getElem_mem hlt)
    generalize l[i] = x at hset hra hbi
    have hct := toCode_ct hst lo x hbi
    unfold TCode.tw at hct
    rw [show x.tw lo = [.bool x.block, .int .i64 x.params, .int .i64 x.slots, .sl lo 4 (x.instrs.map (TInstr.tw lo))] from rfl] at hra
    replace hrow : (copyR (TCode.tw w0.heap.size) TCode.tz l i)[i]? = some [.bool false, .int .i64 0, .int .i64 0, .nils] := hrow
    repeat' (first | ((with_reducible apply o_y); exact y_; rfl) | refine e_call hG hst (hct) ?_ | refine e_store ?_ | with_reducible refine al_none rfl ?_ | (with_reducible first | apply aw_seq | apply aw_region | apply al_nil | apply aq_then | apply aw_block | apply aw_skip | apply aq_block) | (refine aw_cond_dt rfl rr_ dd_ ?_))
    refine aq_round (i + 1) (by omega) (by omega) (.of _ nw_ od_ (by rw [← hset]; exact .refl _))
  · obtain rfl : i = l.length := by omega
    rw [copyR_full]
    repeat' (first | ((with_reducible apply o_y); exact y_; rfl) | with_reducible refine al_none rfl ?_ | (with_reducible first | apply aw_seq | apply aw_region | apply al_nil | apply aq_then | apply aw_exit | apply aw_ret | apply aq_block_hit | apply aq_then_exit) | (refine aw_cond_df rfl rr_ dd_ ?_))
    refine aq_ret1 x_ rfl (.tmp _ _ rfl) (fun _ => ?_)
    exact fin_ms (fun x => TCode.fin _ _ _ x) List.mem_cons_self
theorem eqCode_ct (hst : Stable G) (l1 l2 : Nat) (x : TCode) (hb : x.small 1048576) : Ct Tryz.prog G 125 [.agg (x.tw l1), .agg (x.tw l2)] (fun _ => .bool true) := by
  refine ct_enter Tryz.func125 rfl Tryz.ntmps125 rfl rfl fun w0 _ hG => ?_
  unfold TCode.small at hb
  have hsinstrs := hb
  unfold TCode.tw
  repeat' (first | ((with_reducible apply o_y); exact y_; rfl) | refine e_box ?_ | refine e_call hG hst (eqInstrS_ct hst _ _ x.instrs hsinstrs) ?_ | with_reducible refine al_none rfl ?_ | (with_reducible first | apply aw_seq | apply aw_region | apply al_nil | apply aq_then | apply aw_skip | apply aw_ret | apply aq_then_ret) | refine aw_cond_f rfl rr_ ?_ | (refine aw_cond_df rfl rr_ dd_ ?_) | (refine aw_cond_b rfl rr_ (fun hc => ?_) (fun hc => ?_)))
  all_goals first
    | (exfalso; simp at hc; done)
    | (refine aq_ret1 x_ rfl (.tmp _ _ rfl) (fun _ => ?_)
       exact Fin.flat rfl)
theorem eqCodeS_ct (hst : Stable G) (l1 l2 : Nat) (l : List TCode) (hb : l.length ≤ 1048576 ∧ ∀ y ∈ l, TCode.small 1048576 y) : Ct Tryz.prog G 46 [.sl l1 4 (l.map (TCode.tw l1)), .sl l2 4 (l.map (TCode.tw l2))] (fun _ => .bool true) := by
  refine ct_enter Tryz.func46 rfl Tryz.ntmps46 rfl rfl fun w0 _ hG => ?_
  have hlen := TCode.len l1 l
  have hlen2 := TCode.len l2 l
  have hl1 := hb.1
  repeat' (first | ((with_reducible apply o_y); exact y_; rfl) | with_reducible refine al_none rfl ?_ | (with_reducible first | apply aw_seq | apply aw_region | apply al_nil | apply aq_then | apply aw_block | apply aw_skip) | (refine aw_cond_df rfl rr_ dd_ ?_))
  apply aw_loopk (X := Nat) [0, 1] (fun i => [(5, .int .i64 (i : Int))]) (fun _ => []) (fun i => i ≤ l.length) (fun i => l.length - i) 0 (Nat.zero_le _)
  exact kp_; (repeat (first | exact Weak.envNil | refine Weak.envCons we_ ?_))
  · exact .refl _
  intro i hi
  try dsimp only
  by_cases hlt : i < l.length
  · have hr1 : (l.map (TCode.tw l1))[i]? = some (l[i].tw l1) := row_map hlt
    have hr2 : (l.map (TCode.tw l2))[i]? = some (l[i].tw l2) := row_map hlt
    have hbi := hb.2 _ (List.getElem_mem hlt)
    generalize l[i] = x at hr1 hr2 hbi
    have hct := eqCode_ct hst l1 l2 x hbi
    unfold TCode.tw at hct
    rw [show x.tw l1 = [.bool x.block, .int .i64 x.params, .int .i64 x.slots, .sl l1 4 (x.instrs.map (TInstr.tw l1))] from rfl] at hr1
    rw [show x.tw l2 = [.bool x.block, .int .i64 x.params, .int .i64 x.slots, .sl l2 4 (x.instrs.map (TInstr.tw l2))] from rfl] at hr2
    repeat' (first | ((with_reducible apply o_y); exact y_; rfl) | with_reducible refine aw_draw (by kernel_rfl) (by kernel_rfl) ?_ | with_reducible refine dr_nil ?_ | with_reducible refine dr_none rfl ?_ | ((with_reducible apply d_y); exact y_; rfl) | refine e_calld hG hst (hct) ?_ | with_reducible refine al_none rfl ?_ | (with_reducible first | apply aw_seq | apply aw_region | apply al_nil | apply aq_then | apply aw_block | apply aw_skip | apply aq_block) | refine aw_cond_f rfl rr_ ?_ | (refine aw_cond_dt rfl rr_ dd_ ?_))
    exact aq_round (i + 1) (by omega) (by omega) (.of _ nw_ od_ pk_)
  · repeat' (first | ((with_reducible apply o_y); exact y_; rfl) | with_reducible refine al_none rfl ?_ | (with_reducible first | apply aw_seq | apply aw_region | apply al_nil | apply aq_then | apply aw_exit | apply aw_ret | apply aq_block_hit | apply aq_then_exit) | (refine aw_cond_df rfl rr_ dd_ ?_))
    refine aq_ret1 x_ rfl (.tmp _ _ rfl) (fun _ => ?_)
    exact Fin.flat rfl
end
def TEntry.tw (_lo : Nat) (x : TEntry) : List TV := [.int .i64 x.owner, .bool x.class_, .str x.selector, .int .i64 x.code]
def TEntry.small (n : Nat) (x : TEntry) : Prop := (x.selector.size ≤ n)
def TEntry.tz : List TV := [.int .i64 0, .bool false, .str ⟨#[]⟩, .int .i64 0]
theorem TEntry.fin (B K : Nat) (objs : Objs) (x : TEntry) : FinL B objs K (x.tw B) (x.tw K) := .cons (.flat rfl) (.cons (.flat rfl) (.cons (.flat rfl) (.cons (.flat rfl) (.nil))))
theorem TEntry.len (lo : Nat) (l : List TEntry) : (l.map (TEntry.tw lo)).length = l.length := by simp
section
variable {G : World → Prop}
theorem szEntry_ct (_hst : Stable G) (lo : Nat) (x : TEntry) (left : Int) (h : 0 ≤ left ∧ left ≤ 1048576) (hb : x.small 9223372036854775807) : CtM Tryz.prog G 105 [.agg (x.tw lo), .int .i64 left] [] (fun y : Int => -1 ≤ y ∧ y ≤ left ∧ (0 ≤ y → x.small 1048576)) (fun _ => []) (fun y => .int .i64 y) := by
  refine ctm_enter Tryz.func105 rfl Tryz.ntmps105 rfl rfl rfl fun w0 R gs objsR hG hR => ?_
  obtain rfl := hR.inv0
  clear hR
  unfold TEntry.small at hb
  have hb1 : x.selector.size ≤ 9223372036854775807 := hb
  unfold TEntry.tw
  repeat' (first | ((with_reducible apply o_y); exact y_; rfl) | refine e_box ?_ | with_reducible refine al_none rfl ?_ | (with_reducible first | apply aw_seq | apply aw_region | apply al_nil | apply aq_then | apply aw_skip | apply aw_ret | apply aq_then_ret) | (refine aw_cond rfl rr_ (fun hc => ?_) (fun hc => ?_)))
  all_goals first
    | exact aq_retm1 x_ rfl (-1) ⟨by omega, by omega, fun h => by omega⟩ rfl (.nil R) (.refl _) (.tmp _ _ rfl) rfl
    | (refine aq_retm1 x_ rfl _ ⟨?_, ?_, fun _ => ?_⟩ rfl (.nil R) (.refl _) (.tmp _ _ rfl) rfl
       · omega
       · omega
       · show _ ≤ _; omega)
theorem szEntryS_ct (hst : Stable G) (lo : Nat) (l : List TEntry) (left : Int) (h : 0 ≤ left ∧ left ≤ 1048576) (hb : l.length ≤ 9223372036854775807 ∧ ∀ y ∈ l, TEntry.small 9223372036854775807 y) : CtM Tryz.prog G 31 [.sl lo 4 (l.map (TEntry.tw lo)), .int .i64 left] [] (fun y : Int => -1 ≤ y ∧ y ≤ left ∧ (0 ≤ y → l.length ≤ 1048576 ∧ ∀ y ∈ l, TEntry.small 1048576 y)) (fun _ => []) (fun y => .int .i64 y) := by
  refine ctm_enter Tryz.func31 rfl Tryz.ntmps31 rfl rfl rfl fun w0 R gs objsR hG hR => ?_
  obtain rfl := hR.inv0
  clear hR
  have hlen := TEntry.len lo l
  have hl1 := hb.1
  by_cases hn : left - l.length < 0
  · repeat' (first | ((with_reducible apply o_y); exact y_; rfl) | with_reducible refine al_none rfl ?_ | (with_reducible first | apply aw_seq | apply aw_region | apply al_nil | apply aq_then | apply aw_ret | apply aq_then_ret) | (refine aw_cond_dt rfl rr_ dd_ ?_))
    exact aq_retm1 x_ rfl (-1) ⟨by omega, by omega, fun h => by omega⟩ rfl (.nil R) (.refl _) (.tmp _ _ rfl) rfl
  · repeat' (first | ((with_reducible apply o_y); exact y_; rfl) | with_reducible refine al_none rfl ?_ | (with_reducible first | apply aw_seq | apply aw_region | apply al_nil | apply aq_then | apply aw_block | apply aw_skip) | (refine aw_cond_df rfl rr_ dd_ ?_))
    apply aw_loopk (X := Nat × Int) [0, 1000000] (fun x => [(5, .int .i64 (x.1 : Int)), (1, .int .i64 x.2)]) (fun _ => R) (fun x => x.1 ≤ l.length ∧ 0 ≤ x.2 ∧ x.2 ≤ left ∧ ∀ y ∈ l.take x.1, TEntry.small 1048576 y) (fun x => l.length - x.1) (0, left - l.length) ⟨Nat.zero_le _, by dsimp only; omega, by dsimp only; omega, by simp⟩
    exact kp_; (repeat (first | exact Weak.envNil | refine Weak.envCons we_ ?_))
    · exact .refl _
    rintro ⟨i, lf⟩ ⟨hi, h0, h1, hs⟩
    dsimp only at hi h0 h1 hs ⊢
    by_cases hlt : i < l.length
    · have hrow : (l.map (TEntry.tw lo))[i]? = some (l[i].tw lo) := row_map hlt
      have hbi := hb.2 _ (List.getElem_mem hlt)
      have hta := take_all (p := TEntry.small 1048576) hlt hs
      generalize l[i] = x at hrow hbi hta
      have hct := szEntry_ct hst lo x lf (by omega) hbi
      unfold TEntry.tw at hct
      rw [show x.tw lo = [.int .i64 x.owner, .bool x.class_, .str x.selector, .int .i64 x.code] from rfl] at hrow
      repeat' (first | ((with_reducible apply o_y); exact y_; rfl) | ((with_reducible apply o_callM); rfl; kernel_rfl; (repeat (first | exact ArgsM.nil | ((with_reducible apply ArgsM.cons); rfl))); exact hG; exact hct; exact .nil _; intro y hy; refine al_app0 ?_) | with_reducible refine al_none rfl ?_ | (with_reducible first | apply aw_seq | apply aw_region | apply al_nil | apply aq_then | apply aw_block | apply aw_skip | apply aw_ret | apply aq_then_ret | apply aq_block_ret | apply aq_block) | (refine aw_cond_dt rfl rr_ dd_ ?_) | (refine aw_cond rfl rr_ (fun hc => ?_) (fun hc => ?_)))
      all_goals first
        | exact aq_retm1 x_ rfl (-1) ⟨by omega, by omega, fun h => by omega⟩ rfl (.nil R) (.refl _) (.tmp _ _ rfl) rfl
        | exact aq_round (i + 1, y) ⟨by dsimp only; omega, by dsimp only; omega, by dsimp only; omega, hta (hy.2.2 (by omega))⟩ (by dsimp only; omega) (.of _ nw_ od_ pk_)
    · rw [List.take_of_length_le (by omega)] at hs
      repeat' (first | ((with_reducible apply o_y); exact y_; rfl) | with_reducible refine al_none rfl ?_ | (with_reducible first | apply aw_seq | apply aw_region | apply al_nil | apply aq_then | apply aw_exit | apply aw_ret | apply aq_block_hit | apply aq_then_exit) | (refine aw_cond_df rfl rr_ dd_ ?_))
      exact aq_retm1 x_ rfl lf ⟨by omega, by omega, fun _ => ⟨by omega, hs⟩⟩ rfl (.nil R) (.refl _) (.tmp _ _ rfl) rfl
theorem toEntry_ct (_hst : Stable G) (lo : Nat) (x : TEntry) (_hb : x.small 1048576) : Ct Tryz.prog G 116 [.agg (x.tw lo)] (fun K => .agg (x.tw K)) := by
  refine ct_enter Tryz.func116 rfl Tryz.ntmps116 rfl rfl fun w0 _ hG => ?_
  unfold TEntry.small at _hb
  skip
  repeat' (first | ((with_reducible apply o_y); exact y_; rfl) | refine e_box ?_ | (refine e_alloc ?_; intro ss bb) | refine e_storep ?_ | with_reducible refine al_none rfl ?_ | (with_reducible first | apply aw_seq | apply aw_region | apply al_nil | apply aq_then | apply aw_ret))
  refine aq_ret1 x_ rfl (.cell _ _ _ _ _ rfl mm_ (by kernel_rfl) (by kernel_rfl) (by kernel_rfl)) (fun _ => ?_)
  exact fin_agg (TEntry.fin _ _ _ x)
theorem toEntryS_ct (hst : Stable G) (lo : Nat) (l : List TEntry) (hb : l.length ≤ 1048576 ∧ ∀ y ∈ l, TEntry.small 1048576 y) : Ct Tryz.prog G 38 [.sl lo 4 (l.map (TEntry.tw lo))] (fun K => .sl K 4 (l.map (TEntry.tw K))) := by
  refine ct_enter Tryz.func38 rfl Tryz.ntmps38 rfl rfl fun w0 _ hG => ?_
  have hlen := TEntry.len lo l
  have hl1 := hb.1
  have h0 := copyR_zero (TEntry.tw w0.heap.size) TEntry.tz l
  repeat' (first | ((with_reducible apply o_y); exact y_; rfl) | (refine e_make ?_; intro ss bb) | with_reducible refine al_none rfl ?_ | (with_reducible first | apply aw_seq | apply aw_region | apply al_nil | apply aq_then | apply aw_block))
  apply aw_loopk (X := Nat) [0, 3] (fun i => [(4, .int .i64 (i : Int))]) (fun i => [(ss, bb, .row 4 (copyR (TEntry.tw w0.heap.size) TEntry.tz l i))]) (fun i => i ≤ l.length) (fun i => l.length - i) 0 (Nat.zero_le _)
  exact kp_; (repeat (first | exact Weak.envNil | refine Weak.envCons we_ ?_))
  · rw [← h0]; exact .refl _
  intro i hi
  try dsimp only
  by_cases hlt : i < l.length
  · obtain ⟨hrow, hset⟩ := copyR_set (TEntry.tw w0.heap.size) TEntry.tz hlt
    have hra : (l.map (TEntry.tw lo))[i]? = some (l[i].tw lo) := row_map hlt
    have hbi := hb.2 _ (List.getElem_mem hlt)
    generalize l[i] = x at hset hra hbi
    have hct := toEntry_ct hst lo x hbi
    unfold TEntry.tw at hct
    rw [show x.tw lo = [.int .i64 x.owner, .bool x.class_, .str x.selector, .int .i64 x.code] from rfl] at hra
    replace hrow : (copyR (TEntry.tw w0.heap.size) TEntry.tz l i)[i]? = some [.int .i64 0, .bool false, .str ⟨#[]⟩, .int .i64 0] := hrow
    repeat' (first | ((with_reducible apply o_y); exact y_; rfl) | refine e_call hG hst (hct) ?_ | refine e_store ?_ | with_reducible refine al_none rfl ?_ | (with_reducible first | apply aw_seq | apply aw_region | apply al_nil | apply aq_then | apply aw_block | apply aw_skip | apply aq_block) | (refine aw_cond_dt rfl rr_ dd_ ?_))
    refine aq_round (i + 1) (by omega) (by omega) (.of _ nw_ od_ (by rw [← hset]; exact .refl _))
  · obtain rfl : i = l.length := by omega
    rw [copyR_full]
    repeat' (first | ((with_reducible apply o_y); exact y_; rfl) | with_reducible refine al_none rfl ?_ | (with_reducible first | apply aw_seq | apply aw_region | apply al_nil | apply aq_then | apply aw_exit | apply aw_ret | apply aq_block_hit | apply aq_then_exit) | (refine aw_cond_df rfl rr_ dd_ ?_))
    refine aq_ret1 x_ rfl (.tmp _ _ rfl) (fun _ => ?_)
    exact fin_ms (fun x => TEntry.fin _ _ _ x) List.mem_cons_self
theorem eqEntry_ct (_hst : Stable G) (l1 l2 : Nat) (x : TEntry) (_hb : x.small 1048576) : Ct Tryz.prog G 126 [.agg (x.tw l1), .agg (x.tw l2)] (fun _ => .bool true) := by
  refine ct_enter Tryz.func126 rfl Tryz.ntmps126 rfl rfl fun w0 _ hG => ?_
  unfold TEntry.small at _hb
  have hneselector : ¬ x.selector ≠ x.selector := fun h => h rfl
  unfold TEntry.tw
  repeat' (first | ((with_reducible apply o_y); exact y_; rfl) | refine e_box ?_ | with_reducible refine al_none rfl ?_ | (with_reducible first | apply aw_seq | apply aw_region | apply al_nil | apply aq_then | apply aw_skip | apply aw_ret | apply aq_then_ret) | (refine aw_cond_df rfl rr_ dd_ ?_) | (refine aw_cond_b rfl rr_ (fun hc => ?_) (fun hc => ?_)))
  all_goals first
    | (exfalso; simp at hc; done)
    | (refine aq_ret1 x_ rfl (.tmp _ _ rfl) (fun _ => ?_)
       exact Fin.flat rfl)
theorem eqEntryS_ct (hst : Stable G) (l1 l2 : Nat) (l : List TEntry) (hb : l.length ≤ 1048576 ∧ ∀ y ∈ l, TEntry.small 1048576 y) : Ct Tryz.prog G 47 [.sl l1 4 (l.map (TEntry.tw l1)), .sl l2 4 (l.map (TEntry.tw l2))] (fun _ => .bool true) := by
  refine ct_enter Tryz.func47 rfl Tryz.ntmps47 rfl rfl fun w0 _ hG => ?_
  have hlen := TEntry.len l1 l
  have hlen2 := TEntry.len l2 l
  have hl1 := hb.1
  repeat' (first | ((with_reducible apply o_y); exact y_; rfl) | with_reducible refine al_none rfl ?_ | (with_reducible first | apply aw_seq | apply aw_region | apply al_nil | apply aq_then | apply aw_block | apply aw_skip) | (refine aw_cond_df rfl rr_ dd_ ?_))
  apply aw_loopk (X := Nat) [0, 1] (fun i => [(5, .int .i64 (i : Int))]) (fun _ => []) (fun i => i ≤ l.length) (fun i => l.length - i) 0 (Nat.zero_le _)
  exact kp_; (repeat (first | exact Weak.envNil | refine Weak.envCons we_ ?_))
  · exact .refl _
  intro i hi
  try dsimp only
  by_cases hlt : i < l.length
  · have hr1 : (l.map (TEntry.tw l1))[i]? = some (l[i].tw l1) := row_map hlt
    have hr2 : (l.map (TEntry.tw l2))[i]? = some (l[i].tw l2) := row_map hlt
    have hbi := hb.2 _ (List.getElem_mem hlt)
    generalize l[i] = x at hr1 hr2 hbi
    have hct := eqEntry_ct hst l1 l2 x hbi
    unfold TEntry.tw at hct
    rw [show x.tw l1 = [.int .i64 x.owner, .bool x.class_, .str x.selector, .int .i64 x.code] from rfl] at hr1
    rw [show x.tw l2 = [.int .i64 x.owner, .bool x.class_, .str x.selector, .int .i64 x.code] from rfl] at hr2
    repeat' (first | ((with_reducible apply o_y); exact y_; rfl) | with_reducible refine aw_draw (by kernel_rfl) (by kernel_rfl) ?_ | with_reducible refine dr_nil ?_ | with_reducible refine dr_none rfl ?_ | ((with_reducible apply d_y); exact y_; rfl) | refine e_calld hG hst (hct) ?_ | with_reducible refine al_none rfl ?_ | (with_reducible first | apply aw_seq | apply aw_region | apply al_nil | apply aq_then | apply aw_block | apply aw_skip | apply aq_block) | refine aw_cond_f rfl rr_ ?_ | (refine aw_cond_dt rfl rr_ dd_ ?_))
    exact aq_round (i + 1) (by omega) (by omega) (.of _ nw_ od_ pk_)
  · repeat' (first | ((with_reducible apply o_y); exact y_; rfl) | with_reducible refine al_none rfl ?_ | (with_reducible first | apply aw_seq | apply aw_region | apply al_nil | apply aq_then | apply aw_exit | apply aw_ret | apply aq_block_hit | apply aq_then_exit) | (refine aw_cond_df rfl rr_ dd_ ?_))
    refine aq_ret1 x_ rfl (.tmp _ _ rfl) (fun _ => ?_)
    exact Fin.flat rfl
end
def TClassInfo.tw (lo : Nat) (x : TClassInfo) : List TV := [.str x.name, .int .i64 x.parent, .sl lo 1 (strR x.fields)]
def TClassInfo.small (n : Nat) (x : TClassInfo) : Prop := (x.name.size ≤ n) ∧ (x.fields.length ≤ n ∧ ∀ y ∈ x.fields, ByteArray.size y ≤ n)
def TClassInfo.tz : List TV := [.str ⟨#[]⟩, .int .i64 0, .nils]
theorem TClassInfo.fin (B K : Nat) (objs : Objs) (_x : TClassInfo) : FinL B objs K (_x.tw B) (_x.tw K) := .cons (.flat rfl) (.cons (.flat rfl) (.cons (fin_sl (fun _x => .cons (.flat rfl) .nil) _) (.nil)))
theorem TClassInfo.len (lo : Nat) (l : List TClassInfo) : (l.map (TClassInfo.tw lo)).length = l.length := by simp
section
variable {G : World → Prop}
theorem szClassInfo_ct (_hst : Stable G) (lo : Nat) (x : TClassInfo) (left : Int) (h : 0 ≤ left ∧ left ≤ 1048576) (hb : x.small 9223372036854775807) : CtM Tryz.prog G 103 [.agg (x.tw lo), .int .i64 left] [] (fun y : Int => -1 ≤ y ∧ y ≤ left ∧ (0 ≤ y → x.small 1048576)) (fun _ => []) (fun y => .int .i64 y) := by
  refine ctm_enter Tryz.func103 rfl Tryz.ntmps103 rfl rfl rfl fun w0 R gs objsR hG hR => ?_
  obtain rfl := hR.inv0
  clear hR
  unfold TClassInfo.small at hb
  have hb1 : x.name.size ≤ 9223372036854775807 := hb.1
  unfold TClassInfo.tw
  repeat' (first | ((with_reducible apply o_y); exact y_; rfl) | refine e_box ?_ | ((with_reducible apply o_callM); rfl; kernel_rfl; (repeat (first | exact ArgsM.nil | ((with_reducible apply ArgsM.cons); rfl))); exact hG; exact szStringS_ct _ x.fields _ (by omega) hb.2; exact .nil _; intro y2 hy2; refine al_app0 ?_) | with_reducible refine al_none rfl ?_ | (with_reducible first | apply aw_seq | apply aw_region | apply al_nil | apply aq_then | apply aw_skip | apply aw_ret | apply aq_then_ret) | (refine aw_cond rfl rr_ (fun hc => ?_) (fun hc => ?_)))
  all_goals first
    | exact aq_retm1 x_ rfl (-1) ⟨by omega, by omega, fun h => by omega⟩ rfl (.nil R) (.refl _) (.tmp _ _ rfl) rfl
    | (refine aq_retm1 x_ rfl _ ⟨?_, ?_, fun _ => ?_⟩ rfl (.nil R) (.refl _) (.tmp _ _ rfl) rfl
       · omega
       · omega
       · exact ⟨by omega, hy2.2.2 (by omega)⟩)
theorem szClassInfoS_ct (hst : Stable G) (lo : Nat) (l : List TClassInfo) (left : Int) (h : 0 ≤ left ∧ left ≤ 1048576) (hb : l.length ≤ 9223372036854775807 ∧ ∀ y ∈ l, TClassInfo.small 9223372036854775807 y) : CtM Tryz.prog G 29 [.sl lo 3 (l.map (TClassInfo.tw lo)), .int .i64 left] [] (fun y : Int => -1 ≤ y ∧ y ≤ left ∧ (0 ≤ y → l.length ≤ 1048576 ∧ ∀ y ∈ l, TClassInfo.small 1048576 y)) (fun _ => []) (fun y => .int .i64 y) := by
  refine ctm_enter Tryz.func29 rfl Tryz.ntmps29 rfl rfl rfl fun w0 R gs objsR hG hR => ?_
  obtain rfl := hR.inv0
  clear hR
  have hlen := TClassInfo.len lo l
  have hl1 := hb.1
  by_cases hn : left - l.length < 0
  · repeat' (first | ((with_reducible apply o_y); exact y_; rfl) | with_reducible refine al_none rfl ?_ | (with_reducible first | apply aw_seq | apply aw_region | apply al_nil | apply aq_then | apply aw_ret | apply aq_then_ret) | (refine aw_cond_dt rfl rr_ dd_ ?_))
    exact aq_retm1 x_ rfl (-1) ⟨by omega, by omega, fun h => by omega⟩ rfl (.nil R) (.refl _) (.tmp _ _ rfl) rfl
  · repeat' (first | ((with_reducible apply o_y); exact y_; rfl) | with_reducible refine al_none rfl ?_ | (with_reducible first | apply aw_seq | apply aw_region | apply al_nil | apply aq_then | apply aw_block | apply aw_skip) | (refine aw_cond_df rfl rr_ dd_ ?_))
    apply aw_loopk (X := Nat × Int) [0, 1000000] (fun x => [(5, .int .i64 (x.1 : Int)), (1, .int .i64 x.2)]) (fun _ => R) (fun x => x.1 ≤ l.length ∧ 0 ≤ x.2 ∧ x.2 ≤ left ∧ ∀ y ∈ l.take x.1, TClassInfo.small 1048576 y) (fun x => l.length - x.1) (0, left - l.length) ⟨Nat.zero_le _, by dsimp only; omega, by dsimp only; omega, by simp⟩
    exact kp_; (repeat (first | exact Weak.envNil | refine Weak.envCons we_ ?_))
    · exact .refl _
    rintro ⟨i, lf⟩ ⟨hi, h0, h1, hs⟩
    dsimp only at hi h0 h1 hs ⊢
    by_cases hlt : i < l.length
    · have hrow : (l.map (TClassInfo.tw lo))[i]? = some (l[i].tw lo) := row_map hlt
      have hbi := hb.2 _ (List.getElem_mem hlt)
      have hta := take_all (p := TClassInfo.small 1048576) hlt hs
      generalize l[i] = x at hrow hbi hta
      have hct := szClassInfo_ct hst lo x lf (by omega) hbi
      unfold TClassInfo.tw at hct
      rw [show x.tw lo = [.str x.name, .int .i64 x.parent, .sl lo 1 (strR x.fields)] from rfl] at hrow
      repeat' (first | ((with_reducible apply o_y); exact y_; rfl) | ((with_reducible apply o_callM); rfl; kernel_rfl; (repeat (first | exact ArgsM.nil | ((with_reducible apply ArgsM.cons); rfl))); exact hG; exact hct; exact .nil _; intro y hy; refine al_app0 ?_) | with_reducible refine al_none rfl ?_ | (with_reducible first | apply aw_seq | apply aw_region | apply al_nil | apply aq_then | apply aw_block | apply aw_skip | apply aw_ret | apply aq_then_ret | apply aq_block_ret | apply aq_block) | (refine aw_cond_dt rfl rr_ dd_ ?_) | (refine aw_cond rfl rr_ (fun hc => ?_) (fun hc => ?_)))
      all_goals first
        | exact aq_retm1 x_ rfl (-1) ⟨by omega, by omega, fun h => by omega⟩ rfl (.nil R) (.refl _) (.tmp _ _ rfl) rfl
        | exact aq_round (i + 1, y) ⟨by dsimp only; omega, by dsimp only; omega, by dsimp only; omega, hta (hy.2.2 (by omega))⟩ (by dsimp only; omega) (.of _ nw_ od_ pk_)
    · rw [List.take_of_length_le (by omega)] at hs
      repeat' (first | ((with_reducible apply o_y); exact y_; rfl) | with_reducible refine al_none rfl ?_ | (with_reducible first | apply aw_seq | apply aw_region | apply al_nil | apply aq_then | apply aw_exit | apply aw_ret | apply aq_block_hit | apply aq_then_exit) | (refine aw_cond_df rfl rr_ dd_ ?_))
      exact aq_retm1 x_ rfl lf ⟨by omega, by omega, fun _ => ⟨by omega, hs⟩⟩ rfl (.nil R) (.refl _) (.tmp _ _ rfl) rfl
theorem toClassInfo_ct (hst : Stable G) (lo : Nat) (x : TClassInfo) (hb : x.small 1048576) : Ct Tryz.prog G 114 [.agg (x.tw lo)] (fun K => .agg (x.tw K)) := by
  refine ct_enter Tryz.func114 rfl Tryz.ntmps114 rfl rfl fun w0 _ hG => ?_
  unfold TClassInfo.small at hb
  have hsfields := (hb.2).1
  repeat' (first | ((with_reducible apply o_y); exact y_; rfl) | refine e_box ?_ | (refine e_alloc ?_; intro ss bb) | refine e_storep ?_ | refine e_call hG hst (toStringS_ct hst _ x.fields (hsfields)) ?_ | with_reducible refine al_none rfl ?_ | (with_reducible first | apply aw_seq | apply aw_region | apply al_nil | apply aq_then | apply aw_ret))
  refine aq_ret1 x_ rfl (.cell _ _ _ _ _ rfl mm_ (by kernel_rfl) (by kernel_rfl) (by kernel_rfl)) (fun _ => ?_)
  exact fin_agg (TClassInfo.fin _ _ _ x)
theorem toClassInfoS_ct (hst : Stable G) (lo : Nat) (l : List TClassInfo) (hb : l.length ≤ 1048576 ∧ ∀ y ∈ l, TClassInfo.small 1048576 y) : Ct Tryz.prog G 36 [.sl lo 3 (l.map (TClassInfo.tw lo))] (fun K => .sl K 3 (l.map (TClassInfo.tw K))) := by
  refine ct_enter Tryz.func36 rfl Tryz.ntmps36 rfl rfl fun w0 _ hG => ?_
  have hlen := TClassInfo.len lo l
  have hl1 := hb.1
  have h0 := copyR_zero (TClassInfo.tw w0.heap.size) TClassInfo.tz l
  repeat' (first | ((with_reducible apply o_y); exact y_; rfl) | (refine e_make ?_; intro ss bb) | with_reducible refine al_none rfl ?_ | (with_reducible first | apply aw_seq | apply aw_region | apply al_nil | apply aq_then | apply aw_block))
  apply aw_loopk (X := Nat) [0, 3] (fun i => [(4, .int .i64 (i : Int))]) (fun i => [(ss, bb, .row 3 (copyR (TClassInfo.tw w0.heap.size) TClassInfo.tz l i))]) (fun i => i ≤ l.length) (fun i => l.length - i) 0 (Nat.zero_le _)
  exact kp_; (repeat (first | exact Weak.envNil | refine Weak.envCons we_ ?_))
  · rw [← h0]; exact .refl _
  intro i hi
  try dsimp only
  by_cases hlt : i < l.length
  · obtain ⟨hrow, hset⟩ := copyR_set (TClassInfo.tw w0.heap.size) TClassInfo.tz hlt
    have hra : (l.map (TClassInfo.tw lo))[i]? = some (l[i].tw lo) := row_map hlt
    have hbi := hb.2 _ (List.getElem_mem hlt)
    generalize l[i] = x at hset hra hbi
    have hct := toClassInfo_ct hst lo x hbi
    unfold TClassInfo.tw at hct
    rw [show x.tw lo = [.str x.name, .int .i64 x.parent, .sl lo 1 (strR x.fields)] from rfl] at hra
    replace hrow : (copyR (TClassInfo.tw w0.heap.size) TClassInfo.tz l i)[i]? = some [.str ⟨#[]⟩, .int .i64 0, .nils] := hrow
    repeat' (first | ((with_reducible apply o_y); exact y_; rfl) | refine e_call hG hst (hct) ?_ | refine e_store ?_ | with_reducible refine al_none rfl ?_ | (with_reducible first | apply aw_seq | apply aw_region | apply al_nil | apply aq_then | apply aw_block | apply aw_skip | apply aq_block) | (refine aw_cond_dt rfl rr_ dd_ ?_))
    refine aq_round (i + 1) (by omega) (by omega) (.of _ nw_ od_ (by rw [← hset]; exact .refl _))
  · obtain rfl : i = l.length := by omega
    rw [copyR_full]
    repeat' (first | ((with_reducible apply o_y); exact y_; rfl) | with_reducible refine al_none rfl ?_ | (with_reducible first | apply aw_seq | apply aw_region | apply al_nil | apply aq_then | apply aw_exit | apply aw_ret | apply aq_block_hit | apply aq_then_exit) | (refine aw_cond_df rfl rr_ dd_ ?_))
    refine aq_ret1 x_ rfl (.tmp _ _ rfl) (fun _ => ?_)
    exact fin_ms (fun x => TClassInfo.fin _ _ _ x) List.mem_cons_self
theorem eqClassInfo_ct (hst : Stable G) (l1 l2 : Nat) (x : TClassInfo) (hb : x.small 1048576) : Ct Tryz.prog G 124 [.agg (x.tw l1), .agg (x.tw l2)] (fun _ => .bool true) := by
  refine ct_enter Tryz.func124 rfl Tryz.ntmps124 rfl rfl fun w0 _ hG => ?_
  unfold TClassInfo.small at hb
  have hsfields := (hb.2).1
  have hnename : ¬ x.name ≠ x.name := fun h => h rfl
  unfold TClassInfo.tw
  repeat' (first | ((with_reducible apply o_y); exact y_; rfl) | refine e_box ?_ | refine e_call hG hst (eqStringS_ct _ _ x.fields hsfields) ?_ | with_reducible refine al_none rfl ?_ | (with_reducible first | apply aw_seq | apply aw_region | apply al_nil | apply aq_then | apply aw_skip | apply aw_ret) | refine aw_cond_f rfl rr_ ?_ | (refine aw_cond_df rfl rr_ dd_ ?_))
  all_goals first
    | (exfalso; simp at hc; done)
    | (refine aq_ret1 x_ rfl (.tmp _ _ rfl) (fun _ => ?_)
       exact Fin.flat rfl)
theorem eqClassInfoS_ct (hst : Stable G) (l1 l2 : Nat) (l : List TClassInfo) (hb : l.length ≤ 1048576 ∧ ∀ y ∈ l, TClassInfo.small 1048576 y) : Ct Tryz.prog G 45 [.sl l1 3 (l.map (TClassInfo.tw l1)), .sl l2 3 (l.map (TClassInfo.tw l2))] (fun _ => .bool true) := by
  refine ct_enter Tryz.func45 rfl Tryz.ntmps45 rfl rfl fun w0 _ hG => ?_
  have hlen := TClassInfo.len l1 l
  have hlen2 := TClassInfo.len l2 l
  have hl1 := hb.1
  repeat' (first | ((with_reducible apply o_y); exact y_; rfl) | with_reducible refine al_none rfl ?_ | (with_reducible first | apply aw_seq | apply aw_region | apply al_nil | apply aq_then | apply aw_block | apply aw_skip) | (refine aw_cond_df rfl rr_ dd_ ?_))
  apply aw_loopk (X := Nat) [0, 1] (fun i => [(5, .int .i64 (i : Int))]) (fun _ => []) (fun i => i ≤ l.length) (fun i => l.length - i) 0 (Nat.zero_le _)
  exact kp_; (repeat (first | exact Weak.envNil | refine Weak.envCons we_ ?_))
  · exact .refl _
  intro i hi
  try dsimp only
  by_cases hlt : i < l.length
  · have hr1 : (l.map (TClassInfo.tw l1))[i]? = some (l[i].tw l1) := row_map hlt
    have hr2 : (l.map (TClassInfo.tw l2))[i]? = some (l[i].tw l2) := row_map hlt
    have hbi := hb.2 _ (List.getElem_mem hlt)
    generalize l[i] = x at hr1 hr2 hbi
    have hct := eqClassInfo_ct hst l1 l2 x hbi
    unfold TClassInfo.tw at hct
    rw [show x.tw l1 = [.str x.name, .int .i64 x.parent, .sl l1 1 (strR x.fields)] from rfl] at hr1
    rw [show x.tw l2 = [.str x.name, .int .i64 x.parent, .sl l2 1 (strR x.fields)] from rfl] at hr2
    repeat' (first | ((with_reducible apply o_y); exact y_; rfl) | with_reducible refine aw_draw (by kernel_rfl) (by kernel_rfl) ?_ | with_reducible refine dr_nil ?_ | with_reducible refine dr_none rfl ?_ | ((with_reducible apply d_y); exact y_; rfl) | refine e_calld hG hst (hct) ?_ | with_reducible refine al_none rfl ?_ | (with_reducible first | apply aw_seq | apply aw_region | apply al_nil | apply aq_then | apply aw_block | apply aw_skip | apply aq_block) | refine aw_cond_f rfl rr_ ?_ | (refine aw_cond_dt rfl rr_ dd_ ?_))
    exact aq_round (i + 1) (by omega) (by omega) (.of _ nw_ od_ pk_)
  · repeat' (first | ((with_reducible apply o_y); exact y_; rfl) | with_reducible refine al_none rfl ?_ | (with_reducible first | apply aw_seq | apply aw_region | apply al_nil | apply aq_then | apply aw_exit | apply aw_ret | apply aq_block_hit | apply aq_then_exit) | (refine aw_cond_df rfl rr_ dd_ ?_))
    refine aq_ret1 x_ rfl (.tmp _ _ rfl) (fun _ => ?_)
    exact Fin.flat rfl
end
def TCodeBase.tw (lo : Nat) (x : TCodeBase) : List TV := [.sl lo 3 (x.classes.map (TClassInfo.tw lo)), .sl lo 4 (x.codes.map (TCode.tw lo)), .sl lo 4 (x.entries.map (TEntry.tw lo)), .int .i64 x.main]
def TCodeBase.small (n : Nat) (x : TCodeBase) : Prop := (x.classes.length ≤ n ∧ ∀ y ∈ x.classes, TClassInfo.small n y) ∧ (x.codes.length ≤ n ∧ ∀ y ∈ x.codes, TCode.small n y) ∧ (x.entries.length ≤ n ∧ ∀ y ∈ x.entries, TEntry.small n y)
def TCodeBase.tz : List TV := [.nils, .nils, .nils, .int .i64 0]
theorem TCodeBase.fin (B K : Nat) (objs : Objs) (x : TCodeBase) : FinL B objs K (x.tw B) (x.tw K) := .cons (fin_sl (fun x => TClassInfo.fin B K objs x) _) (.cons (fin_sl (fun x => TCode.fin B K objs x) _) (.cons (fin_sl (fun x => TEntry.fin B K objs x) _) (.cons (.flat rfl) (.nil))))
theorem TCodeBase.len (lo : Nat) (l : List TCodeBase) : (l.map (TCodeBase.tw lo)).length = l.length := by simp
section
variable {G : World → Prop}
theorem szCodeBase_ct (hst : Stable G) (lo : Nat) (x : TCodeBase) (left : Int) (h : 0 ≤ left ∧ left ≤ 1048576) (hb : x.small 9223372036854775807) : CtM Tryz.prog G 8 [.agg (x.tw lo), .int .i64 left] [] (fun y : Int => -1 ≤ y ∧ y ≤ left ∧ (0 ≤ y → x.small 1048576)) (fun _ => []) (fun y => .int .i64 y) := by
  refine ctm_enter Tryz.func8 rfl Tryz.ntmps8 rfl rfl rfl fun w0 R gs objsR hG hR => ?_
  obtain rfl := hR.inv0
  clear hR
  unfold TCodeBase.small at hb
  skip
  unfold TCodeBase.tw
  repeat' (first | ((with_reducible apply o_y); exact y_; rfl) | refine e_box ?_ | ((with_reducible apply o_callM); rfl; kernel_rfl; (repeat (first | exact ArgsM.nil | ((with_reducible apply ArgsM.cons); rfl))); exact hG; exact szClassInfoS_ct hst _ x.classes _ (by omega) hb.1; exact .nil _; intro y1 hy1; refine al_app0 ?_) | ((with_reducible apply o_callM); rfl; kernel_rfl; (repeat (first | exact ArgsM.nil | ((with_reducible apply ArgsM.cons); rfl))); exact hG; exact szCodeS_ct hst _ x.codes _ (by omega) hb.2.1; exact .nil _; intro y2 hy2; refine al_app0 ?_) | ((with_reducible apply o_callM); rfl; kernel_rfl; (repeat (first | exact ArgsM.nil | ((with_reducible apply ArgsM.cons); rfl))); exact hG; exact szEntryS_ct hst _ x.entries _ (by omega) hb.2.2; exact .nil _; intro y3 hy3; refine al_app0 ?_) | with_reducible refine al_none rfl ?_ | (with_reducible first | apply aw_seq | apply aw_region | apply al_nil | apply aq_then | apply aw_skip | apply aw_ret | apply aq_then_ret) | (refine aw_cond rfl rr_ (fun hc => ?_) (fun hc => ?_)))
  all_goals first
    | exact aq_retm1 x_ rfl (-1) ⟨by omega, by omega, fun h => by omega⟩ rfl (.nil R) (.refl _) (.tmp _ _ rfl) rfl
    | (refine aq_retm1 x_ rfl _ ⟨?_, ?_, fun _ => ?_⟩ rfl (.nil R) (.refl _) (.tmp _ _ rfl) rfl
       · omega
       · omega
       · exact ⟨hy1.2.2 (by omega), hy2.2.2 (by omega), hy3.2.2 (by omega)⟩)
theorem toCodeBase_ct (hst : Stable G) (lo : Nat) (x : TCodeBase) (hb : x.small 1048576) : Ct Tryz.prog G 10 [.agg (x.tw lo)] (fun K => .agg (x.tw K)) := by
  refine ct_enter Tryz.func10 rfl Tryz.ntmps10 rfl rfl fun w0 _ hG => ?_
  unfold TCodeBase.small at hb
  have hsclasses := hb.1
  have hscodes := hb.2.1
  have hsentries := hb.2.2
  repeat' (first | ((with_reducible apply o_y); exact y_; rfl) | refine e_box ?_ | (refine e_alloc ?_; intro ss bb) | refine e_storep ?_ | refine e_call hG hst (toClassInfoS_ct hst _ x.classes (hsclasses)) ?_ | refine e_call hG hst (toCodeS_ct hst _ x.codes (hscodes)) ?_ | refine e_call hG hst (toEntryS_ct hst _ x.entries (hsentries)) ?_ | with_reducible refine al_none rfl ?_ | (with_reducible first | apply aw_seq | apply aw_region | apply al_nil | apply aq_then | apply aw_ret))
  refine aq_ret1 x_ rfl (.cell _ _ _ _ _ rfl mm_ (by kernel_rfl) (by kernel_rfl) (by kernel_rfl)) (fun _ => ?_)
  exact fin_agg (TCodeBase.fin _ _ _ x)
theorem eqCodeBase_ct (hst : Stable G) (l1 l2 : Nat) (x : TCodeBase) (hb : x.small 1048576) : Ct Tryz.prog G 12 [.agg (x.tw l1), .agg (x.tw l2)] (fun _ => .bool true) := by
  refine ct_enter Tryz.func12 rfl Tryz.ntmps12 rfl rfl fun w0 _ hG => ?_
  unfold TCodeBase.small at hb
  have hsclasses := hb.1
  have hscodes := hb.2.1
  have hsentries := hb.2.2
  unfold TCodeBase.tw
  repeat' (first | ((with_reducible apply o_y); exact y_; rfl) | refine e_box ?_ | refine e_call hG hst (eqClassInfoS_ct hst _ _ x.classes hsclasses) ?_ | refine e_call hG hst (eqCodeS_ct hst _ _ x.codes hscodes) ?_ | refine e_call hG hst (eqEntryS_ct hst _ _ x.entries hsentries) ?_ | with_reducible refine al_none rfl ?_ | (with_reducible first | apply aw_seq | apply aw_region | apply al_nil | apply aq_then | apply aw_skip | apply aw_ret) | refine aw_cond_f rfl rr_ ?_ | (refine aw_cond_df rfl rr_ dd_ ?_))
  all_goals first
    | (exfalso; simp at hc; done)
    | (refine aq_ret1 x_ rfl (.tmp _ _ rfl) (fun _ => ?_)
       exact Fin.flat rfl)
end
def TEdit.tw (_lo : Nat) (x : TEdit) : List TV := [.int .i64 x.code, .int .i64 x.at_, .int .i64 x.kind]
def TEdit.small (_n : Nat) (_x : TEdit) : Prop := True
def TEdit.tz : List TV := [.int .i64 0, .int .i64 0, .int .i64 0]
theorem TEdit.fin (B K : Nat) (objs : Objs) (x : TEdit) : FinL B objs K (x.tw B) (x.tw K) := .cons (.flat rfl) (.cons (.flat rfl) (.cons (.flat rfl) (.nil)))
theorem TEdit.len (lo : Nat) (l : List TEdit) : (l.map (TEdit.tw lo)).length = l.length := by simp
section
variable {G : World → Prop}
end
end Go.Proofs.YthpdkhejeookhaaGreatDoor
/- The built-in classes of both sides. Written by gen_iv.py. -/
namespace Go.Proofs.YthpdkhejeookhaaGreatDoor
set_option maxRecDepth 20000
open Go Go.RowKit
def builtinL : List TClassInfo := [⟨⟨#[79, 98, 106, 101, 99, 116]⟩, -1, []⟩, ⟨⟨#[69, 120, 99, 101, 112, 116, 105, 111, 110]⟩, 0, [⟨#[116, 101, 120, 116]⟩]⟩, ⟨⟨#[69, 114, 114, 111, 114]⟩, 1, [⟨#[116, 101, 120, 116]⟩]⟩, ⟨⟨#[77, 101, 115, 115, 97, 103, 101, 78, 111, 116, 85, 110, 100, 101, 114, 115, 116, 111, 111, 100]⟩, 2, [⟨#[116, 101, 120, 116]⟩]⟩, ⟨⟨#[90, 101, 114, 111, 68, 105, 118, 105, 100, 101]⟩, 2, [⟨#[116, 101, 120, 116]⟩]⟩, ⟨⟨#[73, 110, 116, 101, 103, 101, 114]⟩, 0, []⟩, ⟨⟨#[66, 111, 111, 108, 101, 97, 110]⟩, 0, []⟩, ⟨⟨#[78, 105, 108]⟩, 0, []⟩, ⟨⟨#[83, 116, 114, 105, 110, 103]⟩, 0, []⟩, ⟨⟨#[83, 121, 109, 98, 111, 108]⟩, 0, []⟩, ⟨⟨#[65, 114, 114, 97, 121]⟩, 0, []⟩, ⟨⟨#[66, 108, 111, 99, 107]⟩, 0, []⟩, ⟨⟨#[83, 101, 109, 97, 112, 104, 111, 114, 101]⟩, 0, []⟩, ⟨⟨#[80, 114, 111, 99, 101, 115, 115]⟩, 0, []⟩, ⟨⟨#[84, 114, 97, 110, 115, 99, 114, 105, 112, 116]⟩, 0, []⟩, ⟨⟨#[67, 108, 97, 115, 115]⟩, 0, []⟩]
def builtinNames : List ByteArray := [⟨#[79, 98, 106, 101, 99, 116]⟩, ⟨#[69, 120, 99, 101, 112, 116, 105, 111, 110]⟩, ⟨#[69, 114, 114, 111, 114]⟩, ⟨#[77, 101, 115, 115, 97, 103, 101, 78, 111, 116, 85, 110, 100, 101, 114, 115, 116, 111, 111, 100]⟩, ⟨#[90, 101, 114, 111, 68, 105, 118, 105, 100, 101]⟩, ⟨#[73, 110, 116, 101, 103, 101, 114]⟩, ⟨#[66, 111, 111, 108, 101, 97, 110]⟩, ⟨#[78, 105, 108]⟩, ⟨#[83, 116, 114, 105, 110, 103]⟩, ⟨#[83, 121, 109, 98, 111, 108]⟩, ⟨#[65, 114, 114, 97, 121]⟩, ⟨#[66, 108, 111, 99, 107]⟩, ⟨#[83, 101, 109, 97, 112, 104, 111, 114, 101]⟩, ⟨#[80, 114, 111, 99, 101, 115, 115]⟩, ⟨#[84, 114, 97, 110, 115, 99, 114, 105, 112, 116]⟩, ⟨#[67, 108, 97, 115, 115]⟩]
def bfields (k : Int) : List ByteArray := if k = 1 ∨ k = 2 ∨ k = 3 ∨ k = 4 then [⟨#[116, 101, 120, 116]⟩] else []
def bparents : List (List TV) := [[TV.int .i64 (-1)], [TV.int .i64 0], [TV.int .i64 1], [TV.int .i64 2], [TV.int .i64 2], [TV.int .i64 0], [TV.int .i64 0], [TV.int .i64 0], [TV.int .i64 0], [TV.int .i64 0], [TV.int .i64 0], [TV.int .i64 0], [TV.int .i64 0], [TV.int .i64 0], [TV.int .i64 0], [TV.int .i64 0]]
theorem builtin_len : builtinL.length = 16 := rfl
theorem builtin_at {i : Nat} (h : i < 16) : ∃ x, builtinL[i]? = some x ∧ (strR builtinNames)[i]? = some [.str x.name] ∧ bparents[i]? = some [.int .i64 x.parent] ∧ bfields (i : Int) = x.fields ∧ builtinL.take (i + 1) = builtinL.take i ++ [x] := by
  match i, h with
  | 0, _ => exact ⟨_, rfl, rfl, rfl, rfl, rfl⟩
  | 1, _ => exact ⟨_, rfl, rfl, rfl, rfl, rfl⟩
  | 2, _ => exact ⟨_, rfl, rfl, rfl, rfl, rfl⟩
  | 3, _ => exact ⟨_, rfl, rfl, rfl, rfl, rfl⟩
  | 4, _ => exact ⟨_, rfl, rfl, rfl, rfl, rfl⟩
  | 5, _ => exact ⟨_, rfl, rfl, rfl, rfl, rfl⟩
  | 6, _ => exact ⟨_, rfl, rfl, rfl, rfl, rfl⟩
  | 7, _ => exact ⟨_, rfl, rfl, rfl, rfl, rfl⟩
  | 8, _ => exact ⟨_, rfl, rfl, rfl, rfl, rfl⟩
  | 9, _ => exact ⟨_, rfl, rfl, rfl, rfl, rfl⟩
  | 10, _ => exact ⟨_, rfl, rfl, rfl, rfl, rfl⟩
  | 11, _ => exact ⟨_, rfl, rfl, rfl, rfl, rfl⟩
  | 12, _ => exact ⟨_, rfl, rfl, rfl, rfl, rfl⟩
  | 13, _ => exact ⟨_, rfl, rfl, rfl, rfl, rfl⟩
  | 14, _ => exact ⟨_, rfl, rfl, rfl, rfl, rfl⟩
  | 15, _ => exact ⟨_, rfl, rfl, rfl, rfl, rfl⟩
  | n + 16, h => omega
section
variable {G : World → Prop}
theorem specBuiltin_ct : Ct Tryz.prog G 219 [] (fun K => .sl K 1 (strR builtinNames)) := by
  refine ct_enter Tryz.func219 rfl Tryz.ntmps219 rfl rfl fun w0 _ hG => ?_
  repeat' (first | ((with_reducible apply o_y); exact y_; rfl) | refine e_lit ?_ | with_reducible refine al_none rfl ?_ | (with_reducible first | apply aw_seq | apply aw_region | apply al_nil | apply aq_then | apply aw_ret))
  refine aq_ret1 (r1 := .tmp 0) (t1 := .sl w0.heap.size 1 (strR builtinNames)) (.inr rfl) rfl (.tmp _ _ rfl) (fun _ => ?_)
  exact fin_sl (f := fun s : ByteArray => [TV.str s]) (f' := fun s : ByteArray => [TV.str s]) (fun x => .cons (.flat rfl) .nil) builtinNames
theorem implBuiltin_ct : Ct Tryz.prog G 229 [] (fun K => .sl K 1 (strR builtinNames)) := by
  refine ct_enter Tryz.func229 rfl Tryz.ntmps229 rfl rfl fun w0 _ hG => ?_
  repeat' (first | ((with_reducible apply o_y); exact y_; rfl) | refine e_lit ?_ | with_reducible refine al_none rfl ?_ | (with_reducible first | apply aw_seq | apply aw_region | apply al_nil | apply aq_then | apply aw_ret))
  refine aq_ret1 (r1 := .tmp 0) (t1 := .sl w0.heap.size 1 (strR builtinNames)) (.inr rfl) rfl (.tmp _ _ rfl) (fun _ => ?_)
  exact fin_sl (f := fun s : ByteArray => [TV.str s]) (f' := fun s : ByteArray => [TV.str s]) (fun x => .cons (.flat rfl) .nil) builtinNames
theorem l7Fields_ct (tu : TV) (k : Int) (h : k < 16) : Ct Tryz.prog G 220 [tu, .int .i64 k] (fun K => .sl K 1 (strR (bfields k))) := by
  refine ct_enter Tryz.func220 rfl Tryz.ntmps220 rfl rfl fun w0 _ hG => ?_
  by_cases hk : k = 1 ∨ k = 2 ∨ k = 3 ∨ k = 4
  · rw [show bfields k = [⟨#[116, 101, 120, 116]⟩] from if_pos hk]
    repeat' (first | ((with_reducible apply o_y); exact y_; rfl) | refine e_lit ?_ | with_reducible refine al_none rfl ?_ | (with_reducible first | apply aw_seq | apply aw_region | apply al_nil | apply aq_then | apply aw_ret | apply aq_then_ret) | refine al_run rfl rfl rfl rr_ ?_ | refine al_skip rfl rfl rfl rr_ rfl rfl rfl ?_ | (refine al_gsplit rfl rfl rfl rr_ (fun hg => ?_) (fun hg => ?_)) | refine aw_cond_t rfl rr_ ?_ | (refine aw_cond_dt rfl rr_ dd_ ?_))
    all_goals first
      | (exfalso; omega)
      | (refine aq_ret1 x_ rfl (.tmp _ _ rfl) (fun _ => ?_)
         exact fin_sl (f := fun s : ByteArray => [TV.str s]) (f' := fun s : ByteArray => [TV.str s]) (fun x => .cons (.flat rfl) .nil) [⟨#[116, 101, 120, 116]⟩])
  · rw [show bfields k = [] from if_neg hk]
    repeat' (first | ((with_reducible apply o_y); exact y_; rfl) | refine e_lit ?_ | with_reducible refine al_none rfl ?_ | (with_reducible first | apply aw_seq | apply aw_region | apply al_nil | apply aq_then | apply aw_skip | apply aw_ret | apply aq_then_ret) | refine al_run rfl rfl rfl rr_ ?_ | (refine al_gf rfl rfl rfl rr_ dd_ ?_) | (refine aw_cond_dt rfl rr_ dd_ ?_) | (refine aw_cond_df rfl rr_ dd_ ?_))
    all_goals first
      | (exfalso; omega)
      | (refine aq_ret1 x_ rfl (.tmp _ _ rfl) (fun _ => ?_)
         exact fin_sl (f := fun s : ByteArray => [TV.str s]) (f' := fun s : ByteArray => [TV.str s]) (fun x => .cons (.flat rfl) .nil) [])
theorem l8Infos_ct (hst : Stable G) (rest : List TV) : Ct Tryz.prog G 179 [.cp 0 (.nils :: rest)] (fun K => .sl K 3 (builtinL.map (TClassInfo.tw K))) := by
  refine ct_enter Tryz.func179 rfl Tryz.ntmps179 rfl rfl fun w0 _ hG => ?_
  repeat' (first | ((with_reducible apply o_y); exact y_; rfl) | refine e_call hG hst (specBuiltin_ct) ?_ | with_reducible refine aw_hold_r (id := 3) ?_ | (refine e_own ?_; intro ss bb) | with_reducible refine al_none rfl ?_ | (with_reducible first | apply aw_seq | apply aw_region | apply al_nil | apply aq_then))
  refine ⟨?_⟩
  repeat' (first | ((with_reducible apply o_y); exact y_; rfl) | refine e_lit ?_ | with_reducible refine al_none rfl ?_ | (with_reducible first | apply aw_seq | apply aw_region | apply al_nil | apply aq_then | apply aw_block))
  apply aw_loopk (X := Nat × Nat) [0, 4, 5] (fun x => [(6, .int .i64 (x.1 : Int)), (3, .ms ss x.2 0 x.1)]) (fun x => [(ss, x.2, .row 3 ((builtinL.take x.1).map (TClassInfo.tw w0.heap.size)))]) (fun x => x.1 ≤ 16) (fun x => 16 - x.1) (0, bb) (Nat.zero_le _)
  exact kp_; (repeat (first | exact Weak.envNil | refine Weak.envCons we_ ?_))
  · exact .refl _
  rintro ⟨i, b⟩ hi
  dsimp only at hi ⊢
  by_cases hlt : i < 16
  · obtain ⟨x, hx, h1, h2, h3, h4⟩ := builtin_at hlt
    unfold bparents at h2
    have hle : ((builtinL.take i).map (TClassInfo.tw w0.heap.size)).length = i := by rw [List.length_map, List.length_take, builtin_len]; omega
    repeat' (first | ((with_reducible apply o_y); exact y_; rfl) | (with_reducible apply aw_draw2 (id := 7) 14; kernel_rfl; kernel_rfl; kernel_rfl; (repeat (first | exact Cut.zero _ | apply Cut.succ))) | with_reducible refine dr_nil2 ?_ | with_reducible refine dr_none rfl ?_ | ((with_reducible apply d_y); exact y_; rfl) | ((with_reducible apply d_call); rfl; kernel_rfl; (repeat (first | exact Args.nil | ((with_reducible apply Args.cons); rfl; exact .same _))); exact hG; exact hst; exact l7Fields_ct _ _ (by omega)) | refine e_buildd ?_ | refine e_litd ?_ | (refine e_app ?_; intro bb) | with_reducible refine al_none rfl ?_ | (with_reducible first | apply aw_seq | apply aw_region | apply al_nil | apply aq_then | apply aw_block | apply aw_skip | apply aq_block) | (refine aw_cond_dt rfl rr_ dd_ ?_))
    have hrow : (builtinL.take i).map (TClassInfo.tw w0.heap.size) ++ [[TV.str x.name, .int .i64 x.parent, .sl w0.heap.size 1 (strR (bfields i))]] = (builtinL.take (i + 1)).map (TClassInfo.tw w0.heap.size) := by
      rw [h4, h3, List.map_append]; rfl
    rw [hrow]
    exact aq_round (i + 1, bb) (by dsimp only; omega) (by dsimp only; omega) (.of _ nw_ od_ pk_)
  · obtain rfl : i = 16 := by omega
    repeat' (first | ((with_reducible apply o_y); exact y_; rfl) | with_reducible refine al_none rfl ?_ | (with_reducible first | apply aw_seq | apply aw_region | apply al_nil | apply aq_then | apply aw_block | apply aw_exit | apply aq_block_hit | apply aq_then_exit) | (refine aw_cond_df rfl rr_ dd_ ?_))
    apply aw_loopk (X := Unit) [0, 3] (fun _ => [(7, .int .i64 0)]) (fun _ => [(ss, b, .row 3 (builtinL.map (TClassInfo.tw w0.heap.size)))]) (fun _ => True) (fun _ => 0) () trivial
    exact kp_; (repeat (first | exact Weak.envNil | refine Weak.envCons we_ ?_))
    · exact .refl _
    rintro _ -
    repeat' (first | ((with_reducible apply o_y); exact y_; rfl) | with_reducible refine al_none rfl ?_ | (with_reducible first | apply aw_seq | apply aw_region | apply al_nil | apply aq_then | apply aw_exit | apply aw_ret | apply aq_block_hit | apply aq_then_exit) | (refine aw_cond_df rfl rr_ dd_ ?_))
    refine aq_ret1 x_ rfl (.tmp _ _ rfl) (fun _ => ?_)
    exact fin_ms (fun x => TClassInfo.fin _ _ _ x) List.mem_cons_self
end
end Go.Proofs.YthpdkhejeookhaaGreatDoor
/- The depths of the stack as plain functions: what an instruction takes, where it goes on, one step of the program's way and of the reference's way, and that both are one. No program here. -/
namespace Go.Proofs.YthpdkhejeookhaaGreatDoor
open Go Go.RowKit

/-- How many values an instruction takes and leaves. -/
def TInstr.eff (i : TInstr) : Int × Int :=
  if i.op = 9 ∨ i.op = 11 ∨ i.op = 18 then (1, 1)
  else if i.op = 13 then (nArgsL i.text.data.toList + 1, 1)
  else if i.op = 14 then (nArgsL i.text.data.toList, 1)
  else if i.op = 16 ∨ i.op = 19 ∨ i.op = 21 ∨ i.op = 22 then (1, 0)
  else if i.op = 17 then (1, 2)
  else if i.op = 24 ∨ i.op = 25 then (2, 2)
  else if i.op = 26 then (2, 1)
  else if i.op = 20 ∨ i.op = 23 then (0, 0)
  else (0, 1)
/-- The labels of an instruction. -/
def TInstr.labs (i : TInstr) : List Int :=
  if i.op = 20 then [i.a] else if i.op = 21 ∨ i.op = 22 then [i.a, i.b] else if i.op = 24 ∨ i.op = 25 ∨ i.op = 26 then [i.b] else []
/-- Where an instruction goes on, and with how many values. -/
def TInstr.nexts (i : TInstr) (at_ d : Int) : List (Int × Int) :=
  if i.op = 19 then []
  else if i.op = 20 then [(i.a, d - i.eff.1 + i.eff.2)]
  else if i.op = 21 ∨ i.op = 22 then [(at_ + 1, d - i.eff.1 + i.eff.2), (i.a, d - i.eff.1 + i.eff.2), (i.b, d - i.eff.1 + i.eff.2 + 1)]
  else if i.op = 24 ∨ i.op = 25 then [(at_ + 1, d - i.eff.1 + i.eff.2), (i.b, d - 1)]
  else if i.op = 26 then [(at_ + 1, d - i.eff.1 + i.eff.2), (i.b, d)]
  else [(at_ + 1, d - i.eff.1 + i.eff.2)]

theorem op_ways (k : Int) : k = 9 ∨ k = 11 ∨ k = 13 ∨ k = 14 ∨ k = 16 ∨ k = 17 ∨ k = 18 ∨ k = 19 ∨ k = 20 ∨ k = 21 ∨ k = 22 ∨ k = 23 ∨ k = 24 ∨ k = 25 ∨ k = 26 ∨ (¬ k = 9 ∧ ¬ k = 11 ∧ ¬ k = 13 ∧ ¬ k = 14 ∧ ¬ k = 16 ∧ ¬ k = 17 ∧ ¬ k = 18 ∧ ¬ k = 19 ∧ ¬ k = 20 ∧ ¬ k = 21 ∧ ¬ k = 22 ∧ ¬ k = 23 ∧ ¬ k = 24 ∧ ¬ k = 25 ∧ ¬ k = 26) := by omega

/-- A selector has at least no arguments. -/
theorem sel_args (l : List UInt8) : isSelL l = decide (0 ≤ nArgsL l) := by
  unfold isSelL nArgsL
  cases isOpL l
  · cases isNameL l
    · cases kwL l <;> simp
    · simp
  · simp
theorem nArgs_ge (l : List UInt8) : -1 ≤ nArgsL l := by
  unfold nArgsL
  split
  · omega
  · split
    · omega
    · split <;> omega
theorem kw_length {l : List UInt8} {ps : List (List UInt8)} (h : kwL l = some ps) : ps.length ≤ 4 := by
  unfold kwL at h
  split at h
  · split at h
    · rename_i h2
      simp only [Bool.and_eq_true, decide_eq_true_eq] at h2
      cases h; exact h2.2
    · cases h
  · cases h
theorem nArgs_le (l : List UInt8) : nArgsL l ≤ 4 := by
  unfold nArgsL
  split
  · omega
  · split
    · omega
    · split
      · rename_i ps h
        have := kw_length h
        omega
      · omega
theorem eff_range (i : TInstr) : -1 ≤ i.eff.1 ∧ i.eff.1 ≤ 5 ∧ 0 ≤ i.eff.2 ∧ i.eff.2 ≤ 2 := by
  have h1 := nArgs_ge i.text.data.toList
  have h2 := nArgs_le i.text.data.toList
  unfold TInstr.eff
  repeat' split
  all_goals (refine ⟨?_, ?_, ?_, ?_⟩ <;> simp <;> omega)

def gd (ds : List Int) (p : Int) : Int := ds.getD p.toNat 0
def opAt (is : List TInstr) (p : Int) : Int := ((is[p.toNat]?).map TInstr.op).getD 0

/-- What is asked of the instructions one by one, ahead of all steps. -/
def preOkI (n : Nat) (i : TInstr) : Bool := inR i.op 1 26 && (!(decide (i.op = 13) || decide (i.op = 14)) || decide (0 ≤ nArgsL i.text.data.toList)) && i.labs.all fun l => inR l 0 ((n : Int) - 1)
def preOk (is : List TInstr) : Bool := is.all (preOkI is.length)

abbrev Dst := List Int × List Nat
def badI (n : Nat) (ds : List Int) (p d : Int) : Bool := !inR p 0 ((n : Int) - 1) || decide (250 < d) || (decide (0 ≤ gd ds p) && !decide (gd ds p = d))
/-- The program's way to mark where an instruction goes on. -/
def pushI (n : Nat) : List (Int × Int) → Dst → Option Dst
  | [], s => some s
  | (p, d) :: r, (ds, q) => if badI n ds p d then none else if gd ds p < 0 then pushI n r (ds.set p.toNat d, q ++ [p.toNat]) else pushI n r (ds, q)
def backI (is : List TInstr) (at_ : Int) (op l : Int) : Bool := !decide (op = 26) && decide (l ≤ at_) && !decide (opAt is l = 23)
def stepI (is : List TInstr) (i : TInstr) (at_ : Nat) (ds : List Int) : Option Dst :=
  if gd ds at_ < i.eff.1 then none
  else if i.labs.any (backI is at_ i.op) then none
  else pushI is.length (i.nexts at_ (gd ds at_)) (ds, [])
def badS (is : List TInstr) (at_ : Int) (op p : Int) : Bool := decide ((is.length : Int) ≤ p) || backI is at_ op p
/-- The reference's way. -/
def pushS (is : List TInstr) (at_ op : Int) : List (Int × Int) → Dst → Option Dst
  | [], s => some s
  | (p, d) :: r, (ds, q) => if badS is at_ op p then none else if gd ds p = -1 then pushS is at_ op r (ds.set p.toNat d, q ++ [p.toNat]) else if gd ds p = d then pushS is at_ op r (ds, q) else none
def stepS (is : List TInstr) (i : TInstr) (at_ : Nat) (ds : List Int) : Option Dst :=
  if gd ds at_ - i.eff.1 < 0 ∨ 250 < gd ds at_ - i.eff.1 + i.eff.2 then none
  else pushS is at_ i.op (i.nexts at_ (gd ds at_)) (ds, [])

/-- The common way: only a mismatch ends it. -/
def pushM : List (Int × Int) → Dst → Option Dst
  | [], s => some s
  | (p, d) :: r, (ds, q) => if gd ds p < 0 then pushM r (ds.set p.toNat d, q ++ [p.toNat]) else if gd ds p = d then pushM r (ds, q) else none
def okP (n : Nat) (x : Int × Int) : Bool := inR x.1 0 ((n : Int) - 1) && decide (x.2 ≤ 250)
theorem pushI_eq (n : Nat) : ∀ (l : List (Int × Int)) (s : Dst), pushI n l s = if l.all (okP n) then pushM l s else none
  | [], s => by simp [pushI, pushM]
  | (p, d) :: r, (ds, q) => by
    have ih := pushI_eq n r
    by_cases hr : inR p 0 ((n : Int) - 1) = true
    · by_cases hd : d ≤ 250
      · have hd' : ¬ 250 < d := by omega
        by_cases hg : gd ds p < 0
        · have hg' : ¬ 0 ≤ gd ds p := by omega
          simp only [pushI, badI, pushM, okP, List.all_cons, hr, hd, hd', hg, hg', ih, decide_true, decide_false, Bool.not_true, Bool.or_false, Bool.false_and, Bool.true_and, if_true, Bool.false_eq_true, if_false]
        · have hg' : 0 ≤ gd ds p := by omega
          by_cases he : gd ds p = d
          · have h1 : ¬ d < 0 := he ▸ hg
            have h2 : 0 ≤ d := he ▸ hg'
            simp only [pushI, badI, pushM, okP, List.all_cons, hr, hd, hd', he, h1, h2, ih, decide_true, decide_false, Bool.not_true, Bool.or_false, Bool.true_and, if_true, Bool.false_eq_true, if_false]
          · simp [pushI, badI, pushM, okP, hr, hd, hd', hg, hg', he]
            exact (ite_self _).symm
      · have hd' : 250 < d := by omega
        simp [pushI, badI, okP, hr, hd, hd']
    · simp [pushI, badI, okP, hr]

/-- All depths lie from -1 to 250. -/
def InvD (ds : List Int) : Prop := ∀ x ∈ ds, -1 ≤ x ∧ x ≤ 250
theorem InvD.gd {ds : List Int} (h : InvD ds) (p : Int) : -1 ≤ gd ds p ∧ gd ds p ≤ 250 := by
  unfold Proofs.YthpdkhejeookhaaGreatDoor.gd
  rw [List.getD_eq_getElem?_getD]
  cases hp : ds[p.toNat]? with
  | none => simp
  | some x => exact h x (List.mem_of_getElem? hp)
theorem InvD.set {ds : List Int} (h : InvD ds) {d : Int} (h0 : -1 ≤ d) (h1 : d ≤ 250) (p : Nat) : InvD (ds.set p d) := fun x hx => by
  rcases List.mem_or_eq_of_mem_set hx with hx | rfl
  · exact h x hx
  · exact ⟨h0, h1⟩
theorem pushS_eq (is : List TInstr) (at_ op : Int) : ∀ (l : List (Int × Int)) (s : Dst), InvD s.1 → (∀ x ∈ l, 0 ≤ x.2 ∧ x.2 ≤ 250) → pushS is at_ op l s = if l.all (fun x => !badS is at_ op x.1) then pushM l s else none
  | [], s, _, _ => by simp [pushS, pushM]
  | (p, d) :: r, (ds, q), hI, hl => by
    have ih := pushS_eq is at_ op r
    have hd := hl (p, d) (by simp)
    have hl' : ∀ x ∈ r, 0 ≤ x.2 ∧ x.2 ≤ 250 := fun x hx => hl x (by simp [hx])
    have hg := hI.gd p
    by_cases hb : badS is at_ op p = true
    · simp [pushS, hb]
    · by_cases h1 : gd ds p = -1
      · have h2 : gd ds p < 0 := by omega
        have := ih (ds.set p.toNat d, q ++ [p.toNat]) (hI.set (by omega) hd.2 _) hl'
        simp only [pushS, pushM, List.all_cons, hb, h1, if_true, Bool.false_eq_true, if_false, Bool.not_false, Bool.true_and, this, show ((-1 : Int) < 0) from by omega]
      · have h2 : ¬ gd ds p < 0 := by simp only at hg; omega
        by_cases he : gd ds p = d
        · have h3 : ¬ d < 0 := he ▸ h2
          have h4 : ¬ d = -1 := he ▸ h1
          have := ih (ds, q) hI hl'
          simp only [pushS, pushM, List.all_cons, hb, he, h3, h4, if_true, Bool.false_eq_true, if_false, Bool.not_false, Bool.true_and, this]
        · simp [pushS, pushM, hb, h1, h2, he]
          exact (ite_self _).symm

theorem nexts_le (i : TInstr) (at_ : Nat) (g : Int) (h0 : 0 ≤ g) (h1 : g ≤ 250) (h : 250 < g - i.eff.1 + i.eff.2) (_hl : ∀ _l : Int, True) : ∃ x ∈ i.nexts at_ g, 250 < x.2 := by
  rcases op_ways i.op with h' | h' | h' | h' | h' | h' | h' | h' | h' | h' | h' | h' | h' | h' | h' | h'
  all_goals first
    | (refine ⟨((at_ : Int) + 1, g - i.eff.1 + i.eff.2), ?_, h⟩; simp [TInstr.nexts, h']; done)
    | (refine ⟨(i.a, g - i.eff.1 + i.eff.2), ?_, h⟩; simp [TInstr.nexts, h']; done)
    | (exfalso; simp [TInstr.eff, h'] at h; omega)
theorem nexts_range (i : TInstr) (at_ : Nat) (g : Int) (h0 : 0 ≤ g) (h1 : g ≤ 250) (ht : ¬ g < i.eff.1) (h : ¬ 250 < g - i.eff.1 + i.eff.2) (_hsel : i.op = 14 → 0 ≤ i.eff.1) : ∀ x ∈ i.nexts at_ g, 0 ≤ x.2 ∧ x.2 ≤ 250 := by
  have he := eff_range i
  intro x hx
  rcases op_ways i.op with h' | h' | h' | h' | h' | h' | h' | h' | h' | h' | h' | h' | h' | h' | h' | h'
  all_goals first
      | (simp [TInstr.nexts, h'] at hx; done)
      | skip
  all_goals
    simp [TInstr.nexts, h'] at hx
    try simp [TInstr.eff, h'] at ht h he _hsel hx
    first
      | (subst hx; simp; omega)
      | (rcases hx with rfl | rfl <;> simp <;> omega)
      | (rcases hx with rfl | rfl | rfl <;> simp <;> omega)
theorem inR_cut (n : Nat) (l : Int) : inR l 0 ((n : Int) - 1) = (decide (0 ≤ l) && !decide ((n : Int) ≤ l)) := by
  simp only [inR]; rw [Bool.eq_iff_iff]; simp; omega
theorem nexts_key (is : List TInstr) (i : TInstr) (at_ : Nat) (g : Int) (_h0 : 0 ≤ g) (h1 : g ≤ 250) (_ht : ¬ g < i.eff.1) (h : ¬ 250 < g - i.eff.1 + i.eff.2) (hlab : (i.labs.all fun l => inR l 0 ((is.length : Int) - 1)) = true) :
    (!i.labs.any (backI is at_ i.op) && (i.nexts at_ g).all (okP is.length)) = (i.nexts at_ g).all (fun x => !badS is at_ i.op x.1) := by
  have hb1 : ∀ op, backI is at_ op ((at_ : Int) + 1) = false := fun op => by
    simp only [backI]
    rw [show decide ((at_ : Int) + 1 ≤ at_) = false from decide_eq_false (by omega)]; simp
  have hin1 : inR ((at_ : Int) + 1) 0 ((is.length : Int) - 1) = !decide ((is.length : Int) ≤ (at_ : Int) + 1) := by
    rw [inR_cut, show decide (0 ≤ (at_ : Int) + 1) = true from decide_eq_true (by omega)]; rfl
  have hl2 : ∀ l ∈ i.labs, inR l 0 ((is.length : Int) - 1) = true ∧ decide ((is.length : Int) ≤ l) = false := fun l hl => by
    have := List.all_eq_true.1 hlab l hl
    refine ⟨this, ?_⟩
    simp only [inR, decide_eq_true_eq] at this
    exact decide_eq_false (by omega)
  rcases op_ways i.op with h' | h' | h' | h' | h' | h' | h' | h' | h' | h' | h' | h' | h' | h' | h' | h'
  all_goals
    simp only [TInstr.labs, TInstr.eff, h'] at hl2 _ht h
    simp [TInstr.nexts, TInstr.labs, TInstr.eff, h', okP, badS, hb1, hin1]
    try simp at hl2 _ht h
  all_goals first
    | (intros; omega)
    | grind

theorem step_eq (is : List TInstr) (i : TInstr) (at_ : Nat) (ds : List Int) (hI : InvD ds) (hp : preOkI is.length i = true) (hg : 0 ≤ gd ds at_) : stepI is i at_ ds = stepS is i at_ ds := by
  have hr := hI.gd at_
  unfold stepI stepS
  by_cases ht : gd ds at_ < i.eff.1
  · rw [if_pos ht, if_pos (by omega)]
  rw [if_neg ht]
  simp only [preOkI, Bool.and_eq_true] at hp
  obtain ⟨⟨hop, hsel⟩, hlab⟩ := hp
  have hsel' : i.op = 14 → 0 ≤ i.eff.1 := fun h => by
    simp [h] at hsel
    simp [TInstr.eff, h]; exact hsel
  rw [pushI_eq]
  by_cases h250 : 250 < gd ds at_ - i.eff.1 + i.eff.2
  · rw [if_pos (Or.inr h250)]
    obtain ⟨x, hx, hx2⟩ := nexts_le i at_ _ hg hr.2 h250 fun _ => trivial
    have hno : (i.nexts at_ (gd ds at_)).all (okP is.length) = false := by
      rw [List.all_eq_false]
      exact ⟨x, hx, by simp [okP]; intro _; omega⟩
    rw [hno]; simp
  · rw [if_neg (c := gd ds at_ - i.eff.1 < 0 ∨ 250 < gd ds at_ - i.eff.1 + i.eff.2) (by omega), pushS_eq _ _ _ _ _ hI (nexts_range i at_ _ hg hr.2 ht h250 hsel')]
    have key := nexts_key is i at_ _ hg hr.2 ht h250 hlab
    by_cases hA : i.labs.any (backI is at_ i.op) = true
    · rw [hA] at key
      rw [if_pos hA, ← key]; rfl
    · rw [if_neg hA]
      rw [Bool.not_eq_true] at hA
      rw [hA] at key
      rw [← key]; rfl

end Go.Proofs.YthpdkhejeookhaaGreatDoor
/- The whole way of the depths as a plain function: the program's steps and the reference's, one behind the other, and that both come to one result. No program here. -/
namespace Go.Proofs.YthpdkhejeookhaaGreatDoor
open Go Go.RowKit

/-- What holds between two steps: the depths known so far, what is still to do, and how many steps at most are still to come. -/
structure DSt (n : Nat) (ds : List Int) (q : List Nat) (k : Nat) : Prop where
  len : ds.length = n
  inv : InvD ds
  ok : ∀ p ∈ q, p < n ∧ 0 ≤ gd ds p
  mu : q.length + ds.countP (· < 0) ≤ k
theorem gd_set {ds : List Int} {p : Int} (hp : p.toNat < ds.length) (d : Int) (x : Nat) : gd (ds.set p.toNat d) (x : Int) = if p.toNat = x then d else gd ds x := by
  unfold gd
  simp only [Int.toNat_natCast, List.getD_eq_getElem?_getD, List.getElem?_set]
  split
  · rename_i h; subst h; simp
  · rfl
theorem gd_get {ds : List Int} {p : Nat} (hp : p < ds.length) : gd ds (p : Int) = ds[p] := by
  unfold gd; simp [hp]
theorem DSt.push {n : Nat} {ds : List Int} {q : List Nat} {k : Nat} (h : DSt n ds q k) {p d : Int} (hp : inR p 0 ((n : Int) - 1) = true) (h0 : 0 ≤ d) (h1 : d ≤ 250) (hg : gd ds p < 0) : DSt n (ds.set p.toNat d) (q ++ [p.toNat]) k := by
  simp only [inR, decide_eq_true_eq] at hp
  have hl := h.len
  have hpl : p.toNat < ds.length := by omega
  refine ⟨by simp [hl], h.inv.set (by omega) h1 _, fun x hx => ?_, ?_⟩
  · rw [gd_set hpl]
    rcases List.mem_append.1 hx with hx | hx
    · refine ⟨(h.ok x hx).1, ?_⟩
      split
      · exact h0
      · exact (h.ok x hx).2
    · simp at hx; subst hx
      exact ⟨by omega, by rw [if_pos rfl]; exact h0⟩
  · have hn : ds[p.toNat] < 0 := by
      have := gd_get hpl
      have hpp : ((p.toNat : Nat) : Int) = p := by omega
      rw [hpp] at this; omega
    have hc := List.countP_set (p := fun x : Int => decide (x < 0)) (l := ds) (a := d) hpl
    have hpos : 0 < ds.countP (fun x : Int => decide (x < 0)) := List.countP_pos_iff.2 ⟨_, List.getElem_mem hpl, by simpa using hn⟩
    have hm := h.mu
    simp only [hn, decide_true, if_true, show decide (d < 0) = false from decide_eq_false (by omega), Bool.false_eq_true, if_false] at hc
    rw [List.length_append, List.length_singleton, hc]
    omega
theorem DSt.pop {n : Nat} {ds : List Int} {p : Nat} {q : List Nat} {k : Nat} (h : DSt n ds (p :: q) k) : ∃ j, k = j + 1 ∧ DSt n ds q j ∧ p < n ∧ 0 ≤ gd ds p := by
  have hm := h.mu
  rw [List.length_cons] at hm
  exact ⟨k - 1, by omega, ⟨h.len, h.inv, fun x hx => h.ok x (by simp [hx]), by omega⟩, h.ok p (by simp)⟩

/-- The way from a state on, of at most so many steps. -/
def flow (is : List TInstr) (step : TInstr → Nat → List Int → Option Dst) : Nat → List Int → List Nat → Option (List Int)
  | _, ds, [] => some ds
  | 0, _, _ :: _ => none
  | f + 1, ds, p :: q => match is[p]? with
    | none => none
    | some i => match step i p ds with
      | none => none
      | some (ds', new) => flow is step f ds' (q ++ new)
theorem flow_cons (is : List TInstr) (step : TInstr → Nat → List Int → Option Dst) (f : Nat) (ds : List Int) {p : Nat} (q : List Nat) (hp : p < is.length) : flow is step (f + 1) ds (p :: q) = match step is[p] p ds with
      | none => none
      | some (ds', new) => flow is step f ds' (q ++ new) := by
  simp only [flow, List.getElem?_eq_getElem hp]

theorem nexts_nonneg (i : TInstr) (at_ : Nat) (g : Int) (h0 : 0 ≤ g) (ht : ¬ g < i.eff.1) (_hsel : i.op = 14 → 0 ≤ i.eff.1) : ∀ x ∈ i.nexts at_ g, 0 ≤ x.2 := by
  have he := eff_range i
  intro x hx
  rcases op_ways i.op with h' | h' | h' | h' | h' | h' | h' | h' | h' | h' | h' | h' | h' | h' | h' | h'
  all_goals first
      | (simp [TInstr.nexts, h'] at hx; done)
      | skip
  all_goals
    simp [TInstr.nexts, h'] at hx
    try simp [TInstr.eff, h'] at ht he _hsel hx
    first
      | (subst hx; simp; omega)
      | (rcases hx with rfl | rfl <;> simp <;> omega)
      | (rcases hx with rfl | rfl | rfl <;> simp <;> omega)

/-- What a push leaves of a state. -/
theorem pushI_st {n k : Nat} : ∀ (l : List (Int × Int)) (ds : List Int) (q0 new : List Nat) (s : Dst), (∀ x ∈ l, 0 ≤ x.2) → DSt n ds (q0 ++ new) k → pushI n l (ds, new) = some s → DSt n s.1 (q0 ++ s.2) k
  | [], ds, q0, new, s, _, h, e => by simp only [pushI, Option.some.injEq] at e; subst e; exact h
  | (p, d) :: r, ds, q0, new, s, hl, h, e => by
    have h0 := hl (p, d) (by simp)
    have hr : ∀ x ∈ r, 0 ≤ x.2 := fun x hx => hl x (by simp [hx])
    simp only [pushI] at e
    by_cases hb : badI n ds p d = true
    · rw [if_pos hb] at e; cases e
    · rw [if_neg hb] at e
      simp only [badI, Bool.or_eq_true, not_or, Bool.not_eq_true, Bool.not_eq_false', decide_eq_false_iff_not] at hb
      by_cases hg : gd ds p < 0
      · rw [if_pos hg] at e
        exact pushI_st r _ q0 _ s hr (by rw [← List.append_assoc]; exact h.push hb.1.1 h0 (by omega) hg) e
      · rw [if_neg hg] at e
        exact pushI_st r _ q0 _ s hr h e

theorem flow_eq (is : List TInstr) (hp : preOk is = true) : ∀ (f : Nat) (ds : List Int) (q : List Nat), DSt is.length ds q f → flow is (stepI is) f ds q = flow is (stepS is) f ds q
  | _, _, [], _ => by simp [flow]
  | 0, _, _ :: _, _ => by simp [flow]
  | f + 1, ds, p :: q, h => by
    obtain ⟨j, hj, hst, hpl, hg⟩ := h.pop
    obtain rfl : f = j := by omega
    rw [flow_cons _ _ _ _ _ hpl, flow_cons _ _ _ _ _ hpl]
    have hpi : preOkI is.length is[p] = true := List.all_eq_true.1 hp _ (List.getElem_mem _)
    have hse := step_eq is is[p] p ds h.inv hpi hg
    rw [← hse]
    cases hs : stepI is is[p] p ds with
    | none => rfl
    | some s =>
      have hsel : is[p].op = 14 → 0 ≤ is[p].eff.1 := fun h14 => by
        simp only [preOkI, Bool.and_eq_true] at hpi
        have := hpi.1.2
        simp [h14] at this
        simp [TInstr.eff, h14]; exact this
      unfold stepI at hs
      by_cases ht : gd ds p < is[p].eff.1
      · rw [if_pos ht] at hs; cases hs
      · rw [if_neg ht] at hs
        by_cases hA : (is[p].labs.any (backI is p is[p].op)) = true
        · rw [if_pos hA] at hs; cases hs
        · rw [if_neg hA] at hs
          have hst' := pushI_st _ ds q [] s (nexts_nonneg _ p _ hg ht hsel) (by rw [List.append_nil]; exact hst) hs
          exact flow_eq is hp f s.1 (q ++ s.2) hst'

/-- The depths of the stack before each instruction, where the code is right. -/
def depthsL (is : List TInstr) : Option (List Int) :=
  if is.length = 0 then none else if preOk is then flow is (stepI is) is.length (0 :: List.replicate (is.length - 1) (-1)) [0] else none
theorem start_st {n : Nat} (hn : 1 ≤ n) : DSt n (0 :: List.replicate (n - 1) (-1)) [0] n := by
  refine ⟨by simp; omega, fun x hx => ?_, fun p hp => ?_, ?_⟩
  · rcases List.mem_cons.1 hx with rfl | hx
    · omega
    · rw [List.eq_of_mem_replicate hx]; omega
  · simp at hp; subst hp; exact ⟨by omega, by simp [gd]⟩
  · simp [List.countP_replicate]; omega
end Go.Proofs.YthpdkhejeookhaaGreatDoor
/- StackDepths by the engine: what an instruction takes and leaves. -/
namespace Go.Proofs.YthpdkhejeookhaaGreatDoor
set_option maxRecDepth 20000
open Go Go.RowKit
theorem ct_str_int {P : Program} {G : World → Prop} {f : FuncId} {s : ByteArray} {n : Int} (h : ∀ w, G w → Calls P f #[.string s] w fun e w' => e = .returned (.int .i64 n) ∧ Below w.heap.size w w') : Ct P G f [.str s] (fun _ => .int .i64 n) := fun w vs _ hG hs hr => by
  obtain ⟨v, rfl, h1⟩ := reps1 hs hr
  rw [h1.str_inv]
  refine (h w hG).mono ?_
  rintro e w' ⟨rfl, hb⟩
  exact ⟨_, rfl, hb, fun _ _ => .int _ _⟩
def TInstr.tv (x : TInstr) : List TV := [.int .i64 x.op, .int .i64 x.a, .int .i64 x.b, .str x.text]
set_option maxRecDepth 4000 in
set_option maxHeartbeats 2000000 in
theorem l16Effect_ct {G : World → Prop} (hst : Stable G) (hca : ∀ s : ByteArray, s.size ≤ 1048576 → Ct Tryz.prog G 183 [.str s] (fun _ => .int .i64 (nArgsL s.data.toList))) (op a b : Int) (t : ByteArray) (hs : t.size ≤ 1048576) (hop : inR op 1 26 = true) : Ct Tryz.prog G 197 [.agg [.int .i64 op, .int .i64 a, .int .i64 b, .str t]] (fun _ => .tup [.int .i64 (TInstr.eff ⟨op, a, b, t⟩).1, .int .i64 (TInstr.eff ⟨op, a, b, t⟩).2]) := by
  refine ct_enter Tryz.func197 rfl Tryz.ntmps197 rfl rfl fun w0 _ hG => ?_
  have h1 := nArgs_ge t.data.toList
  have h2 := nArgs_le t.data.toList
  simp only [inR, decide_eq_true_eq] at hop
  repeat' (first | ((with_reducible apply o_y); exact y_; rfl) | refine e_box ?_ | refine e_call hG hst (hca _ hs) ?_ | with_reducible refine al_none rfl ?_ | (with_reducible first | apply aw_seq | apply aw_region | apply al_nil | apply aq_then | apply aw_block | apply aw_skip | apply aw_ret | apply aq_then_ret | apply aq_block_ret | apply aq_block) | (refine aw_cond_dt rfl rr_ dd_ ?_) | (refine aw_cond rfl rr_ (fun hc => ?_) (fun hc => ?_)))
  all_goals
    clear hst
    have he : TInstr.eff ⟨op, a, b, t⟩ = TInstr.eff ⟨op, a, b, t⟩ := rfl
    conv at he => rhs; unfold TInstr.eff
    dsimp only at he
    rw [he]
    refine aq_ret2 x_ rfl (.tmp _ _ rfl) (.tmp _ _ rfl) (fun _ => ?_) (fun _ => ?_)
    all_goals
      refine fin_int ?_
      first
        | (subst hc; simp; done)
        | (have h3 : op = 20 ∨ op = 23 := by omega
           rcases h3 with rfl | rfl <;> simp; done)
end Go.Proofs.YthpdkhejeookhaaGreatDoor
/- The contracts of the laws' own helpers on []int: copy, compare, mark, look at the marks. -/
namespace Go.Proofs.YthpdkhejeookhaaGreatDoor
open Go Go.RowKit

theorem Tryz.infoInt : (Tryz.prog.info? 3).map (fun i => (i.zero, i.size, i.bytes)) = some (some (.int .i64 0), 1, 8) := by kernel_rfl

def ints (zs : List Int) : List PT := zs.map (PT.int .i64)
/-- The marks k, k + 1, .., n of them. -/
def marks (k n : Nat) : List Int := (List.range n).map fun i => ((k + i : Nat) : Int)
end Go.Proofs.YthpdkhejeookhaaGreatDoor
/- What the reference's way of the depths keeps of memory: plain lemmas, no walk. -/
namespace Go.Proofs.YthpdkhejeookhaaGreatDoor
open Go Go.RowKit

/-- The depths' block. -/
def dArr (ds : List Int) : Array Value := (ds.map (Value.int .i64)).toArray
theorem dArr_set (ds : List Int) (p : Nat) (d : Int) : (dArr ds).setIfInBounds p (.int .i64 d) = dArr (ds.set p d) := by
  unfold dArr
  rw [List.setIfInBounds_toArray, List.map_set]
def nts (q : List Nat) : List Int := q.map Int.ofNat
theorem nts_append (a b : List Nat) : nts (a ++ b) = nts a ++ nts b := by simp [nts]
/-- A filled block is known whole. -/
theorem Fill.blk {w : World} {g : Nat} {e : TypeId} {xs : List Value} (h : Fill w g e xs.length xs) : Blk w g e xs.toArray := by
  obtain ⟨cur, h1, h2, _, h4⟩ := h
  have : cur = xs.toArray := by
    rw [List.take_of_length_le (by simp [h2])] at h4
    rw [← h4]
  rw [← this]; exact h1
def instrC (x : TInstr) : Array Value := #[.int .i64 x.op, .int .i64 x.a, .int .i64 x.b, .string x.text]
/-- The world between two rounds of the inner loop. -/
structure DepIn (w wi : World) (g B B2 gb : Nat) (x : TInstr) (L : List (Int × Int)) (A13 : Option Addr) (c13 : Nat) (A14 : Option Addr) (c14 : Nat) (r14 : List Int) (ds : List Int) (tl : List Nat) (A : Option Addr) (c : Nat) : Prop where
  own : Owned wi (fun b => g < b ∧ (b < B ∨ B2 ≤ b)) (.sl A c 1 (ints (nts tl)))
  dep : Blk wi g 3 (dArr ds)
  s13 : Seen wi (Rng B B2) (.sl A13 c13 1 (ints (L.map Prod.fst)))
  s14 : Seen wi (Rng B B2) (.sl A14 c14 1 (ints (L.map Prod.snd ++ r14)))
  box : Blk wi gb 116 (instrC x)
  old : Below w.heap.size w wi
  sz : B2 ≤ wi.heap.size
  hg : g < B
  hg0 : w.heap.size ≤ g
  hB : B ≤ B2
  hgb : B ≤ gb
  hgb2 : gb < B2
section
variable {w wi : World} {g B B2 gb : Nat} {x : TInstr} {L : List (Int × Int)} {A13 : Option Addr} {c13 : Nat} {A14 : Option Addr} {c14 : Nat} {r14 : List Int} {ds : List Int} {tl : List Nat} {A : Option Addr} {c : Nat}
theorem DepIn.set (h : DepIn w wi g B B2 gb x L A13 c13 A14 c14 r14 ds tl A c) (p : Nat) (d : Int) : DepIn w (wi.setCell ⟨g, p, none⟩ (.int .i64 d)) g B B2 gb x L A13 c13 A14 c14 r14 (ds.set p d) tl A c :=
  ⟨h.own.far (p := ⟨g, p, none⟩) (fun hh => by have := hh.1; simp at this) _, by rw [← dArr_set]; exact h.dep.set_ p _,
   h.s13.keep (fun b hb => Below.heap_setCell _ _ _ _ (by have := hb.1; have := h.hg; simp only; omega)) (fun _ hb _ => hb),
   h.s14.keep (fun b hb => Below.heap_setCell _ _ _ _ (by have := hb.1; have := h.hg; simp only; omega)) (fun _ hb _ => hb),
   h.box.far (p := ⟨g, p, none⟩) (by have := h.hg; have := h.hgb; simp only; omega) _, h.old.setCell h.hg0 _, by have := h.sz; simpa [World.setCell] using this, h.hg, h.hg0, h.hB, h.hgb, h.hgb2⟩
theorem DepIn.drewN (h : DepIn w wi g B B2 gb x L A13 c13 A14 c14 r14 ds tl A c) (n : Nat) : DepIn w (wi.drewN n) g B B2 gb x L A13 c13 A14 c14 r14 ds tl A c :=
  ⟨h.own.keep fun _ _ _ => rfl, h.dep, h.s13.keep (fun _ _ => rfl) fun _ hb _ => hb, h.s14.keep (fun _ _ => rfl) fun _ hb _ => hb, h.box, below_drewN h.old n, h.sz, h.hg, h.hg0, h.hB, h.hgb, h.hgb2⟩
theorem DepIn.push (h : DepIn w wi g B B2 gb x L A13 c13 A14 c14 r14 ds tl A c) {w2 : World} {A' : Option Addr} {c' p : Nat} (ho : Owned w2 (fun b => g < b ∧ (b < B ∨ B2 ≤ b)) (.sl A' c' 1 (ints (nts tl ++ [(p : Int)])))) (ht : Touch (· ∈ PT.rowOf A) wi w2) : DepIn w w2 g B B2 gb x L A13 c13 A14 c14 r14 ds (tl ++ [p]) A' c' := by
  have hA : ∀ b, b ∈ PT.rowOf A → g < b ∧ (b < B ∨ B2 ≤ b) := fun b hb => h.own.2.2 b (by simp [PT.blocks, hb])
  refine ⟨by rw [nts_append]; exact ho, h.dep.touch ht fun hb => by have := (hA g hb).1; omega, h.s13.touch ht fun b hb _ hm => ?_, h.s14.touch ht fun b hb _ hm => ?_, h.box.touch ht fun hb => ?_, h.old.trans (ht.below h.old.size fun b hb => by have := (hA b hb).1; have := h.hg0; omega), Nat.le_trans h.sz ht.size, h.hg, h.hg0, h.hB, h.hgb, h.hgb2⟩
  · have h1 := hA b hm; have h2 := hb.1; have h3 := hb.2; omega
  · have h1 := hA b hm; have h2 := hb.1; have h3 := hb.2; omega
  · have h1 := hA gb hb; have h2 := h.hgb; have h3 := h.hgb2; omega
end

/-- The world between two rounds of the outer loop. -/
structure DepOut (w wx : World) (g : Nat) (ds : List Int) (tl : List Nat) (A : Option Addr) (c : Nat) : Prop where
  own : Owned wx (g < ·) (.sl A c 1 (ints (nts tl)))
  dep : Blk wx g 3 (dArr ds)
  old : Below w.heap.size w wx
  hg0 : w.heap.size ≤ g
theorem DepOut.below {w wx w' : World} {g : Nat} {ds : List Int} {tl : List Nat} {A : Option Addr} {c : Nat} (h : DepOut w wx g ds tl A c) (hb : Below wx.heap.size wx w') : DepOut w w' g ds tl A c :=
  ⟨h.own.below hb, h.dep.below hb h.dep.lt, h.old.trans (hb.mono h.old.size), h.hg0⟩
theorem DepIn.out {w wi : World} {g B B2 gb : Nat} {x : TInstr} {L : List (Int × Int)} {A13 : Option Addr} {c13 : Nat} {A14 : Option Addr} {c14 : Nat} {r14 : List Int} {ds : List Int} {tl : List Nat} {A : Option Addr} {c : Nat} (h : DepIn w wi g B B2 gb x L A13 c13 A14 c14 r14 ds tl A c) : DepOut w wi g ds tl A c :=
  ⟨h.own.mono fun _b hb _ => hb.1, h.dep, h.old, h.hg0⟩
theorem stepS_st {is : List TInstr} {i : TInstr} {at_ : Nat} {ds ds' : List Int} {new q : List Nat} {k : Nat} (hpi : preOkI is.length i = true) (hD : DSt is.length ds q k) (hg : 0 ≤ gd ds at_) (h : stepS is i at_ ds = some (ds', new)) : DSt is.length ds' (q ++ new) k := by
  rw [← step_eq is i at_ ds hD.inv hpi hg] at h
  have hsel : i.op = 14 → 0 ≤ i.eff.1 := fun h14 => by
    simp only [preOkI, Bool.and_eq_true] at hpi
    have := hpi.1.2
    simp [h14] at this
    simp [TInstr.eff, h14]; exact this
  unfold stepI at h
  by_cases ht : gd ds at_ < i.eff.1
  · rw [if_pos ht] at h; cases h
  · rw [if_neg ht] at h
    by_cases hA : (i.labs.any (backI is at_ i.op)) = true
    · rw [if_pos hA] at h; cases h
    · rw [if_neg hA] at h
      exact pushI_st _ ds q [] _ (nexts_nonneg _ at_ _ hg ht hsel) (by rw [List.append_nil]; exact hD) h

theorem pushS_cons (is : List TInstr) (at_ op p d : Int) (r : List (Int × Int)) (ds : List Int) (q : List Nat) : pushS is at_ op ((p, d) :: r) (ds, q) = if badS is at_ op p then none else if gd ds p = -1 then pushS is at_ op r (ds.set p.toNat d, q ++ [p.toNat]) else if gd ds p = d then pushS is at_ op r (ds, q) else none := rfl

/-- What the reference finds. -/
def depthsS (is : List TInstr) : Option (List Int) := if is.length = 0 then none else flow is (stepS is) is.length (0 :: List.replicate (is.length - 1) (-1)) [0]
theorem depthsL_eq (is : List TInstr) (hp : preOk is = true) : depthsL is = depthsS is := by
  unfold depthsL depthsS
  rw [if_pos hp]
  split
  · rfl
  · rename_i h
    exact flow_eq is hp _ _ _ (start_st (by omega))
/-- Where an instruction goes on is no negative place, where its labels are right. -/
theorem nexts_fst {n : Nat} (i : TInstr) (at_ : Nat) (d : Int) (h : preOkI n i = true) : ∀ x ∈ i.nexts at_ d, 0 ≤ x.1 := by
  simp only [preOkI, Bool.and_eq_true] at h
  have hl := h.2
  simp only [List.all_eq_true, inR, decide_eq_true_eq] at hl
  intro x hx
  rcases op_ways i.op with h' | h' | h' | h' | h' | h' | h' | h' | h' | h' | h' | h' | h' | h' | h' | h'
  all_goals
    simp only [TInstr.labs, h'] at hl
    simp [TInstr.nexts, h'] at hx
    try simp at hl
    try first
      | (subst hx; simp; omega)
      | (rcases hx with rfl | rfl <;> simp <;> omega)
      | (rcases hx with rfl | rfl | rfl <;> simp <;> omega)
theorem nexts_len (i : TInstr) (a d : Int) : (i.nexts a d).length ≤ 3 := by
  unfold TInstr.nexts
  repeat' split
  all_goals simp
end Go.Proofs.YthpdkhejeookhaaGreatDoor
