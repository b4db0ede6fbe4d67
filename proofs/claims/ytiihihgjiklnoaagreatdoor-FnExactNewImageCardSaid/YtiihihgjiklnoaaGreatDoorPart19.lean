/- Part 19 of the proof: the texts LwT. -/
import Derived.Test.YtiihihgjiklnoaaGreatDoorPart17
import Derived.Test.YtiihihgjiklnoaaGreatDoorPart18
import Derived.Test.YtiihihgjiklnoaaGreatDoorPart15
import Derived.Test.YtiihihgjiklnoaaGreatDoorPart2
/- The laws' own helpers sz, to, eq, walked (frozen copies). Written by gen_lw.py. -/
namespace Go.Proofs.YtiihihgjiklnoaaGreatDoor
set_option maxRecDepth 20000
open Go Go.RowKit
theorem take_all {α : Type} {p : α → Prop} {l : List α} {i : Nat} (h : i < l.length) (ha : ∀ y ∈ l.take i, p y) (hx : p l[i]) : ∀ y ∈ l.take (i + 1), p y := fun y hy => by
  rw [List.take_add_one, List.getElem?_eq_getElem h] at hy
  rcases List.mem_append.1 hy with hy | hy
  · exact ha y hy
  · simp at hy; subst hy; exact hx
/-- A copy under way. -/
def copyR {α : Type} (tw : α → List TV) (z : List TV) (l : List α) (i : Nat) : List (List TV) := (l.take i).map tw ++ List.replicate (l.length - i) z
theorem copyR_zero {α : Type} (tw : α → List TV) (z : List TV) (l : List α) : List.replicate l.length z = copyR tw z l 0 := by simp [copyR]
theorem copyR_full {α : Type} (tw : α → List TV) (z : List TV) (l : List α) : copyR tw z l l.length = l.map tw := by simp [copyR]
theorem copyR_set {α : Type} (tw : α → List TV) (z : List TV) {l : List α} {i : Nat} (h : i < l.length) : (copyR tw z l i)[i]? = some z ∧ (copyR tw z l i).set i (tw l[i]) = copyR tw z l (i + 1) := by
  have e : l.length - i = (l.length - (i + 1)) + 1 := by omega
  have hl : ((l.take i).map tw).length = i := by simp; omega
  unfold copyR
  refine ⟨?_, ?_⟩
  · rw [List.getElem?_append_right (by omega), hl, Nat.sub_self, e, List.replicate_succ]; rfl
  · rw [List.set_append_right _ _ (by omega), hl, Nat.sub_self, e, List.replicate_succ, List.set_cons_zero, show l.take (i + 1) = l.take i ++ [l[i]] from by rw [List.take_add_one, List.getElem?_eq_getElem h]; rfl, List.map_append, List.append_assoc]
    rfl
/-- Cells that end as others, one by one. -/
def FinL (B : Nat) (objs : Objs) (K : Nat) (l l' : List TV) : Prop := l'.length = l.length ∧ ∀ (j : Nat) (t t' : TV), l[j]? = some t → l'[j]? = some t' → Fin B objs K t t'
theorem FinL.nil {B : Nat} {objs : Objs} {K : Nat} : FinL B objs K [] [] := ⟨rfl, by simp⟩
theorem FinL.cons {B : Nat} {objs : Objs} {K : Nat} {t t' : TV} {l l' : List TV} (h : Fin B objs K t t') (hr : FinL B objs K l l') : FinL B objs K (t :: l) (t' :: l') := ⟨by simp [hr.1], fun j u u' h1 h2 => by
  cases j with
  | zero => simp at h1 h2; subst h1; subst h2; exact h
  | succ j => exact hr.2 j u u' (by simpa using h1) (by simpa using h2)⟩
theorem FinL.append {B : Nat} {objs : Objs} {K : Nat} {a a' b b' : List TV} (h : FinL B objs K a a') (k : FinL B objs K b b') : FinL B objs K (a ++ b) (a' ++ b') := ⟨by simp [h.1, k.1], fun j u u' h1 h2 => by
  by_cases hj : j < a.length
  · rw [List.getElem?_append_left hj] at h1
    rw [List.getElem?_append_left (by rw [h.1]; exact hj)] at h2
    exact h.2 j u u' h1 h2
  · rw [List.getElem?_append_right (by omega)] at h1
    rw [List.getElem?_append_right (by rw [h.1]; omega)] at h2
    rw [h.1] at h2
    exact k.2 _ u u' h1 h2⟩
theorem FinL.rows {α : Type} {B : Nat} {objs : Objs} {K : Nat} {f f' : α → List TV} (h : ∀ x, FinL B objs K (f x) (f' x)) : ∀ l : List α, FinL B objs K (l.map f).flatten (l.map f').flatten
  | [] => .nil
  | x :: r => by simpa using (h x).append (FinL.rows h r)
theorem FinL.lens {α : Type} {f f' : α → List TV} (h : ∀ x, (f' x).length = (f x).length) (l : List α) : (l.map f').map List.length = (l.map f).map List.length := by
  induction l with
  | nil => rfl
  | cons x r ih => simpa [h x] using ih
/-- A frozen slice ends as a frozen slice. -/
theorem fin_sl {α : Type} {B : Nat} {objs : Objs} {K m : Nat} {f f' : α → List TV} (h : ∀ x, FinL B objs K (f x) (f' x)) (l : List α) : Fin B objs K (.sl B m (l.map f)) (.sl K m (l.map f')) :=
  .sl B m _ _ (Nat.le_refl _) (FinL.lens (fun x => (h x).1) l) (FinL.rows h l).2
theorem fin_ms {α : Type} {B : Nat} {objs : Objs} {K s b m : Nat} {f f' : α → List TV} (h : ∀ x, FinL B objs K (f x) (f' x)) {l : List α} (hm : (s, b, TObj.row m (l.map f)) ∈ objs) : Fin B objs K (.ms s b 0 l.length) (.sl K m (l.map f')) :=
  .ms s b 0 l.length m _ (l.map f) _ hm (by simp) (by rw [List.drop_zero, List.take_of_length_le (by simp)]) (FinL.lens (fun x => (h x).1) l) (FinL.rows h l).2
theorem fin_agg {B : Nat} {objs : Objs} {K : Nat} {l l' : List TV} (h : FinL B objs K l l') : Fin B objs K (.agg l) (.agg l') := .agg l l' h.1 h.2
theorem strR_row {l : List ByteArray} {i : Nat} (h : i < l.length) : (strR l)[i]? = some [.str l[i]] := row_map h
theorem strR_len (l : List ByteArray) : (strR l).length = l.length := by simp [strR]
section
variable {G : World → Prop}
theorem szStringS_ct (lo : Nat) (l : List ByteArray) (left : Int) (h : 0 ≤ left ∧ left ≤ 1048576) (hb : l.length ≤ 9223372036854775807 ∧ ∀ y ∈ l, ByteArray.size y ≤ 9223372036854775807) : CtM Tryz.prog G 158 [.sl lo 1 (strR l), .int .i64 left] [] (fun y : Int => -1 ≤ y ∧ y ≤ left ∧ (0 ≤ y → l.length ≤ 1048576 ∧ ∀ y ∈ l, ByteArray.size y ≤ 1048576)) (fun _ => []) (fun y => .int .i64 y) := by
  refine ctm_enter Tryz.func158 rfl Tryz.ntmps158 rfl rfl rfl fun w0 R gs objsR hG hR => ?_
  obtain rfl := hR.inv0
  clear hR
  have hlen := strR_len l
  have hl1 := hb.1
  by_cases hn : left - l.length < 0
  · repeat' (first | refine W_ ?_ | refine c_ (fun hc => ?_) (fun hc => ?_) | refine g_ (fun hg => ?_) (fun hg => ?_))
    exact aq_retm1 x_ rfl (-1) ⟨by omega, by omega, fun h => by omega⟩ rfl (.nil R) (.refl _) (.tmp _ _ rfl) rfl
  · repeat' (first | refine W_ ?_ | refine c_ (fun hc => ?_) (fun hc => ?_) | refine g_ (fun hg => ?_) (fun hg => ?_))
    apply aw_loopk (X := Nat × Int) [0, 1000000] (fun x => [(5, .int .i64 (x.1 : Int)), (1, .int .i64 x.2)]) (fun _ => R) (fun x => x.1 ≤ l.length ∧ 0 ≤ x.2 ∧ x.2 ≤ left ∧ ∀ y ∈ l.take x.1, ByteArray.size y ≤ 1048576) (fun x => l.length - x.1) (0, left - l.length) ⟨Nat.zero_le _, by dsimp only; omega, by dsimp only; omega, by simp⟩
    exact kp_; exact nw_
    · exact .refl _
    rintro ⟨i, lf⟩ ⟨hi, h0, h1, hs⟩
    dsimp only at hi h0 h1 hs ⊢
    by_cases hlt : i < l.length
    · have hrow := strR_row hlt
      have hbi := hb.2 _ (List.getElem_mem hlt)
      have hta := take_all (p := fun y => ByteArray.size y ≤ 1048576) hlt hs
      generalize l[i] = x at hrow hbi hta
      repeat' (first | refine W_ ?_ | refine c_ (fun hc => ?_) (fun hc => ?_) | refine g_ (fun hg => ?_) (fun hg => ?_))
      all_goals first
        | exact aq_retm1 x_ rfl (-1) ⟨by omega, by omega, fun h => by omega⟩ rfl (.nil R) (.refl _) (.tmp _ _ rfl) rfl
        | exact aq_round (i + 1, lf - x.size) ⟨by dsimp only; omega, by dsimp only; omega, by dsimp only; omega, hta (by omega)⟩ (by dsimp only; omega) (.of _ nw_ od_ pk_)
    · rw [List.take_of_length_le (by omega)] at hs
      repeat' (first | refine W_ ?_ | refine c_ (fun hc => ?_) (fun hc => ?_) | refine g_ (fun hg => ?_) (fun hg => ?_))
      exact aq_retm1 x_ rfl lf ⟨by omega, by omega, fun _ => ⟨by omega, hs⟩⟩ rfl (.nil R) (.refl _) (.tmp _ _ rfl) rfl
theorem toStringS_ct (_hst : Stable G) (lo : Nat) (l : List ByteArray) (hn : l.length ≤ 1048576) : Ct Tryz.prog G 174 [.sl lo 1 (strR l)] (fun K => .sl K 1 (strR l)) := by
  refine ct_enter Tryz.func174 rfl Tryz.ntmps174 rfl rfl fun w0 _ hG => ?_
  have hlen := strR_len l
  have h0 := copyR_zero (fun s : ByteArray => [TV.str s]) [.str ⟨#[]⟩] l
  repeat' (first | refine W_ ?_ | (refine e_make ?_; intro ss bb) | refine c_ (fun hc => ?_) (fun hc => ?_) | refine g_ (fun hg => ?_) (fun hg => ?_))
  apply aw_loopk (X := Nat) [0, 3] (fun i => [(4, .int .i64 (i : Int))]) (fun i => [(ss, bb, .row 1 (copyR (fun s : ByteArray => [TV.str s]) [.str ⟨#[]⟩] l i))]) (fun i => i ≤ l.length) (fun i => l.length - i) 0 (Nat.zero_le _)
  exact kp_; exact nw_
  · rw [← h0]; exact .refl _
  intro i hi
  try dsimp only
  by_cases hlt : i < l.length
  · obtain ⟨hrow, hset⟩ := copyR_set (fun s : ByteArray => [TV.str s]) [.str ⟨#[]⟩] hlt
    have hra := strR_row hlt
    generalize l[i] = x at hset hra
    try dsimp only at hset
    repeat' (first | refine W_ ?_ | refine e_store ?_ | refine c_ (fun hc => ?_) (fun hc => ?_) | refine g_ (fun hg => ?_) (fun hg => ?_))
    refine aq_round (i + 1) (by omega) (by omega) (.of _ nw_ od_ (by rw [← hset]; exact .refl _))
  · obtain rfl : i = l.length := by omega
    rw [copyR_full]
    repeat' (first | refine W_ ?_ | refine c_ (fun hc => ?_) (fun hc => ?_) | refine g_ (fun hg => ?_) (fun hg => ?_))
    refine aq_ret1 x_ rfl (.tmp _ _ rfl) (fun _ => ?_)
    exact fin_ms (fun x => .cons (.flat rfl) .nil) List.mem_cons_self
theorem eqStringS_ct (l1 l2 : Nat) (l : List ByteArray) (hn : l.length ≤ 1048576) : Ct Tryz.prog G 27 [.sl l1 1 (strR l), .sl l2 1 (strR l)] (fun _ => .bool true) := by
  refine ct_enter Tryz.func27 rfl Tryz.ntmps27 rfl rfl fun w0 _ hG => ?_
  have hlen := strR_len l
  repeat' (first | refine W_ ?_ | refine c_ (fun hc => ?_) (fun hc => ?_) | refine g_ (fun hg => ?_) (fun hg => ?_))
  apply aw_loopk (X := Nat) [0, 1] (fun i => [(5, .int .i64 (i : Int))]) (fun _ => []) (fun i => i ≤ l.length) (fun i => l.length - i) 0 (Nat.zero_le _)
  exact kp_; exact nw_
  · exact .refl _
  intro i hi
  try dsimp only
  by_cases hlt : i < l.length
  · have hrow := strR_row hlt
    generalize l[i] = x at hrow
    have hx : ¬ x ≠ x := fun h => h rfl
    repeat' (first | refine V_ ?_ | refine c_ (fun hc => ?_) (fun hc => ?_) | refine g_ (fun hg => ?_) (fun hg => ?_))
    exact aq_round (i + 1) (by omega) (by omega) (.of _ nw_ od_ pk_)
  · repeat' (first | refine W_ ?_ | refine c_ (fun hc => ?_) (fun hc => ?_) | refine g_ (fun hg => ?_) (fun hg => ?_))
    exact r1_
end
def TInstr.tw (_lo : Nat) (x : TInstr) : List TV := [.int .i64 x.op, .int .i64 x.a, .int .i64 x.b, .str x.text]
def TInstr.small (n : Nat) (x : TInstr) : Prop := (x.text.size ≤ n)
def TInstr.tz : List TV := [.int .i64 0, .int .i64 0, .int .i64 0, .str ⟨#[]⟩]
theorem TInstr.fin (B K : Nat) (objs : Objs) (x : TInstr) : FinL B objs K (x.tw B) (x.tw K) := .cons (.flat rfl) (.cons (.flat rfl) (.cons (.flat rfl) (.cons (.flat rfl) (.nil))))
theorem TInstr.len (lo : Nat) (l : List TInstr) : (l.map (TInstr.tw lo)).length = l.length := by simp
section
variable {G : World → Prop}
theorem szInstr_ct (_hst : Stable G) (lo : Nat) (x : TInstr) (left : Int) (h : 0 ≤ left ∧ left ≤ 1048576) (hb : x.small 9223372036854775807) : CtM Tryz.prog G 251 [.agg (x.tw lo), .int .i64 left] [] (fun y : Int => -1 ≤ y ∧ y ≤ left ∧ (0 ≤ y → x.small 1048576)) (fun _ => []) (fun y => .int .i64 y) := by
  refine ctm_enter Tryz.func251 rfl Tryz.ntmps251 rfl rfl rfl fun w0 R gs objsR hG hR => ?_
  obtain rfl := hR.inv0
  clear hR
  unfold TInstr.small at hb
  have hb1 : x.text.size ≤ 9223372036854775807 := hb
  unfold TInstr.tw
  repeat' (first | refine W_ ?_ | refine e_box ?_ | refine c_ (fun hc => ?_) (fun hc => ?_) | refine g_ (fun hg => ?_) (fun hg => ?_))
  all_goals first
    | exact aq_retm1 x_ rfl (-1) ⟨by omega, by omega, fun h => by omega⟩ rfl (.nil R) (.refl _) (.tmp _ _ rfl) rfl
    | (refine aq_retm1 x_ rfl _ ⟨?_, ?_, fun _ => ?_⟩ rfl (.nil R) (.refl _) (.tmp _ _ rfl) rfl
       · omega
       · omega
       · show _ ≤ _; omega)
theorem szInstrS_ct (hst : Stable G) (lo : Nat) (l : List TInstr) (left : Int) (h : 0 ≤ left ∧ left ≤ 1048576) (hb : l.length ≤ 9223372036854775807 ∧ ∀ y ∈ l, TInstr.small 9223372036854775807 y) : CtM Tryz.prog G 198 [.sl lo 4 (l.map (TInstr.tw lo)), .int .i64 left] [] (fun y : Int => -1 ≤ y ∧ y ≤ left ∧ (0 ≤ y → l.length ≤ 1048576 ∧ ∀ y ∈ l, TInstr.small 1048576 y)) (fun _ => []) (fun y => .int .i64 y) := by
  refine ctm_enter Tryz.func198 rfl Tryz.ntmps198 rfl rfl rfl fun w0 R gs objsR hG hR => ?_
  obtain rfl := hR.inv0
  clear hR
  have hlen := TInstr.len lo l
  have hl1 := hb.1
  by_cases hn : left - l.length < 0
  · repeat' (first | refine W_ ?_ | refine c_ (fun hc => ?_) (fun hc => ?_) | refine g_ (fun hg => ?_) (fun hg => ?_))
    exact aq_retm1 x_ rfl (-1) ⟨by omega, by omega, fun h => by omega⟩ rfl (.nil R) (.refl _) (.tmp _ _ rfl) rfl
  · repeat' (first | refine W_ ?_ | refine c_ (fun hc => ?_) (fun hc => ?_) | refine g_ (fun hg => ?_) (fun hg => ?_))
    apply aw_loopk (X := Nat × Int) [0, 1000000] (fun x => [(5, .int .i64 (x.1 : Int)), (1, .int .i64 x.2)]) (fun _ => R) (fun x => x.1 ≤ l.length ∧ 0 ≤ x.2 ∧ x.2 ≤ left ∧ ∀ y ∈ l.take x.1, TInstr.small 1048576 y) (fun x => l.length - x.1) (0, left - l.length) ⟨Nat.zero_le _, by dsimp only; omega, by dsimp only; omega, by simp⟩
    exact kp_; exact nw_
    · exact .refl _
    rintro ⟨i, lf⟩ ⟨hi, h0, h1, hs⟩
    dsimp only at hi h0 h1 hs ⊢
    by_cases hlt : i < l.length
    · have hrow : (l.map (TInstr.tw lo))[i]? = some (l[i].tw lo) := row_map hlt
      have hbi := hb.2 _ (List.getElem_mem hlt)
      have hta := take_all (p := TInstr.small 1048576) hlt hs
      generalize l[i] = x at hrow hbi hta
      have hct := szInstr_ct hst lo x lf (by omega) hbi
      unfold TInstr.tw at hct
      rw [show x.tw lo = [.int .i64 x.op, .int .i64 x.a, .int .i64 x.b, .str x.text] from rfl] at hrow
      repeat' (first | refine W_ ?_ | ((with_reducible apply o_callM); rfl; kernel_rfl; (repeat (first | exact ArgsM.nil | ((with_reducible apply ArgsM.cons); rfl))); exact hG; exact hct; exact .nil _; intro y hy; refine al_app0 ?_) | refine c_ (fun hc => ?_) (fun hc => ?_) | refine g_ (fun hg => ?_) (fun hg => ?_))
      all_goals first
        | exact aq_retm1 x_ rfl (-1) ⟨by omega, by omega, fun h => by omega⟩ rfl (.nil R) (.refl _) (.tmp _ _ rfl) rfl
        | exact aq_round (i + 1, y) ⟨by dsimp only; omega, by dsimp only; omega, by dsimp only; omega, hta (hy.2.2 (by omega))⟩ (by dsimp only; omega) (.of _ nw_ od_ pk_)
    · rw [List.take_of_length_le (by omega)] at hs
      repeat' (first | refine W_ ?_ | refine c_ (fun hc => ?_) (fun hc => ?_) | refine g_ (fun hg => ?_) (fun hg => ?_))
      exact aq_retm1 x_ rfl lf ⟨by omega, by omega, fun _ => ⟨by omega, hs⟩⟩ rfl (.nil R) (.refl _) (.tmp _ _ rfl) rfl
theorem toInstr_ct (_hst : Stable G) (lo : Nat) (x : TInstr) (_hb : x.small 1048576) : Ct Tryz.prog G 262 [.agg (x.tw lo)] (fun K => .agg (x.tw K)) := by
  refine ct_enter Tryz.func262 rfl Tryz.ntmps262 rfl rfl fun w0 _ hG => ?_
  unfold TInstr.small at _hb
  skip
  repeat' (first | refine W_ ?_ | refine e_box ?_ | (refine e_alloc ?_; intro ss bb) | refine e_storep ?_ | refine c_ (fun hc => ?_) (fun hc => ?_) | refine g_ (fun hg => ?_) (fun hg => ?_))
  refine aq_ret1 x_ rfl (.cell _ _ _ _ _ rfl mm_ (by kernel_rfl) (by kernel_rfl) (by kernel_rfl)) (fun _ => ?_)
  exact fin_agg (TInstr.fin _ _ _ x)
theorem toInstrS_ct (hst : Stable G) (lo : Nat) (l : List TInstr) (hb : l.length ≤ 1048576 ∧ ∀ y ∈ l, TInstr.small 1048576 y) : Ct Tryz.prog G 208 [.sl lo 4 (l.map (TInstr.tw lo))] (fun K => .sl K 4 (l.map (TInstr.tw K))) := by
  refine ct_enter Tryz.func208 rfl Tryz.ntmps208 rfl rfl fun w0 _ hG => ?_
  have hlen := TInstr.len lo l
  have hl1 := hb.1
  have h0 := copyR_zero (TInstr.tw w0.heap.size) TInstr.tz l
  repeat' (first | refine W_ ?_ | (refine e_make ?_; intro ss bb) | refine c_ (fun hc => ?_) (fun hc => ?_) | refine g_ (fun hg => ?_) (fun hg => ?_))
  apply aw_loopk (X := Nat) [0, 3] (fun i => [(4, .int .i64 (i : Int))]) (fun i => [(ss, bb, .row 4 (copyR (TInstr.tw w0.heap.size) TInstr.tz l i))]) (fun i => i ≤ l.length) (fun i => l.length - i) 0 (Nat.zero_le _)
  exact kp_; exact nw_
  · rw [← h0]; exact .refl _
  intro i hi
  try dsimp only
  by_cases hlt : i < l.length
  · obtain ⟨hrow, hset⟩ := copyR_set (TInstr.tw w0.heap.size) TInstr.tz hlt
    have hra : (l.map (TInstr.tw lo))[i]? = some (l[i].tw lo) := row_map hlt
    have hbi := hb.2 _ (List.getElem_mem hlt)
    generalize l[i] = x at hset hra hbi
    have hct := toInstr_ct hst lo x hbi
    unfold TInstr.tw at hct
    rw [show x.tw lo = [.int .i64 x.op, .int .i64 x.a, .int .i64 x.b, .str x.text] from rfl] at hra
    replace hrow : (copyR (TInstr.tw w0.heap.size) TInstr.tz l i)[i]? = some [.int .i64 0, .int .i64 0, .int .i64 0, .str ⟨#[]⟩] := hrow
    repeat' (first | refine W_ ?_ | refine e_call hG hst (hct) ?_ | refine e_store ?_ | refine c_ (fun hc => ?_) (fun hc => ?_) | refine g_ (fun hg => ?_) (fun hg => ?_))
    refine aq_round (i + 1) (by omega) (by omega) (.of _ nw_ od_ (by rw [← hset]; exact .refl _))
  · obtain rfl : i = l.length := by omega
    rw [copyR_full]
    repeat' (first | refine W_ ?_ | refine c_ (fun hc => ?_) (fun hc => ?_) | refine g_ (fun hg => ?_) (fun hg => ?_))
    refine aq_ret1 x_ rfl (.tmp _ _ rfl) (fun _ => ?_)
    exact fin_ms (fun x => TInstr.fin _ _ _ x) List.mem_cons_self
theorem eqInstr_ct (_hst : Stable G) (l1 l2 : Nat) (x : TInstr) (_hb : x.small 1048576) : Ct Tryz.prog G 272 [.agg (x.tw l1), .agg (x.tw l2)] (fun _ => .bool true) := by
  refine ct_enter Tryz.func272 rfl Tryz.ntmps272 rfl rfl fun w0 _ hG => ?_
  unfold TInstr.small at _hb
  have hnetext : ¬ x.text ≠ x.text := fun h => h rfl
  unfold TInstr.tw
  repeat' (first | refine W_ ?_ | refine e_box ?_ | refine c_ (fun hc => ?_) (fun hc => ?_) | refine g_ (fun hg => ?_) (fun hg => ?_))
  all_goals first
    | (exfalso; simp at hc; done)
    | (exact r1_)
theorem eqInstrS_ct (hst : Stable G) (l1 l2 : Nat) (l : List TInstr) (hb : l.length ≤ 1048576 ∧ ∀ y ∈ l, TInstr.small 1048576 y) : Ct Tryz.prog G 225 [.sl l1 4 (l.map (TInstr.tw l1)), .sl l2 4 (l.map (TInstr.tw l2))] (fun _ => .bool true) := by
  refine ct_enter Tryz.func225 rfl Tryz.ntmps225 rfl rfl fun w0 _ hG => ?_
  have hlen := TInstr.len l1 l
  have hlen2 := TInstr.len l2 l
  have hl1 := hb.1
  repeat' (first | refine W_ ?_ | refine c_ (fun hc => ?_) (fun hc => ?_) | refine g_ (fun hg => ?_) (fun hg => ?_))
  apply aw_loopk (X := Nat) [0, 1] (fun i => [(5, .int .i64 (i : Int))]) (fun _ => []) (fun i => i ≤ l.length) (fun i => l.length - i) 0 (Nat.zero_le _)
  exact kp_; exact nw_
  · exact .refl _
  intro i hi
  try dsimp only
  by_cases hlt : i < l.length
  · have hr1 : (l.map (TInstr.tw l1))[i]? = some (l[i].tw l1) := row_map hlt
    have hr2 : (l.map (TInstr.tw l2))[i]? = some (l[i].tw l2) := row_map hlt
    have hbi := hb.2 _ (List.getElem_mem hlt)
    generalize l[i] = x at hr1 hr2 hbi
    have hct := eqInstr_ct hst l1 l2 x hbi
    unfold TInstr.tw at hct
    rw [show x.tw l1 = [.int .i64 x.op, .int .i64 x.a, .int .i64 x.b, .str x.text] from rfl] at hr1
    rw [show x.tw l2 = [.int .i64 x.op, .int .i64 x.a, .int .i64 x.b, .str x.text] from rfl] at hr2
    repeat' (first | refine V_ ?_ | refine e_calld hG hst (hct) ?_ | refine e_call hG hst (hct) ?_ | refine c_ (fun hc => ?_) (fun hc => ?_) | refine g_ (fun hg => ?_) (fun hg => ?_))
    exact aq_round (i + 1) (by omega) (by omega) (.of _ nw_ od_ pk_)
  · repeat' (first | refine W_ ?_ | refine c_ (fun hc => ?_) (fun hc => ?_) | refine g_ (fun hg => ?_) (fun hg => ?_))
    exact r1_
end
def TCode.tw (lo : Nat) (x : TCode) : List TV := [.bool x.block, .int .i64 x.params, .int .i64 x.slots, .sl lo 4 (x.instrs.map (TInstr.tw lo))]
def TCode.small (n : Nat) (x : TCode) : Prop := (x.instrs.length ≤ n ∧ ∀ y ∈ x.instrs, TInstr.small n y)
def TCode.tz : List TV := [.bool false, .int .i64 0, .int .i64 0, .nils]
theorem TCode.fin (B K : Nat) (objs : Objs) (x : TCode) : FinL B objs K (x.tw B) (x.tw K) := .cons (.flat rfl) (.cons (.flat rfl) (.cons (.flat rfl) (.cons (fin_sl (fun x => TInstr.fin B K objs x) _) (.nil))))
theorem TCode.len (lo : Nat) (l : List TCode) : (l.map (TCode.tw lo)).length = l.length := by simp
section
variable {G : World → Prop}
theorem szCode_ct (hst : Stable G) (lo : Nat) (x : TCode) (left : Int) (h : 0 ≤ left ∧ left ≤ 1048576) (hb : x.small 9223372036854775807) : CtM Tryz.prog G 123 [.agg (x.tw lo), .int .i64 left] [] (fun y : Int => -1 ≤ y ∧ y ≤ left ∧ (0 ≤ y → x.small 1048576)) (fun _ => []) (fun y => .int .i64 y) := by
  refine ctm_enter Tryz.func123 rfl Tryz.ntmps123 rfl rfl rfl fun w0 R gs objsR hG hR => ?_
  obtain rfl := hR.inv0
  clear hR
  unfold TCode.small at hb
  skip
  unfold TCode.tw
  repeat' (first | refine W_ ?_ | refine e_box ?_ | ((with_reducible apply o_callM); rfl; kernel_rfl; (repeat (first | exact ArgsM.nil | ((with_reducible apply ArgsM.cons); rfl))); exact hG; exact szInstrS_ct hst lo x.instrs _ (by omega) hb; exact .nil _; intro y1 hy1; refine al_app0 ?_) | refine c_ (fun hc => ?_) (fun hc => ?_) | refine g_ (fun hg => ?_) (fun hg => ?_))
  all_goals first
    | exact aq_retm1 x_ rfl (-1) ⟨by omega, by omega, fun h => by omega⟩ rfl (.nil R) (.refl _) (.tmp _ _ rfl) rfl
    | (refine aq_retm1 x_ rfl _ ⟨?_, ?_, fun _ => ?_⟩ rfl (.nil R) (.refl _) (.tmp _ _ rfl) rfl
       · omega
       · omega
       · exact hy1.2.2 (by omega))
theorem szCodeS_ct (hst : Stable G) (lo : Nat) (l : List TCode) (left : Int) (h : 0 ≤ left ∧ left ≤ 1048576) (hb : l.length ≤ 9223372036854775807 ∧ ∀ y ∈ l, TCode.small 9223372036854775807 y) : CtM Tryz.prog G 46 [.sl lo 4 (l.map (TCode.tw lo)), .int .i64 left] [] (fun y : Int => -1 ≤ y ∧ y ≤ left ∧ (0 ≤ y → l.length ≤ 1048576 ∧ ∀ y ∈ l, TCode.small 1048576 y)) (fun _ => []) (fun y => .int .i64 y) := by
  refine ctm_enter Tryz.func46 rfl Tryz.ntmps46 rfl rfl rfl fun w0 R gs objsR hG hR => ?_
  obtain rfl := hR.inv0
  clear hR
  have hlen := TCode.len lo l
  have hl1 := hb.1
  by_cases hn : left - l.length < 0
  · repeat' (first | refine W_ ?_ | refine c_ (fun hc => ?_) (fun hc => ?_) | refine g_ (fun hg => ?_) (fun hg => ?_))
    exact aq_retm1 x_ rfl (-1) ⟨by omega, by omega, fun h => by omega⟩ rfl (.nil R) (.refl _) (.tmp _ _ rfl) rfl
  · repeat' (first | refine W_ ?_ | refine c_ (fun hc => ?_) (fun hc => ?_) | refine g_ (fun hg => ?_) (fun hg => ?_))
    apply aw_loopk (X := Nat × Int) [0, 1000000] (fun x => [(5, .int .i64 (x.1 : Int)), (1, .int .i64 x.2)]) (fun _ => R) (fun x => x.1 ≤ l.length ∧ 0 ≤ x.2 ∧ x.2 ≤ left ∧ ∀ y ∈ l.take x.1, TCode.small 1048576 y) (fun x => l.length - x.1) (0, left - l.length) ⟨Nat.zero_le _, by dsimp only; omega, by dsimp only; omega, by simp⟩
    exact kp_; exact nw_
    · exact .refl _
    rintro ⟨i, lf⟩ ⟨hi, h0, h1, hs⟩
    dsimp only at hi h0 h1 hs ⊢
    by_cases hlt : i < l.length
    · have hrow : (l.map (TCode.tw lo))[i]? = some (l[i].tw lo) := row_map hlt
      have hbi := hb.2 _ (List.getElem_mem hlt)
      have hta := take_all (p := TCode.small 1048576) hlt hs
      generalize l[i] = x at hrow hbi hta
      have hct := szCode_ct hst lo x lf (by omega) hbi
      unfold TCode.tw at hct
      rw [show x.tw lo = [.bool x.block, .int .i64 x.params, .int .i64 x.slots, .sl lo 4 (x.instrs.map (TInstr.tw lo))] from rfl] at hrow
      repeat' (first | refine W_ ?_ | ((with_reducible apply o_callM); rfl; kernel_rfl; (repeat (first | exact ArgsM.nil | ((with_reducible apply ArgsM.cons); rfl))); exact hG; exact hct; exact .nil _; intro y hy; refine al_app0 ?_) | refine c_ (fun hc => ?_) (fun hc => ?_) | refine g_ (fun hg => ?_) (fun hg => ?_))
      all_goals first
        | exact aq_retm1 x_ rfl (-1) ⟨by omega, by omega, fun h => by omega⟩ rfl (.nil R) (.refl _) (.tmp _ _ rfl) rfl
        | exact aq_round (i + 1, y) ⟨by dsimp only; omega, by dsimp only; omega, by dsimp only; omega, hta (hy.2.2 (by omega))⟩ (by dsimp only; omega) (.of _ nw_ od_ pk_)
    · rw [List.take_of_length_le (by omega)] at hs
      repeat' (first | refine W_ ?_ | refine c_ (fun hc => ?_) (fun hc => ?_) | refine g_ (fun hg => ?_) (fun hg => ?_))
      exact aq_retm1 x_ rfl lf ⟨by omega, by omega, fun _ => ⟨by omega, hs⟩⟩ rfl (.nil R) (.refl _) (.tmp _ _ rfl) rfl
theorem toCode_ct (hst : Stable G) (lo : Nat) (x : TCode) (hb : x.small 1048576) : Ct Tryz.prog G 132 [.agg (x.tw lo)] (fun K => .agg (x.tw K)) := by
  refine ct_enter Tryz.func132 rfl Tryz.ntmps132 rfl rfl fun w0 _ hG => ?_
  unfold TCode.small at hb
  have hsinstrs := hb
  repeat' (first | refine W_ ?_ | refine e_box ?_ | (refine e_alloc ?_; intro ss bb) | refine e_storep ?_ | refine e_call hG hst (toInstrS_ct hst lo x.instrs (hsinstrs)) ?_ | refine c_ (fun hc => ?_) (fun hc => ?_) | refine g_ (fun hg => ?_) (fun hg => ?_))
  refine aq_ret1 x_ rfl (.cell _ _ _ _ _ rfl mm_ (by kernel_rfl) (by kernel_rfl) (by kernel_rfl)) (fun _ => ?_)
  exact fin_agg (TCode.fin _ _ _ x)
theorem toCodeS_ct (hst : Stable G) (lo : Nat) (l : List TCode) (hb : l.length ≤ 1048576 ∧ ∀ y ∈ l, TCode.small 1048576 y) : Ct Tryz.prog G 52 [.sl lo 4 (l.map (TCode.tw lo))] (fun K => .sl K 4 (l.map (TCode.tw K))) := by
  refine ct_enter Tryz.func52 rfl Tryz.ntmps52 rfl rfl fun w0 _ hG => ?_
  have hlen := TCode.len lo l
  have hl1 := hb.1
  have h0 := copyR_zero (TCode.tw w0.heap.size) TCode.tz l
  repeat' (first | refine W_ ?_ | (refine e_make ?_; intro ss bb) | refine c_ (fun hc => ?_) (fun hc => ?_) | refine g_ (fun hg => ?_) (fun hg => ?_))
  apply aw_loopk (X := Nat) [0, 3] (fun i => [(4, .int .i64 (i : Int))]) (fun i => [(ss, bb, .row 4 (copyR (TCode.tw w0.heap.size) TCode.tz l i))]) (fun i => i ≤ l.length) (fun i => l.length - i) 0 (Nat.zero_le _)
  exact kp_; exact nw_
  · rw [← h0]; exact .refl _
  intro i hi
  try dsimp only
  by_cases hlt : i < l.length
  · obtain ⟨hrow, hset⟩ := copyR_set (TCode.tw w0.heap.size) TCode.tz hlt
    have hra : (l.map (TCode.tw lo))[i]? = some (l[i].tw lo) := row_map hlt
    have hbi := hb.2 _ (List.getElem_mem hlt)
    generalize l[i] = x at hset hra hbi
    have hct := toCode_ct hst lo x hbi
    unfold TCode.tw at hct
    rw [show x.tw lo = [.bool x.block, .int .i64 x.params, .int .i64 x.slots, .sl lo 4 (x.instrs.map (TInstr.tw lo))] from rfl] at hra
    replace hrow : (copyR (TCode.tw w0.heap.size) TCode.tz l i)[i]? = some [.bool false, .int .i64 0, .int .i64 0, .nils] := hrow
    repeat' (first | refine W_ ?_ | refine e_call hG hst (hct) ?_ | refine e_store ?_ | refine c_ (fun hc => ?_) (fun hc => ?_) | refine g_ (fun hg => ?_) (fun hg => ?_))
    refine aq_round (i + 1) (by omega) (by omega) (.of _ nw_ od_ (by rw [← hset]; exact .refl _))
  · obtain rfl : i = l.length := by omega
    rw [copyR_full]
    repeat' (first | refine W_ ?_ | refine c_ (fun hc => ?_) (fun hc => ?_) | refine g_ (fun hg => ?_) (fun hg => ?_))
    refine aq_ret1 x_ rfl (.tmp _ _ rfl) (fun _ => ?_)
    exact fin_ms (fun x => TCode.fin _ _ _ x) List.mem_cons_self
theorem eqCode_ct (hst : Stable G) (l1 l2 : Nat) (x : TCode) (hb : x.small 1048576) : Ct Tryz.prog G 147 [.agg (x.tw l1), .agg (x.tw l2)] (fun _ => .bool true) := by
  refine ct_enter Tryz.func147 rfl Tryz.ntmps147 rfl rfl fun w0 _ hG => ?_
  unfold TCode.small at hb
  have hsinstrs := hb
  unfold TCode.tw
  repeat' (first | refine W_ ?_ | refine e_box ?_ | refine e_call hG hst (eqInstrS_ct hst l1 l2 x.instrs hsinstrs) ?_ | refine c_ (fun hc => ?_) (fun hc => ?_) | refine g_ (fun hg => ?_) (fun hg => ?_))
  all_goals first
    | (exfalso; simp at hc; done)
    | (exact r1_)
theorem eqCodeS_ct (hst : Stable G) (l1 l2 : Nat) (l : List TCode) (hb : l.length ≤ 1048576 ∧ ∀ y ∈ l, TCode.small 1048576 y) : Ct Tryz.prog G 63 [.sl l1 4 (l.map (TCode.tw l1)), .sl l2 4 (l.map (TCode.tw l2))] (fun _ => .bool true) := by
  refine ct_enter Tryz.func63 rfl Tryz.ntmps63 rfl rfl fun w0 _ hG => ?_
  have hlen := TCode.len l1 l
  have hlen2 := TCode.len l2 l
  have hl1 := hb.1
  repeat' (first | refine W_ ?_ | refine c_ (fun hc => ?_) (fun hc => ?_) | refine g_ (fun hg => ?_) (fun hg => ?_))
  apply aw_loopk (X := Nat) [0, 1] (fun i => [(5, .int .i64 (i : Int))]) (fun _ => []) (fun i => i ≤ l.length) (fun i => l.length - i) 0 (Nat.zero_le _)
  exact kp_; exact nw_
  · exact .refl _
  intro i hi
  try dsimp only
  by_cases hlt : i < l.length
  · have hr1 : (l.map (TCode.tw l1))[i]? = some (l[i].tw l1) := row_map hlt
    have hr2 : (l.map (TCode.tw l2))[i]? = some (l[i].tw l2) := row_map hlt
    have hbi := hb.2 _ (List.getElem_mem hlt)
    generalize l[i] = x at hr1 hr2 hbi
    have hct := eqCode_ct hst l1 l2 x hbi
    unfold TCode.tw at hct
    rw [show x.tw l1 = [.bool x.block, .int .i64 x.params, .int .i64 x.slots, .sl l1 4 (x.instrs.map (TInstr.tw l1))] from rfl] at hr1
    rw [show x.tw l2 = [.bool x.block, .int .i64 x.params, .int .i64 x.slots, .sl l2 4 (x.instrs.map (TInstr.tw l2))] from rfl] at hr2
    repeat' (first | refine V_ ?_ | refine e_calld hG hst (hct) ?_ | refine e_call hG hst (hct) ?_ | refine c_ (fun hc => ?_) (fun hc => ?_) | refine g_ (fun hg => ?_) (fun hg => ?_))
    exact aq_round (i + 1) (by omega) (by omega) (.of _ nw_ od_ pk_)
  · repeat' (first | refine W_ ?_ | refine c_ (fun hc => ?_) (fun hc => ?_) | refine g_ (fun hg => ?_) (fun hg => ?_))
    exact r1_
end
def TEntry.tw (_lo : Nat) (x : TEntry) : List TV := [.int .i64 x.owner, .bool x.class_, .str x.selector, .int .i64 x.code]
def TEntry.small (n : Nat) (x : TEntry) : Prop := (x.selector.size ≤ n)
def TEntry.tz : List TV := [.int .i64 0, .bool false, .str ⟨#[]⟩, .int .i64 0]
theorem TEntry.fin (B K : Nat) (objs : Objs) (x : TEntry) : FinL B objs K (x.tw B) (x.tw K) := .cons (.flat rfl) (.cons (.flat rfl) (.cons (.flat rfl) (.cons (.flat rfl) (.nil))))
theorem TEntry.len (lo : Nat) (l : List TEntry) : (l.map (TEntry.tw lo)).length = l.length := by simp
section
variable {G : World → Prop}
theorem szEntry_ct (_hst : Stable G) (lo : Nat) (x : TEntry) (left : Int) (h : 0 ≤ left ∧ left ≤ 1048576) (hb : x.small 9223372036854775807) : CtM Tryz.prog G 124 [.agg (x.tw lo), .int .i64 left] [] (fun y : Int => -1 ≤ y ∧ y ≤ left ∧ (0 ≤ y → x.small 1048576)) (fun _ => []) (fun y => .int .i64 y) := by
  refine ctm_enter Tryz.func124 rfl Tryz.ntmps124 rfl rfl rfl fun w0 R gs objsR hG hR => ?_
  obtain rfl := hR.inv0
  clear hR
  unfold TEntry.small at hb
  have hb1 : x.selector.size ≤ 9223372036854775807 := hb
  unfold TEntry.tw
  repeat' (first | refine W_ ?_ | refine e_box ?_ | refine c_ (fun hc => ?_) (fun hc => ?_) | refine g_ (fun hg => ?_) (fun hg => ?_))
  all_goals first
    | exact aq_retm1 x_ rfl (-1) ⟨by omega, by omega, fun h => by omega⟩ rfl (.nil R) (.refl _) (.tmp _ _ rfl) rfl
    | (refine aq_retm1 x_ rfl _ ⟨?_, ?_, fun _ => ?_⟩ rfl (.nil R) (.refl _) (.tmp _ _ rfl) rfl
       · omega
       · omega
       · show _ ≤ _; omega)
theorem szEntryS_ct (hst : Stable G) (lo : Nat) (l : List TEntry) (left : Int) (h : 0 ≤ left ∧ left ≤ 1048576) (hb : l.length ≤ 9223372036854775807 ∧ ∀ y ∈ l, TEntry.small 9223372036854775807 y) : CtM Tryz.prog G 47 [.sl lo 4 (l.map (TEntry.tw lo)), .int .i64 left] [] (fun y : Int => -1 ≤ y ∧ y ≤ left ∧ (0 ≤ y → l.length ≤ 1048576 ∧ ∀ y ∈ l, TEntry.small 1048576 y)) (fun _ => []) (fun y => .int .i64 y) := by
  refine ctm_enter Tryz.func47 rfl Tryz.ntmps47 rfl rfl rfl fun w0 R gs objsR hG hR => ?_
  obtain rfl := hR.inv0
  clear hR
  have hlen := TEntry.len lo l
  have hl1 := hb.1
  by_cases hn : left - l.length < 0
  · repeat' (first | refine W_ ?_ | refine c_ (fun hc => ?_) (fun hc => ?_) | refine g_ (fun hg => ?_) (fun hg => ?_))
    exact aq_retm1 x_ rfl (-1) ⟨by omega, by omega, fun h => by omega⟩ rfl (.nil R) (.refl _) (.tmp _ _ rfl) rfl
  · repeat' (first | refine W_ ?_ | refine c_ (fun hc => ?_) (fun hc => ?_) | refine g_ (fun hg => ?_) (fun hg => ?_))
    apply aw_loopk (X := Nat × Int) [0, 1000000] (fun x => [(5, .int .i64 (x.1 : Int)), (1, .int .i64 x.2)]) (fun _ => R) (fun x => x.1 ≤ l.length ∧ 0 ≤ x.2 ∧ x.2 ≤ left ∧ ∀ y ∈ l.take x.1, TEntry.small 1048576 y) (fun x => l.length - x.1) (0, left - l.length) ⟨Nat.zero_le _, by dsimp only; omega, by dsimp only; omega, by simp⟩
    exact kp_; exact nw_
    · exact .refl _
    rintro ⟨i, lf⟩ ⟨hi, h0, h1, hs⟩
    dsimp only at hi h0 h1 hs ⊢
    by_cases hlt : i < l.length
    · have hrow : (l.map (TEntry.tw lo))[i]? = some (l[i].tw lo) := row_map hlt
      have hbi := hb.2 _ (List.getElem_mem hlt)
      have hta := take_all (p := TEntry.small 1048576) hlt hs
      generalize l[i] = x at hrow hbi hta
      have hct := szEntry_ct hst lo x lf (by omega) hbi
      unfold TEntry.tw at hct
      rw [show x.tw lo = [.int .i64 x.owner, .bool x.class_, .str x.selector, .int .i64 x.code] from rfl] at hrow
      repeat' (first | refine W_ ?_ | ((with_reducible apply o_callM); rfl; kernel_rfl; (repeat (first | exact ArgsM.nil | ((with_reducible apply ArgsM.cons); rfl))); exact hG; exact hct; exact .nil _; intro y hy; refine al_app0 ?_) | refine c_ (fun hc => ?_) (fun hc => ?_) | refine g_ (fun hg => ?_) (fun hg => ?_))
      all_goals first
        | exact aq_retm1 x_ rfl (-1) ⟨by omega, by omega, fun h => by omega⟩ rfl (.nil R) (.refl _) (.tmp _ _ rfl) rfl
        | exact aq_round (i + 1, y) ⟨by dsimp only; omega, by dsimp only; omega, by dsimp only; omega, hta (hy.2.2 (by omega))⟩ (by dsimp only; omega) (.of _ nw_ od_ pk_)
    · rw [List.take_of_length_le (by omega)] at hs
      repeat' (first | refine W_ ?_ | refine c_ (fun hc => ?_) (fun hc => ?_) | refine g_ (fun hg => ?_) (fun hg => ?_))
      exact aq_retm1 x_ rfl lf ⟨by omega, by omega, fun _ => ⟨by omega, hs⟩⟩ rfl (.nil R) (.refl _) (.tmp _ _ rfl) rfl
theorem toEntry_ct (_hst : Stable G) (lo : Nat) (x : TEntry) (_hb : x.small 1048576) : Ct Tryz.prog G 133 [.agg (x.tw lo)] (fun K => .agg (x.tw K)) := by
  refine ct_enter Tryz.func133 rfl Tryz.ntmps133 rfl rfl fun w0 _ hG => ?_
  unfold TEntry.small at _hb
  skip
  repeat' (first | refine W_ ?_ | refine e_box ?_ | (refine e_alloc ?_; intro ss bb) | refine e_storep ?_ | refine c_ (fun hc => ?_) (fun hc => ?_) | refine g_ (fun hg => ?_) (fun hg => ?_))
  refine aq_ret1 x_ rfl (.cell _ _ _ _ _ rfl mm_ (by kernel_rfl) (by kernel_rfl) (by kernel_rfl)) (fun _ => ?_)
  exact fin_agg (TEntry.fin _ _ _ x)
theorem toEntryS_ct (hst : Stable G) (lo : Nat) (l : List TEntry) (hb : l.length ≤ 1048576 ∧ ∀ y ∈ l, TEntry.small 1048576 y) : Ct Tryz.prog G 53 [.sl lo 4 (l.map (TEntry.tw lo))] (fun K => .sl K 4 (l.map (TEntry.tw K))) := by
  refine ct_enter Tryz.func53 rfl Tryz.ntmps53 rfl rfl fun w0 _ hG => ?_
  have hlen := TEntry.len lo l
  have hl1 := hb.1
  have h0 := copyR_zero (TEntry.tw w0.heap.size) TEntry.tz l
  repeat' (first | refine W_ ?_ | (refine e_make ?_; intro ss bb) | refine c_ (fun hc => ?_) (fun hc => ?_) | refine g_ (fun hg => ?_) (fun hg => ?_))
  apply aw_loopk (X := Nat) [0, 3] (fun i => [(4, .int .i64 (i : Int))]) (fun i => [(ss, bb, .row 4 (copyR (TEntry.tw w0.heap.size) TEntry.tz l i))]) (fun i => i ≤ l.length) (fun i => l.length - i) 0 (Nat.zero_le _)
  exact kp_; exact nw_
  · rw [← h0]; exact .refl _
  intro i hi
  try dsimp only
  by_cases hlt : i < l.length
  · obtain ⟨hrow, hset⟩ := copyR_set (TEntry.tw w0.heap.size) TEntry.tz hlt
    have hra : (l.map (TEntry.tw lo))[i]? = some (l[i].tw lo) := row_map hlt
    have hbi := hb.2 _ (List.getElem_mem hlt)
    generalize l[i] = x at hset hra hbi
    have hct := toEntry_ct hst lo x hbi
    unfold TEntry.tw at hct
    rw [show x.tw lo = [.int .i64 x.owner, .bool x.class_, .str x.selector, .int .i64 x.code] from rfl] at hra
    replace hrow : (copyR (TEntry.tw w0.heap.size) TEntry.tz l i)[i]? = some [.int .i64 0, .bool false, .str ⟨#[]⟩, .int .i64 0] := hrow
    repeat' (first | refine W_ ?_ | refine e_call hG hst (hct) ?_ | refine e_store ?_ | refine c_ (fun hc => ?_) (fun hc => ?_) | refine g_ (fun hg => ?_) (fun hg => ?_))
    refine aq_round (i + 1) (by omega) (by omega) (.of _ nw_ od_ (by rw [← hset]; exact .refl _))
  · obtain rfl : i = l.length := by omega
    rw [copyR_full]
    repeat' (first | refine W_ ?_ | refine c_ (fun hc => ?_) (fun hc => ?_) | refine g_ (fun hg => ?_) (fun hg => ?_))
    refine aq_ret1 x_ rfl (.tmp _ _ rfl) (fun _ => ?_)
    exact fin_ms (fun x => TEntry.fin _ _ _ x) List.mem_cons_self
theorem eqEntry_ct (_hst : Stable G) (l1 l2 : Nat) (x : TEntry) (_hb : x.small 1048576) : Ct Tryz.prog G 148 [.agg (x.tw l1), .agg (x.tw l2)] (fun _ => .bool true) := by
  refine ct_enter Tryz.func148 rfl Tryz.ntmps148 rfl rfl fun w0 _ hG => ?_
  unfold TEntry.small at _hb
  have hneselector : ¬ x.selector ≠ x.selector := fun h => h rfl
  unfold TEntry.tw
  repeat' (first | refine W_ ?_ | refine e_box ?_ | refine c_ (fun hc => ?_) (fun hc => ?_) | refine g_ (fun hg => ?_) (fun hg => ?_))
  all_goals first
    | (exfalso; simp at hc; done)
    | (exact r1_)
theorem eqEntryS_ct (hst : Stable G) (l1 l2 : Nat) (l : List TEntry) (hb : l.length ≤ 1048576 ∧ ∀ y ∈ l, TEntry.small 1048576 y) : Ct Tryz.prog G 64 [.sl l1 4 (l.map (TEntry.tw l1)), .sl l2 4 (l.map (TEntry.tw l2))] (fun _ => .bool true) := by
  refine ct_enter Tryz.func64 rfl Tryz.ntmps64 rfl rfl fun w0 _ hG => ?_
  have hlen := TEntry.len l1 l
  have hlen2 := TEntry.len l2 l
  have hl1 := hb.1
  repeat' (first | refine W_ ?_ | refine c_ (fun hc => ?_) (fun hc => ?_) | refine g_ (fun hg => ?_) (fun hg => ?_))
  apply aw_loopk (X := Nat) [0, 1] (fun i => [(5, .int .i64 (i : Int))]) (fun _ => []) (fun i => i ≤ l.length) (fun i => l.length - i) 0 (Nat.zero_le _)
  exact kp_; exact nw_
  · exact .refl _
  intro i hi
  try dsimp only
  by_cases hlt : i < l.length
  · have hr1 : (l.map (TEntry.tw l1))[i]? = some (l[i].tw l1) := row_map hlt
    have hr2 : (l.map (TEntry.tw l2))[i]? = some (l[i].tw l2) := row_map hlt
    have hbi := hb.2 _ (List.getElem_mem hlt)
    generalize l[i] = x at hr1 hr2 hbi
    have hct := eqEntry_ct hst l1 l2 x hbi
    unfold TEntry.tw at hct
    rw [show x.tw l1 = [.int .i64 x.owner, .bool x.class_, .str x.selector, .int .i64 x.code] from rfl] at hr1
    rw [show x.tw l2 = [.int .i64 x.owner, .bool x.class_, .str x.selector, .int .i64 x.code] from rfl] at hr2
    repeat' (first | refine V_ ?_ | refine e_calld hG hst (hct) ?_ | refine e_call hG hst (hct) ?_ | refine c_ (fun hc => ?_) (fun hc => ?_) | refine g_ (fun hg => ?_) (fun hg => ?_))
    exact aq_round (i + 1) (by omega) (by omega) (.of _ nw_ od_ pk_)
  · repeat' (first | refine W_ ?_ | refine c_ (fun hc => ?_) (fun hc => ?_) | refine g_ (fun hg => ?_) (fun hg => ?_))
    exact r1_
end
def TClassInfo.tw (lo : Nat) (x : TClassInfo) : List TV := [.str x.name, .int .i64 x.parent, .sl lo 1 (strR x.fields)]
def TClassInfo.small (n : Nat) (x : TClassInfo) : Prop := (x.name.size ≤ n) ∧ (x.fields.length ≤ n ∧ ∀ y ∈ x.fields, ByteArray.size y ≤ n)
def TClassInfo.tz : List TV := [.str ⟨#[]⟩, .int .i64 0, .nils]
theorem TClassInfo.fin (B K : Nat) (objs : Objs) (_x : TClassInfo) : FinL B objs K (_x.tw B) (_x.tw K) := .cons (.flat rfl) (.cons (.flat rfl) (.cons (fin_sl (fun _x => .cons (.flat rfl) .nil) _) (.nil)))
theorem TClassInfo.len (lo : Nat) (l : List TClassInfo) : (l.map (TClassInfo.tw lo)).length = l.length := by simp
section
variable {G : World → Prop}
theorem szClassInfo_ct (_hst : Stable G) (lo : Nat) (x : TClassInfo) (left : Int) (h : 0 ≤ left ∧ left ≤ 1048576) (hb : x.small 9223372036854775807) : CtM Tryz.prog G 122 [.agg (x.tw lo), .int .i64 left] [] (fun y : Int => -1 ≤ y ∧ y ≤ left ∧ (0 ≤ y → x.small 1048576)) (fun _ => []) (fun y => .int .i64 y) := by
  refine ctm_enter Tryz.func122 rfl Tryz.ntmps122 rfl rfl rfl fun w0 R gs objsR hG hR => ?_
  obtain rfl := hR.inv0
  clear hR
  unfold TClassInfo.small at hb
  have hb1 : x.name.size ≤ 9223372036854775807 := hb.1
  unfold TClassInfo.tw
  repeat' (first | refine W_ ?_ | refine e_box ?_ | ((with_reducible apply o_callM); rfl; kernel_rfl; (repeat (first | exact ArgsM.nil | ((with_reducible apply ArgsM.cons); rfl))); exact hG; exact szStringS_ct lo x.fields _ (by omega) hb.2; exact .nil _; intro y2 hy2; refine al_app0 ?_) | refine c_ (fun hc => ?_) (fun hc => ?_) | refine g_ (fun hg => ?_) (fun hg => ?_))
  all_goals first
    | exact aq_retm1 x_ rfl (-1) ⟨by omega, by omega, fun h => by omega⟩ rfl (.nil R) (.refl _) (.tmp _ _ rfl) rfl
    | (refine aq_retm1 x_ rfl _ ⟨?_, ?_, fun _ => ?_⟩ rfl (.nil R) (.refl _) (.tmp _ _ rfl) rfl
       · omega
       · omega
       · exact ⟨by omega, hy2.2.2 (by omega)⟩)
theorem szClassInfoS_ct (hst : Stable G) (lo : Nat) (l : List TClassInfo) (left : Int) (h : 0 ≤ left ∧ left ≤ 1048576) (hb : l.length ≤ 9223372036854775807 ∧ ∀ y ∈ l, TClassInfo.small 9223372036854775807 y) : CtM Tryz.prog G 45 [.sl lo 3 (l.map (TClassInfo.tw lo)), .int .i64 left] [] (fun y : Int => -1 ≤ y ∧ y ≤ left ∧ (0 ≤ y → l.length ≤ 1048576 ∧ ∀ y ∈ l, TClassInfo.small 1048576 y)) (fun _ => []) (fun y => .int .i64 y) := by
  refine ctm_enter Tryz.func45 rfl Tryz.ntmps45 rfl rfl rfl fun w0 R gs objsR hG hR => ?_
  obtain rfl := hR.inv0
  clear hR
  have hlen := TClassInfo.len lo l
  have hl1 := hb.1
  by_cases hn : left - l.length < 0
  · repeat' (first | refine W_ ?_ | refine c_ (fun hc => ?_) (fun hc => ?_) | refine g_ (fun hg => ?_) (fun hg => ?_))
    exact aq_retm1 x_ rfl (-1) ⟨by omega, by omega, fun h => by omega⟩ rfl (.nil R) (.refl _) (.tmp _ _ rfl) rfl
  · repeat' (first | refine W_ ?_ | refine c_ (fun hc => ?_) (fun hc => ?_) | refine g_ (fun hg => ?_) (fun hg => ?_))
    apply aw_loopk (X := Nat × Int) [0, 1000000] (fun x => [(5, .int .i64 (x.1 : Int)), (1, .int .i64 x.2)]) (fun _ => R) (fun x => x.1 ≤ l.length ∧ 0 ≤ x.2 ∧ x.2 ≤ left ∧ ∀ y ∈ l.take x.1, TClassInfo.small 1048576 y) (fun x => l.length - x.1) (0, left - l.length) ⟨Nat.zero_le _, by dsimp only; omega, by dsimp only; omega, by simp⟩
    exact kp_; exact nw_
    · exact .refl _
    rintro ⟨i, lf⟩ ⟨hi, h0, h1, hs⟩
    dsimp only at hi h0 h1 hs ⊢
    by_cases hlt : i < l.length
    · have hrow : (l.map (TClassInfo.tw lo))[i]? = some (l[i].tw lo) := row_map hlt
      have hbi := hb.2 _ (List.getElem_mem hlt)
      have hta := take_all (p := TClassInfo.small 1048576) hlt hs
      generalize l[i] = x at hrow hbi hta
      have hct := szClassInfo_ct hst lo x lf (by omega) hbi
      unfold TClassInfo.tw at hct
      rw [show x.tw lo = [.str x.name, .int .i64 x.parent, .sl lo 1 (strR x.fields)] from rfl] at hrow
      repeat' (first | refine W_ ?_ | ((with_reducible apply o_callM); rfl; kernel_rfl; (repeat (first | exact ArgsM.nil | ((with_reducible apply ArgsM.cons); rfl))); exact hG; exact hct; exact .nil _; intro y hy; refine al_app0 ?_) | refine c_ (fun hc => ?_) (fun hc => ?_) | refine g_ (fun hg => ?_) (fun hg => ?_))
      all_goals first
        | exact aq_retm1 x_ rfl (-1) ⟨by omega, by omega, fun h => by omega⟩ rfl (.nil R) (.refl _) (.tmp _ _ rfl) rfl
        | exact aq_round (i + 1, y) ⟨by dsimp only; omega, by dsimp only; omega, by dsimp only; omega, hta (hy.2.2 (by omega))⟩ (by dsimp only; omega) (.of _ nw_ od_ pk_)
    · rw [List.take_of_length_le (by omega)] at hs
      repeat' (first | refine W_ ?_ | refine c_ (fun hc => ?_) (fun hc => ?_) | refine g_ (fun hg => ?_) (fun hg => ?_))
      exact aq_retm1 x_ rfl lf ⟨by omega, by omega, fun _ => ⟨by omega, hs⟩⟩ rfl (.nil R) (.refl _) (.tmp _ _ rfl) rfl
theorem toClassInfo_ct (hst : Stable G) (lo : Nat) (x : TClassInfo) (hb : x.small 1048576) : Ct Tryz.prog G 131 [.agg (x.tw lo)] (fun K => .agg (x.tw K)) := by
  refine ct_enter Tryz.func131 rfl Tryz.ntmps131 rfl rfl fun w0 _ hG => ?_
  unfold TClassInfo.small at hb
  have hsfields := (hb.2).1
  repeat' (first | refine W_ ?_ | refine e_box ?_ | (refine e_alloc ?_; intro ss bb) | refine e_storep ?_ | refine e_call hG hst (toStringS_ct hst lo x.fields (hsfields)) ?_ | refine c_ (fun hc => ?_) (fun hc => ?_) | refine g_ (fun hg => ?_) (fun hg => ?_))
  refine aq_ret1 x_ rfl (.cell _ _ _ _ _ rfl mm_ (by kernel_rfl) (by kernel_rfl) (by kernel_rfl)) (fun _ => ?_)
  exact fin_agg (TClassInfo.fin _ _ _ x)
theorem toClassInfoS_ct (hst : Stable G) (lo : Nat) (l : List TClassInfo) (hb : l.length ≤ 1048576 ∧ ∀ y ∈ l, TClassInfo.small 1048576 y) : Ct Tryz.prog G 51 [.sl lo 3 (l.map (TClassInfo.tw lo))] (fun K => .sl K 3 (l.map (TClassInfo.tw K))) := by
  refine ct_enter Tryz.func51 rfl Tryz.ntmps51 rfl rfl fun w0 _ hG => ?_
  have hlen := TClassInfo.len lo l
  have hl1 := hb.1
  have h0 := copyR_zero (TClassInfo.tw w0.heap.size) TClassInfo.tz l
  repeat' (first | refine W_ ?_ | (refine e_make ?_; intro ss bb) | refine c_ (fun hc => ?_) (fun hc => ?_) | refine g_ (fun hg => ?_) (fun hg => ?_))
  apply aw_loopk (X := Nat) [0, 3] (fun i => [(4, .int .i64 (i : Int))]) (fun i => [(ss, bb, .row 3 (copyR (TClassInfo.tw w0.heap.size) TClassInfo.tz l i))]) (fun i => i ≤ l.length) (fun i => l.length - i) 0 (Nat.zero_le _)
  exact kp_; exact nw_
  · rw [← h0]; exact .refl _
  intro i hi
  try dsimp only
  by_cases hlt : i < l.length
  · obtain ⟨hrow, hset⟩ := copyR_set (TClassInfo.tw w0.heap.size) TClassInfo.tz hlt
    have hra : (l.map (TClassInfo.tw lo))[i]? = some (l[i].tw lo) := row_map hlt
    have hbi := hb.2 _ (List.getElem_mem hlt)
    generalize l[i] = x at hset hra hbi
    have hct := toClassInfo_ct hst lo x hbi
    unfold TClassInfo.tw at hct
    rw [show x.tw lo = [.str x.name, .int .i64 x.parent, .sl lo 1 (strR x.fields)] from rfl] at hra
    replace hrow : (copyR (TClassInfo.tw w0.heap.size) TClassInfo.tz l i)[i]? = some [.str ⟨#[]⟩, .int .i64 0, .nils] := hrow
    repeat' (first | refine W_ ?_ | refine e_call hG hst (hct) ?_ | refine e_store ?_ | refine c_ (fun hc => ?_) (fun hc => ?_) | refine g_ (fun hg => ?_) (fun hg => ?_))
    refine aq_round (i + 1) (by omega) (by omega) (.of _ nw_ od_ (by rw [← hset]; exact .refl _))
  · obtain rfl : i = l.length := by omega
    rw [copyR_full]
    repeat' (first | refine W_ ?_ | refine c_ (fun hc => ?_) (fun hc => ?_) | refine g_ (fun hg => ?_) (fun hg => ?_))
    refine aq_ret1 x_ rfl (.tmp _ _ rfl) (fun _ => ?_)
    exact fin_ms (fun x => TClassInfo.fin _ _ _ x) List.mem_cons_self
theorem eqClassInfo_ct (hst : Stable G) (l1 l2 : Nat) (x : TClassInfo) (hb : x.small 1048576) : Ct Tryz.prog G 146 [.agg (x.tw l1), .agg (x.tw l2)] (fun _ => .bool true) := by
  refine ct_enter Tryz.func146 rfl Tryz.ntmps146 rfl rfl fun w0 _ hG => ?_
  unfold TClassInfo.small at hb
  have hsfields := (hb.2).1
  have hnename : ¬ x.name ≠ x.name := fun h => h rfl
  unfold TClassInfo.tw
  repeat' (first | refine W_ ?_ | refine e_box ?_ | refine e_call hG hst (eqStringS_ct l1 l2 x.fields hsfields) ?_ | refine c_ (fun hc => ?_) (fun hc => ?_) | refine g_ (fun hg => ?_) (fun hg => ?_))
  all_goals first
    | (exfalso; simp at hc; done)
    | (exact r1_)
theorem eqClassInfoS_ct (hst : Stable G) (l1 l2 : Nat) (l : List TClassInfo) (hb : l.length ≤ 1048576 ∧ ∀ y ∈ l, TClassInfo.small 1048576 y) : Ct Tryz.prog G 62 [.sl l1 3 (l.map (TClassInfo.tw l1)), .sl l2 3 (l.map (TClassInfo.tw l2))] (fun _ => .bool true) := by
  refine ct_enter Tryz.func62 rfl Tryz.ntmps62 rfl rfl fun w0 _ hG => ?_
  have hlen := TClassInfo.len l1 l
  have hlen2 := TClassInfo.len l2 l
  have hl1 := hb.1
  repeat' (first | refine W_ ?_ | refine c_ (fun hc => ?_) (fun hc => ?_) | refine g_ (fun hg => ?_) (fun hg => ?_))
  apply aw_loopk (X := Nat) [0, 1] (fun i => [(5, .int .i64 (i : Int))]) (fun _ => []) (fun i => i ≤ l.length) (fun i => l.length - i) 0 (Nat.zero_le _)
  exact kp_; exact nw_
  · exact .refl _
  intro i hi
  try dsimp only
  by_cases hlt : i < l.length
  · have hr1 : (l.map (TClassInfo.tw l1))[i]? = some (l[i].tw l1) := row_map hlt
    have hr2 : (l.map (TClassInfo.tw l2))[i]? = some (l[i].tw l2) := row_map hlt
    have hbi := hb.2 _ (List.getElem_mem hlt)
    generalize l[i] = x at hr1 hr2 hbi
    have hct := eqClassInfo_ct hst l1 l2 x hbi
    unfold TClassInfo.tw at hct
    rw [show x.tw l1 = [.str x.name, .int .i64 x.parent, .sl l1 1 (strR x.fields)] from rfl] at hr1
    rw [show x.tw l2 = [.str x.name, .int .i64 x.parent, .sl l2 1 (strR x.fields)] from rfl] at hr2
    repeat' (first | refine V_ ?_ | refine e_calld hG hst (hct) ?_ | refine e_call hG hst (hct) ?_ | refine c_ (fun hc => ?_) (fun hc => ?_) | refine g_ (fun hg => ?_) (fun hg => ?_))
    exact aq_round (i + 1) (by omega) (by omega) (.of _ nw_ od_ pk_)
  · repeat' (first | refine W_ ?_ | refine c_ (fun hc => ?_) (fun hc => ?_) | refine g_ (fun hg => ?_) (fun hg => ?_))
    exact r1_
end
def TCodeBase.tw (lo : Nat) (x : TCodeBase) : List TV := [.sl lo 3 (x.classes.map (TClassInfo.tw lo)), .sl lo 4 (x.codes.map (TCode.tw lo)), .sl lo 4 (x.entries.map (TEntry.tw lo)), .int .i64 x.main]
def TCodeBase.small (n : Nat) (x : TCodeBase) : Prop := (x.classes.length ≤ n ∧ ∀ y ∈ x.classes, TClassInfo.small n y) ∧ (x.codes.length ≤ n ∧ ∀ y ∈ x.codes, TCode.small n y) ∧ (x.entries.length ≤ n ∧ ∀ y ∈ x.entries, TEntry.small n y)
def TCodeBase.tz : List TV := [.nils, .nils, .nils, .int .i64 0]
theorem TCodeBase.fin (B K : Nat) (objs : Objs) (x : TCodeBase) : FinL B objs K (x.tw B) (x.tw K) := .cons (fin_sl (fun x => TClassInfo.fin B K objs x) _) (.cons (fin_sl (fun x => TCode.fin B K objs x) _) (.cons (fin_sl (fun x => TEntry.fin B K objs x) _) (.cons (.flat rfl) (.nil))))
theorem TCodeBase.len (lo : Nat) (l : List TCodeBase) : (l.map (TCodeBase.tw lo)).length = l.length := by simp
section
variable {G : World → Prop}
theorem szCodeBase_ct (hst : Stable G) (lo : Nat) (x : TCodeBase) (left : Int) (h : 0 ≤ left ∧ left ≤ 1048576) (hb : x.small 9223372036854775807) : CtM Tryz.prog G 12 [.agg (x.tw lo), .int .i64 left] [] (fun y : Int => -1 ≤ y ∧ y ≤ left ∧ (0 ≤ y → x.small 1048576)) (fun _ => []) (fun y => .int .i64 y) := by
  refine ctm_enter Tryz.func12 rfl Tryz.ntmps12 rfl rfl rfl fun w0 R gs objsR hG hR => ?_
  obtain rfl := hR.inv0
  clear hR
  unfold TCodeBase.small at hb
  skip
  unfold TCodeBase.tw
  repeat' (first | refine W_ ?_ | refine e_box ?_ | ((with_reducible apply o_callM); rfl; kernel_rfl; (repeat (first | exact ArgsM.nil | ((with_reducible apply ArgsM.cons); rfl))); exact hG; exact szClassInfoS_ct hst lo x.classes _ (by omega) hb.1; exact .nil _; intro y1 hy1; refine al_app0 ?_) | ((with_reducible apply o_callM); rfl; kernel_rfl; (repeat (first | exact ArgsM.nil | ((with_reducible apply ArgsM.cons); rfl))); exact hG; exact szCodeS_ct hst lo x.codes _ (by omega) hb.2.1; exact .nil _; intro y2 hy2; refine al_app0 ?_) | ((with_reducible apply o_callM); rfl; kernel_rfl; (repeat (first | exact ArgsM.nil | ((with_reducible apply ArgsM.cons); rfl))); exact hG; exact szEntryS_ct hst lo x.entries _ (by omega) hb.2.2; exact .nil _; intro y3 hy3; refine al_app0 ?_) | refine c_ (fun hc => ?_) (fun hc => ?_) | refine g_ (fun hg => ?_) (fun hg => ?_))
  all_goals first
    | exact aq_retm1 x_ rfl (-1) ⟨by omega, by omega, fun h => by omega⟩ rfl (.nil R) (.refl _) (.tmp _ _ rfl) rfl
    | (refine aq_retm1 x_ rfl _ ⟨?_, ?_, fun _ => ?_⟩ rfl (.nil R) (.refl _) (.tmp _ _ rfl) rfl
       · omega
       · omega
       · exact ⟨hy1.2.2 (by omega), hy2.2.2 (by omega), hy3.2.2 (by omega)⟩)
theorem toCodeBase_ct (hst : Stable G) (lo : Nat) (x : TCodeBase) (hb : x.small 1048576) : Ct Tryz.prog G 14 [.agg (x.tw lo)] (fun K => .agg (x.tw K)) := by
  refine ct_enter Tryz.func14 rfl Tryz.ntmps14 rfl rfl fun w0 _ hG => ?_
  unfold TCodeBase.small at hb
  have hsclasses := hb.1
  have hscodes := hb.2.1
  have hsentries := hb.2.2
  repeat' (first | refine W_ ?_ | refine e_box ?_ | (refine e_alloc ?_; intro ss bb) | refine e_storep ?_ | refine e_call hG hst (toClassInfoS_ct hst lo x.classes (hsclasses)) ?_ | refine e_call hG hst (toCodeS_ct hst lo x.codes (hscodes)) ?_ | refine e_call hG hst (toEntryS_ct hst lo x.entries (hsentries)) ?_ | refine c_ (fun hc => ?_) (fun hc => ?_) | refine g_ (fun hg => ?_) (fun hg => ?_))
  refine aq_ret1 x_ rfl (.cell _ _ _ _ _ rfl mm_ (by kernel_rfl) (by kernel_rfl) (by kernel_rfl)) (fun _ => ?_)
  exact fin_agg (TCodeBase.fin _ _ _ x)
theorem eqCodeBase_ct (hst : Stable G) (l1 l2 : Nat) (x : TCodeBase) (hb : x.small 1048576) : Ct Tryz.prog G 17 [.agg (x.tw l1), .agg (x.tw l2)] (fun _ => .bool true) := by
  refine ct_enter Tryz.func17 rfl Tryz.ntmps17 rfl rfl fun w0 _ hG => ?_
  unfold TCodeBase.small at hb
  have hsclasses := hb.1
  have hscodes := hb.2.1
  have hsentries := hb.2.2
  unfold TCodeBase.tw
  repeat' (first | refine W_ ?_ | refine e_box ?_ | refine e_call hG hst (eqClassInfoS_ct hst l1 l2 x.classes hsclasses) ?_ | refine e_call hG hst (eqCodeS_ct hst l1 l2 x.codes hscodes) ?_ | refine e_call hG hst (eqEntryS_ct hst l1 l2 x.entries hsentries) ?_ | refine c_ (fun hc => ?_) (fun hc => ?_) | refine g_ (fun hg => ?_) (fun hg => ?_))
  all_goals first
    | (exfalso; simp at hc; done)
    | (exact r1_)
end
def TEdit.tw (_lo : Nat) (x : TEdit) : List TV := [.int .i64 x.code, .int .i64 x.at_, .int .i64 x.kind]
def TEdit.small (_n : Nat) (_x : TEdit) : Prop := True
def TEdit.tz : List TV := [.int .i64 0, .int .i64 0, .int .i64 0]
theorem TEdit.fin (B K : Nat) (objs : Objs) (x : TEdit) : FinL B objs K (x.tw B) (x.tw K) := .cons (.flat rfl) (.cons (.flat rfl) (.cons (.flat rfl) (.nil)))
theorem TEdit.len (lo : Nat) (l : List TEdit) : (l.map (TEdit.tw lo)).length = l.length := by simp
section
variable {G : World → Prop}
end
end Go.Proofs.YtiihihgjiklnoaaGreatDoor
