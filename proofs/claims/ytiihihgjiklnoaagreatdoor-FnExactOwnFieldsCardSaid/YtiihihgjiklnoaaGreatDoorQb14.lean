/- Part 14 of the proof: the texts LwT, IvA, NeA, MkN, MkC, MkH. -/
import Derived.Test.YtiihihgjiklnoaaGreatDoorQb10
import Derived.Test.YtiihihgjiklnoaaGreatDoorQb11
import Derived.Test.YtiihihgjiklnoaaGreatDoorQb7
import Derived.Test.YtiihihgjiklnoaaGreatDoorQb2
/- The laws' own helpers sz, to, eq, walked (frozen copies). Written by gen_lw.py. -/
namespace Go.Proofs.YtiihihgjiklnoaaGreatDoor
set_option maxRecDepth 20000
open Go Go.RowKit
theorem aT {α : Type} {p : α → Prop} {l : List α} {i : Nat} (h : i < l.length) (ha : ∀ y ∈ l.take i, p y) (hx : p l[i]) : ∀ y ∈ l.take (i + 1), p y := fun y hy => by
  rw [List.take_add_one, List.getElem?_eq_getElem h] at hy
  rcases List.mem_append.1 hy with hy | hy
  · exact ha y hy
  · simp at hy; subst hy; exact hx
def cI {α : Type} (tw : α → List TV) (z : List TV) (l : List α) (i : Nat) : List (List TV) := (l.take i).map tw ++ List.replicate (l.length - i) z
theorem bC {α : Type} (tw : α → List TV) (z : List TV) (l : List α) : List.replicate l.length z = cI tw z l 0 := by simp [cI]
theorem bB {α : Type} (tw : α → List TV) (z : List TV) (l : List α) : cI tw z l l.length = l.map tw := by simp [cI]
theorem bQ {α : Type} (tw : α → List TV) (z : List TV) {l : List α} {i : Nat} (h : i < l.length) : (cI tw z l i)[i]? = some z ∧ (cI tw z l i).set i (tw l[i]) = cI tw z l (i + 1) := by
  have e : l.length - i = (l.length - (i + 1)) + 1 := by omega
  have hl : ((l.take i).map tw).length = i := by simp; omega
  unfold cI
  refine ⟨?_, ?_⟩
  · rw [List.getElem?_append_right (by omega), hl, Nat.sub_self, e, List.replicate_succ]; rfl
  · rw [List.set_append_right _ _ (by omega), hl, Nat.sub_self, e, List.replicate_succ, List.set_cons_zero, show l.take (i + 1) = l.take i ++ [l[i]] from by rw [List.take_add_one, List.getElem?_eq_getElem h]; rfl, List.map_append, List.append_assoc]
    rfl
def im (B : Nat) (objs : aI) (K : Nat) (l l' : List TV) : Prop := l'.length = l.length ∧ ∀ (j : Nat) (t t' : TV), l[j]? = some t → l'[j]? = some t' → Fin B objs K t t'
theorem im.nil {B : Nat} {objs : aI} {K : Nat} : im B objs K [] [] := ⟨rfl, by simp⟩
theorem im.cons {B : Nat} {objs : aI} {K : Nat} {t t' : TV} {l l' : List TV} (h : Fin B objs K t t') (hr : im B objs K l l') : im B objs K (t :: l) (t' :: l') := ⟨by simp [hr.1], fun j u u' h1 h2 => by
  cases j with
  | zero => simp at h1 h2; subst h1; subst h2; exact h
  | succ j => exact hr.2 j u u' (by simpa using h1) (by simpa using h2)⟩
theorem im.append {B : Nat} {objs : aI} {K : Nat} {a a' b b' : List TV} (h : im B objs K a a') (k : im B objs K b b') : im B objs K (a ++ b) (a' ++ b') := ⟨by simp [h.1, k.1], fun j u u' h1 h2 => by
  by_cases hj : j < a.length
  · rw [List.getElem?_append_left hj] at h1
    rw [List.getElem?_append_left (by rw [h.1]; exact hj)] at h2
    exact h.2 j u u' h1 h2
  · rw [List.getElem?_append_right (by omega)] at h1
    rw [List.getElem?_append_right (by rw [h.1]; omega)] at h2
    rw [h.1] at h2
    exact k.2 _ u u' h1 h2⟩
theorem im.rows {α : Type} {B : Nat} {objs : aI} {K : Nat} {f f' : α → List TV} (h : ∀ x, im B objs K (f x) (f' x)) : ∀ l : List α, im B objs K (l.map f).flatten (l.map f').flatten
  | [] => .nil
  | x :: r => by simpa using (h x).append (im.rows h r)
theorem im.lens {α : Type} {f f' : α → List TV} (h : ∀ x, (f' x).length = (f x).length) (l : List α) : (l.map f').map List.length = (l.map f).map List.length := by
  induction l with
  | nil => rfl
  | cons x r ih => simpa [h x] using ih
theorem cn {α : Type} {B : Nat} {objs : aI} {K m : Nat} {f f' : α → List TV} (h : ∀ x, im B objs K (f x) (f' x)) (l : List α) : Fin B objs K (.sl B m (l.map f)) (.sl K m (l.map f')) :=
  .sl B m _ _ (Nat.le_refl _) (im.lens (fun x => (h x).1) l) (im.rows h l).2
theorem eK {α : Type} {B : Nat} {objs : aI} {K s b m : Nat} {f f' : α → List TV} (h : ∀ x, im B objs K (f x) (f' x)) {l : List α} (hm : (s, b, bu.row m (l.map f)) ∈ objs) : Fin B objs K (.ms s b 0 l.length) (.sl K m (l.map f')) :=
  .ms s b 0 l.length m _ (l.map f) _ hm (by simp) (by rw [List.drop_zero, List.take_of_length_le (by simp)]) (im.lens (fun x => (h x).1) l) (im.rows h l).2
theorem eg {B : Nat} {objs : aI} {K : Nat} {l l' : List TV} (h : im B objs K l l') : Fin B objs K (.agg l) (.agg l') := .agg l l' h.1 h.2
theorem dG {l : List ByteArray} {i : Nat} (h : i < l.length) : (bE l)[i]? = some [.str l[i]] := aH h
theorem bf (l : List ByteArray) : (bE l).length = l.length := by simp [bE]
section
variable {G : World → Prop}
theorem li (lo : Nat) (l : List ByteArray) (left : Int) (h : 0 ≤ left ∧ left ≤ 1048576) (hb : l.length ≤ 9223372036854775807 ∧ ∀ y ∈ l, ByteArray.size y ≤ 9223372036854775807) : CtM Tryz.prog G 158 [.sl lo 1 (bE l), .int .i64 left] [] (fun y : Int => -1 ≤ y ∧ y ≤ left ∧ (0 ≤ y → l.length ≤ 1048576 ∧ ∀ y ∈ l, ByteArray.size y ≤ 1048576)) (fun _ => []) (fun y => .int .i64 y) := by
  refine aC Tryz.func158 rfl Tryz.ntmps158 rfl rfl rfl fun w0 R gs objsR hG hR => ?_
  obtain rfl := hR.inv0
  clear hR
  have hlen := bf l
  have hl1 := hb.1
  by_cases hn : left - l.length < 0
  · repeat' (first | refine W_ ?_ | refine c_ (fun hc => ?_) (fun hc => ?_) | refine g_ (fun hg => ?_) (fun hg => ?_))
    exact av x_ rfl (-1) ⟨by omega, by omega, fun h => by omega⟩ rfl (.nil R) (.refl _) (.tmp _ _ rfl) rfl
  · repeat' (first | refine W_ ?_ | refine c_ (fun hc => ?_) (fun hc => ?_) | refine g_ (fun hg => ?_) (fun hg => ?_))
    apply aj (X := Nat × Int) [0, 1000000] (fun x => [(5, .int .i64 (x.1 : Int)), (1, .int .i64 x.2)]) (fun _ => R) (fun x => x.1 ≤ l.length ∧ 0 ≤ x.2 ∧ x.2 ≤ left ∧ ∀ y ∈ l.take x.1, ByteArray.size y ≤ 1048576) (fun x => l.length - x.1) (0, left - l.length) ⟨Nat.zero_le _, by dsimp only; omega, by dsimp only; omega, by simp⟩
    exact kp_; exact nw_
    · exact .refl _
    rintro ⟨i, lf⟩ ⟨hi, h0, h1, hs⟩
    dsimp only at hi h0 h1 hs ⊢
    by_cases hlt : i < l.length
    · have hrow := dG hlt
      have hbi := hb.2 _ (List.getElem_mem hlt)
      have hta := aT (p := fun y => ByteArray.size y ≤ 1048576) hlt hs
      generalize l[i] = x at hrow hbi hta
      repeat' (first | refine W_ ?_ | refine c_ (fun hc => ?_) (fun hc => ?_) | refine g_ (fun hg => ?_) (fun hg => ?_))
      all_goals first
        | exact av x_ rfl (-1) ⟨by omega, by omega, fun h => by omega⟩ rfl (.nil R) (.refl _) (.tmp _ _ rfl) rfl
        | exact ah (i + 1, lf - x.size) ⟨by dsimp only; omega, by dsimp only; omega, by dsimp only; omega, hta (by omega)⟩ (by dsimp only; omega) (.of _ nw_ od_ pk_)
    · rw [List.take_of_length_le (by omega)] at hs
      repeat' (first | refine W_ ?_ | refine c_ (fun hc => ?_) (fun hc => ?_) | refine g_ (fun hg => ?_) (fun hg => ?_))
      exact av x_ rfl lf ⟨by omega, by omega, fun _ => ⟨by omega, hs⟩⟩ rfl (.nil R) (.refl _) (.tmp _ _ rfl) rfl
theorem kU (_hst : az G) (lo : Nat) (l : List ByteArray) (hn : l.length ≤ 1048576) : Ct Tryz.prog G 174 [.sl lo 1 (bE l)] (fun K => .sl K 1 (bE l)) := by
  refine ao Tryz.func174 rfl Tryz.ntmps174 rfl rfl fun w0 _ hG => ?_
  have hlen := bf l
  have h0 := bC (fun s : ByteArray => [TV.str s]) [.str ⟨#[]⟩] l
  repeat' (first | refine W_ ?_ | (refine de ?_; intro ss bb) | refine c_ (fun hc => ?_) (fun hc => ?_) | refine g_ (fun hg => ?_) (fun hg => ?_))
  apply aj (X := Nat) [0, 3] (fun i => [(4, .int .i64 (i : Int))]) (fun i => [(ss, bb, .row 1 (cI (fun s : ByteArray => [TV.str s]) [.str ⟨#[]⟩] l i))]) (fun i => i ≤ l.length) (fun i => l.length - i) 0 (Nat.zero_le _)
  exact kp_; exact nw_
  · rw [← h0]; exact .refl _
  intro i hi
  try dsimp only
  by_cases hlt : i < l.length
  · obtain ⟨hrow, hset⟩ := bQ (fun s : ByteArray => [TV.str s]) [.str ⟨#[]⟩] hlt
    have hra := dG hlt
    generalize l[i] = x at hset hra
    try dsimp only at hset
    repeat' (first | refine W_ ?_ | refine a6 ?_ | refine c_ (fun hc => ?_) (fun hc => ?_) | refine g_ (fun hg => ?_) (fun hg => ?_))
    refine ah (i + 1) (by omega) (by omega) (.of _ nw_ od_ (by rw [← hset]; exact .refl _))
  · obtain rfl : i = l.length := by omega
    rw [bB]
    repeat' (first | refine W_ ?_ | refine c_ (fun hc => ?_) (fun hc => ?_) | refine g_ (fun hg => ?_) (fun hg => ?_))
    refine aB x_ rfl (.tmp _ _ rfl) (fun _ => ?_)
    exact eK (fun x => .cons (.flat rfl) .nil) List.mem_cons_self
theorem gS (l1 l2 : Nat) (l : List ByteArray) (hn : l.length ≤ 1048576) : Ct Tryz.prog G 27 [.sl l1 1 (bE l), .sl l2 1 (bE l)] (fun _ => .bool true) := by
  refine ao Tryz.func27 rfl Tryz.ntmps27 rfl rfl fun w0 _ hG => ?_
  have hlen := bf l
  repeat' (first | refine W_ ?_ | refine c_ (fun hc => ?_) (fun hc => ?_) | refine g_ (fun hg => ?_) (fun hg => ?_))
  apply aj (X := Nat) [0, 1] (fun i => [(5, .int .i64 (i : Int))]) (fun _ => []) (fun i => i ≤ l.length) (fun i => l.length - i) 0 (Nat.zero_le _)
  exact kp_; exact nw_
  · exact .refl _
  intro i hi
  try dsimp only
  by_cases hlt : i < l.length
  · have hrow := dG hlt
    generalize l[i] = x at hrow
    have hx : ¬ x ≠ x := fun h => h rfl
    repeat' (first | refine V_ ?_ | refine c_ (fun hc => ?_) (fun hc => ?_) | refine g_ (fun hg => ?_) (fun hg => ?_))
    exact ah (i + 1) (by omega) (by omega) (.of _ nw_ od_ pk_)
  · repeat' (first | refine W_ ?_ | refine c_ (fun hc => ?_) (fun hc => ?_) | refine g_ (fun hg => ?_) (fun hg => ?_))
    exact r1_
end
def ag.tw (_lo : Nat) (x : ag) : List TV := [.int .i64 x.op, .int .i64 x.a, .int .i64 x.b, .str x.text]
def ag.small (n : Nat) (x : ag) : Prop := (x.text.size ≤ n)
def ag.tz : List TV := [.int .i64 0, .int .i64 0, .int .i64 0, .str ⟨#[]⟩]
theorem ag.fin (B K : Nat) (objs : aI) (x : ag) : im B objs K (x.tw B) (x.tw K) := .cons (.flat rfl) (.cons (.flat rfl) (.cons (.flat rfl) (.cons (.flat rfl) (.nil))))
theorem ag.len (lo : Nat) (l : List ag) : (l.map (ag.tw lo)).length = l.length := by simp
section
variable {G : World → Prop}
theorem wb (_hst : az G) (lo : Nat) (x : ag) (left : Int) (h : 0 ≤ left ∧ left ≤ 1048576) (hb : x.small 9223372036854775807) : CtM Tryz.prog G 251 [.agg (x.tw lo), .int .i64 left] [] (fun y : Int => -1 ≤ y ∧ y ≤ left ∧ (0 ≤ y → x.small 1048576)) (fun _ => []) (fun y => .int .i64 y) := by
  refine aC Tryz.func251 rfl Tryz.ntmps251 rfl rfl rfl fun w0 R gs objsR hG hR => ?_
  obtain rfl := hR.inv0
  clear hR
  unfold ag.small at hb
  have hb1 : x.text.size ≤ 9223372036854775807 := hb
  unfold ag.tw
  repeat' (first | refine W_ ?_ | refine aE ?_ | refine c_ (fun hc => ?_) (fun hc => ?_) | refine g_ (fun hg => ?_) (fun hg => ?_))
  all_goals first
    | exact av x_ rfl (-1) ⟨by omega, by omega, fun h => by omega⟩ rfl (.nil R) (.refl _) (.tmp _ _ rfl) rfl
    | (refine av x_ rfl _ ⟨?_, ?_, fun _ => ?_⟩ rfl (.nil R) (.refl _) (.tmp _ _ rfl) rfl
       · omega
       · omega
       · show _ ≤ _; omega)
theorem ut (hst : az G) (lo : Nat) (l : List ag) (left : Int) (h : 0 ≤ left ∧ left ≤ 1048576) (hb : l.length ≤ 9223372036854775807 ∧ ∀ y ∈ l, ag.small 9223372036854775807 y) : CtM Tryz.prog G 198 [.sl lo 4 (l.map (ag.tw lo)), .int .i64 left] [] (fun y : Int => -1 ≤ y ∧ y ≤ left ∧ (0 ≤ y → l.length ≤ 1048576 ∧ ∀ y ∈ l, ag.small 1048576 y)) (fun _ => []) (fun y => .int .i64 y) := by
  refine aC Tryz.func198 rfl Tryz.ntmps198 rfl rfl rfl fun w0 R gs objsR hG hR => ?_
  obtain rfl := hR.inv0
  clear hR
  have hlen := ag.len lo l
  have hl1 := hb.1
  by_cases hn : left - l.length < 0
  · repeat' (first | refine W_ ?_ | refine c_ (fun hc => ?_) (fun hc => ?_) | refine g_ (fun hg => ?_) (fun hg => ?_))
    exact av x_ rfl (-1) ⟨by omega, by omega, fun h => by omega⟩ rfl (.nil R) (.refl _) (.tmp _ _ rfl) rfl
  · repeat' (first | refine W_ ?_ | refine c_ (fun hc => ?_) (fun hc => ?_) | refine g_ (fun hg => ?_) (fun hg => ?_))
    apply aj (X := Nat × Int) [0, 1000000] (fun x => [(5, .int .i64 (x.1 : Int)), (1, .int .i64 x.2)]) (fun _ => R) (fun x => x.1 ≤ l.length ∧ 0 ≤ x.2 ∧ x.2 ≤ left ∧ ∀ y ∈ l.take x.1, ag.small 1048576 y) (fun x => l.length - x.1) (0, left - l.length) ⟨Nat.zero_le _, by dsimp only; omega, by dsimp only; omega, by simp⟩
    exact kp_; exact nw_
    · exact .refl _
    rintro ⟨i, lf⟩ ⟨hi, h0, h1, hs⟩
    dsimp only at hi h0 h1 hs ⊢
    by_cases hlt : i < l.length
    · have hrow : (l.map (ag.tw lo))[i]? = some (l[i].tw lo) := aH hlt
      have hbi := hb.2 _ (List.getElem_mem hlt)
      have hta := aT (p := ag.small 1048576) hlt hs
      generalize l[i] = x at hrow hbi hta
      have hct := wb hst lo x lf (by omega) hbi
      unfold ag.tw at hct
      rw [show x.tw lo = [.int .i64 x.op, .int .i64 x.a, .int .i64 x.b, .str x.text] from rfl] at hrow
      repeat' (first | refine W_ ?_ | ((with_reducible apply aF); rfl; kernel_rfl; (repeat (first | exact aD.nil | ((with_reducible apply aD.cons); rfl))); exact hG; exact hct; exact .nil _; intro y hy; refine bD ?_) | refine c_ (fun hc => ?_) (fun hc => ?_) | refine g_ (fun hg => ?_) (fun hg => ?_))
      all_goals first
        | exact av x_ rfl (-1) ⟨by omega, by omega, fun h => by omega⟩ rfl (.nil R) (.refl _) (.tmp _ _ rfl) rfl
        | exact ah (i + 1, y) ⟨by dsimp only; omega, by dsimp only; omega, by dsimp only; omega, hta (hy.2.2 (by omega))⟩ (by dsimp only; omega) (.of _ nw_ od_ pk_)
    · rw [List.take_of_length_le (by omega)] at hs
      repeat' (first | refine W_ ?_ | refine c_ (fun hc => ?_) (fun hc => ?_) | refine g_ (fun hg => ?_) (fun hg => ?_))
      exact av x_ rfl lf ⟨by omega, by omega, fun _ => ⟨by omega, hs⟩⟩ rfl (.nil R) (.refl _) (.tmp _ _ rfl) rfl
theorem oH (_hst : az G) (lo : Nat) (x : ag) (_hb : x.small 1048576) : Ct Tryz.prog G 262 [.agg (x.tw lo)] (fun K => .agg (x.tw K)) := by
  refine ao Tryz.func262 rfl Tryz.ntmps262 rfl rfl fun w0 _ hG => ?_
  unfold ag.small at _hb
  skip
  repeat' (first | refine W_ ?_ | refine aE ?_ | (refine ai ?_; intro ss bb) | refine ad ?_ | refine c_ (fun hc => ?_) (fun hc => ?_) | refine g_ (fun hg => ?_) (fun hg => ?_))
  refine aB x_ rfl (.cell _ _ _ _ _ rfl mm_ (by kernel_rfl) (by kernel_rfl) (by kernel_rfl)) (fun _ => ?_)
  exact eg (ag.fin _ _ _ x)
theorem sZ (hst : az G) (lo : Nat) (l : List ag) (hb : l.length ≤ 1048576 ∧ ∀ y ∈ l, ag.small 1048576 y) : Ct Tryz.prog G 208 [.sl lo 4 (l.map (ag.tw lo))] (fun K => .sl K 4 (l.map (ag.tw K))) := by
  refine ao Tryz.func208 rfl Tryz.ntmps208 rfl rfl fun w0 _ hG => ?_
  have hlen := ag.len lo l
  have hl1 := hb.1
  have h0 := bC (ag.tw w0.heap.size) ag.tz l
  repeat' (first | refine W_ ?_ | (refine de ?_; intro ss bb) | refine c_ (fun hc => ?_) (fun hc => ?_) | refine g_ (fun hg => ?_) (fun hg => ?_))
  apply aj (X := Nat) [0, 3] (fun i => [(4, .int .i64 (i : Int))]) (fun i => [(ss, bb, .row 4 (cI (ag.tw w0.heap.size) ag.tz l i))]) (fun i => i ≤ l.length) (fun i => l.length - i) 0 (Nat.zero_le _)
  exact kp_; exact nw_
  · rw [← h0]; exact .refl _
  intro i hi
  try dsimp only
  by_cases hlt : i < l.length
  · obtain ⟨hrow, hset⟩ := bQ (ag.tw w0.heap.size) ag.tz hlt
    have hra : (l.map (ag.tw lo))[i]? = some (l[i].tw lo) := aH hlt
    have hbi := hb.2 _ (List.getElem_mem hlt)
    generalize l[i] = x at hset hra hbi
    have hct := oH hst lo x hbi
    unfold ag.tw at hct
    rw [show x.tw lo = [.int .i64 x.op, .int .i64 x.a, .int .i64 x.b, .str x.text] from rfl] at hra
    replace hrow : (cI (ag.tw w0.heap.size) ag.tz l i)[i]? = some [.int .i64 0, .int .i64 0, .int .i64 0, .str ⟨#[]⟩] := hrow
    repeat' (first | refine W_ ?_ | refine ab hG hst (hct) ?_ | refine a6 ?_ | refine c_ (fun hc => ?_) (fun hc => ?_) | refine g_ (fun hg => ?_) (fun hg => ?_))
    refine ah (i + 1) (by omega) (by omega) (.of _ nw_ od_ (by rw [← hset]; exact .refl _))
  · obtain rfl : i = l.length := by omega
    rw [bB]
    repeat' (first | refine W_ ?_ | refine c_ (fun hc => ?_) (fun hc => ?_) | refine g_ (fun hg => ?_) (fun hg => ?_))
    refine aB x_ rfl (.tmp _ _ rfl) (fun _ => ?_)
    exact eK (fun x => ag.fin _ _ _ x) List.mem_cons_self
theorem wV (_hst : az G) (l1 l2 : Nat) (x : ag) (_hb : x.small 1048576) : Ct Tryz.prog G 272 [.agg (x.tw l1), .agg (x.tw l2)] (fun _ => .bool true) := by
  refine ao Tryz.func272 rfl Tryz.ntmps272 rfl rfl fun w0 _ hG => ?_
  unfold ag.small at _hb
  have hnetext : ¬ x.text ≠ x.text := fun h => h rfl
  unfold ag.tw
  repeat' (first | refine W_ ?_ | refine aE ?_ | refine c_ (fun hc => ?_) (fun hc => ?_) | refine g_ (fun hg => ?_) (fun hg => ?_))
  all_goals first
    | (exfalso; simp at hc; done)
    | (exact r1_)
theorem sT (hst : az G) (l1 l2 : Nat) (l : List ag) (hb : l.length ≤ 1048576 ∧ ∀ y ∈ l, ag.small 1048576 y) : Ct Tryz.prog G 225 [.sl l1 4 (l.map (ag.tw l1)), .sl l2 4 (l.map (ag.tw l2))] (fun _ => .bool true) := by
  refine ao Tryz.func225 rfl Tryz.ntmps225 rfl rfl fun w0 _ hG => ?_
  have hlen := ag.len l1 l
  have hlen2 := ag.len l2 l
  have hl1 := hb.1
  repeat' (first | refine W_ ?_ | refine c_ (fun hc => ?_) (fun hc => ?_) | refine g_ (fun hg => ?_) (fun hg => ?_))
  apply aj (X := Nat) [0, 1] (fun i => [(5, .int .i64 (i : Int))]) (fun _ => []) (fun i => i ≤ l.length) (fun i => l.length - i) 0 (Nat.zero_le _)
  exact kp_; exact nw_
  · exact .refl _
  intro i hi
  try dsimp only
  by_cases hlt : i < l.length
  · have hr1 : (l.map (ag.tw l1))[i]? = some (l[i].tw l1) := aH hlt
    have hr2 : (l.map (ag.tw l2))[i]? = some (l[i].tw l2) := aH hlt
    have hbi := hb.2 _ (List.getElem_mem hlt)
    generalize l[i] = x at hr1 hr2 hbi
    have hct := wV hst l1 l2 x hbi
    unfold ag.tw at hct
    rw [show x.tw l1 = [.int .i64 x.op, .int .i64 x.a, .int .i64 x.b, .str x.text] from rfl] at hr1
    rw [show x.tw l2 = [.int .i64 x.op, .int .i64 x.a, .int .i64 x.b, .str x.text] from rfl] at hr2
    repeat' (first | refine V_ ?_ | refine ac hG hst (hct) ?_ | refine ab hG hst (hct) ?_ | refine c_ (fun hc => ?_) (fun hc => ?_) | refine g_ (fun hg => ?_) (fun hg => ?_))
    exact ah (i + 1) (by omega) (by omega) (.of _ nw_ od_ pk_)
  · repeat' (first | refine W_ ?_ | refine c_ (fun hc => ?_) (fun hc => ?_) | refine g_ (fun hg => ?_) (fun hg => ?_))
    exact r1_
end
def ay.tw (lo : Nat) (x : ay) : List TV := [.bool x.block, .int .i64 x.params, .int .i64 x.slots, .sl lo 4 (x.instrs.map (ag.tw lo))]
def ay.small (n : Nat) (x : ay) : Prop := (x.instrs.length ≤ n ∧ ∀ y ∈ x.instrs, ag.small n y)
def ay.tz : List TV := [.bool false, .int .i64 0, .int .i64 0, .nils]
theorem ay.fin (B K : Nat) (objs : aI) (x : ay) : im B objs K (x.tw B) (x.tw K) := .cons (.flat rfl) (.cons (.flat rfl) (.cons (.flat rfl) (.cons (cn (fun x => ag.fin B K objs x) _) (.nil))))
theorem ay.len (lo : Nat) (l : List ay) : (l.map (ay.tw lo)).length = l.length := by simp
section
variable {G : World → Prop}
theorem xD (hst : az G) (lo : Nat) (x : ay) (left : Int) (h : 0 ≤ left ∧ left ≤ 1048576) (hb : x.small 9223372036854775807) : CtM Tryz.prog G 123 [.agg (x.tw lo), .int .i64 left] [] (fun y : Int => -1 ≤ y ∧ y ≤ left ∧ (0 ≤ y → x.small 1048576)) (fun _ => []) (fun y => .int .i64 y) := by
  refine aC Tryz.func123 rfl Tryz.ntmps123 rfl rfl rfl fun w0 R gs objsR hG hR => ?_
  obtain rfl := hR.inv0
  clear hR
  unfold ay.small at hb
  skip
  unfold ay.tw
  repeat' (first | refine W_ ?_ | refine aE ?_ | ((with_reducible apply aF); rfl; kernel_rfl; (repeat (first | exact aD.nil | ((with_reducible apply aD.cons); rfl))); exact hG; exact ut hst lo x.instrs _ (by omega) hb; exact .nil _; intro y1 hy1; refine bD ?_) | refine c_ (fun hc => ?_) (fun hc => ?_) | refine g_ (fun hg => ?_) (fun hg => ?_))
  all_goals first
    | exact av x_ rfl (-1) ⟨by omega, by omega, fun h => by omega⟩ rfl (.nil R) (.refl _) (.tmp _ _ rfl) rfl
    | (refine av x_ rfl _ ⟨?_, ?_, fun _ => ?_⟩ rfl (.nil R) (.refl _) (.tmp _ _ rfl) rfl
       · omega
       · omega
       · exact hy1.2.2 (by omega))
theorem wX (hst : az G) (lo : Nat) (l : List ay) (left : Int) (h : 0 ≤ left ∧ left ≤ 1048576) (hb : l.length ≤ 9223372036854775807 ∧ ∀ y ∈ l, ay.small 9223372036854775807 y) : CtM Tryz.prog G 46 [.sl lo 4 (l.map (ay.tw lo)), .int .i64 left] [] (fun y : Int => -1 ≤ y ∧ y ≤ left ∧ (0 ≤ y → l.length ≤ 1048576 ∧ ∀ y ∈ l, ay.small 1048576 y)) (fun _ => []) (fun y => .int .i64 y) := by
  refine aC Tryz.func46 rfl Tryz.ntmps46 rfl rfl rfl fun w0 R gs objsR hG hR => ?_
  obtain rfl := hR.inv0
  clear hR
  have hlen := ay.len lo l
  have hl1 := hb.1
  by_cases hn : left - l.length < 0
  · repeat' (first | refine W_ ?_ | refine c_ (fun hc => ?_) (fun hc => ?_) | refine g_ (fun hg => ?_) (fun hg => ?_))
    exact av x_ rfl (-1) ⟨by omega, by omega, fun h => by omega⟩ rfl (.nil R) (.refl _) (.tmp _ _ rfl) rfl
  · repeat' (first | refine W_ ?_ | refine c_ (fun hc => ?_) (fun hc => ?_) | refine g_ (fun hg => ?_) (fun hg => ?_))
    apply aj (X := Nat × Int) [0, 1000000] (fun x => [(5, .int .i64 (x.1 : Int)), (1, .int .i64 x.2)]) (fun _ => R) (fun x => x.1 ≤ l.length ∧ 0 ≤ x.2 ∧ x.2 ≤ left ∧ ∀ y ∈ l.take x.1, ay.small 1048576 y) (fun x => l.length - x.1) (0, left - l.length) ⟨Nat.zero_le _, by dsimp only; omega, by dsimp only; omega, by simp⟩
    exact kp_; exact nw_
    · exact .refl _
    rintro ⟨i, lf⟩ ⟨hi, h0, h1, hs⟩
    dsimp only at hi h0 h1 hs ⊢
    by_cases hlt : i < l.length
    · have hrow : (l.map (ay.tw lo))[i]? = some (l[i].tw lo) := aH hlt
      have hbi := hb.2 _ (List.getElem_mem hlt)
      have hta := aT (p := ay.small 1048576) hlt hs
      generalize l[i] = x at hrow hbi hta
      have hct := xD hst lo x lf (by omega) hbi
      unfold ay.tw at hct
      rw [show x.tw lo = [.bool x.block, .int .i64 x.params, .int .i64 x.slots, .sl lo 4 (x.instrs.map (ag.tw lo))] from rfl] at hrow
      repeat' (first | refine W_ ?_ | ((with_reducible apply aF); rfl; kernel_rfl; (repeat (first | exact aD.nil | ((with_reducible apply aD.cons); rfl))); exact hG; exact hct; exact .nil _; intro y hy; refine bD ?_) | refine c_ (fun hc => ?_) (fun hc => ?_) | refine g_ (fun hg => ?_) (fun hg => ?_))
      all_goals first
        | exact av x_ rfl (-1) ⟨by omega, by omega, fun h => by omega⟩ rfl (.nil R) (.refl _) (.tmp _ _ rfl) rfl
        | exact ah (i + 1, y) ⟨by dsimp only; omega, by dsimp only; omega, by dsimp only; omega, hta (hy.2.2 (by omega))⟩ (by dsimp only; omega) (.of _ nw_ od_ pk_)
    · rw [List.take_of_length_le (by omega)] at hs
      repeat' (first | refine W_ ?_ | refine c_ (fun hc => ?_) (fun hc => ?_) | refine g_ (fun hg => ?_) (fun hg => ?_))
      exact av x_ rfl lf ⟨by omega, by omega, fun _ => ⟨by omega, hs⟩⟩ rfl (.nil R) (.refl _) (.tmp _ _ rfl) rfl
theorem x9 (hst : az G) (lo : Nat) (x : ay) (hb : x.small 1048576) : Ct Tryz.prog G 132 [.agg (x.tw lo)] (fun K => .agg (x.tw K)) := by
  refine ao Tryz.func132 rfl Tryz.ntmps132 rfl rfl fun w0 _ hG => ?_
  unfold ay.small at hb
  have hsinstrs := hb
  repeat' (first | refine W_ ?_ | refine aE ?_ | (refine ai ?_; intro ss bb) | refine ad ?_ | refine ab hG hst (sZ hst lo x.instrs (hsinstrs)) ?_ | refine c_ (fun hc => ?_) (fun hc => ?_) | refine g_ (fun hg => ?_) (fun hg => ?_))
  refine aB x_ rfl (.cell _ _ _ _ _ rfl mm_ (by kernel_rfl) (by kernel_rfl) (by kernel_rfl)) (fun _ => ?_)
  exact eg (ay.fin _ _ _ x)
theorem wY (hst : az G) (lo : Nat) (l : List ay) (hb : l.length ≤ 1048576 ∧ ∀ y ∈ l, ay.small 1048576 y) : Ct Tryz.prog G 52 [.sl lo 4 (l.map (ay.tw lo))] (fun K => .sl K 4 (l.map (ay.tw K))) := by
  refine ao Tryz.func52 rfl Tryz.ntmps52 rfl rfl fun w0 _ hG => ?_
  have hlen := ay.len lo l
  have hl1 := hb.1
  have h0 := bC (ay.tw w0.heap.size) ay.tz l
  repeat' (first | refine W_ ?_ | (refine de ?_; intro ss bb) | refine c_ (fun hc => ?_) (fun hc => ?_) | refine g_ (fun hg => ?_) (fun hg => ?_))
  apply aj (X := Nat) [0, 3] (fun i => [(4, .int .i64 (i : Int))]) (fun i => [(ss, bb, .row 4 (cI (ay.tw w0.heap.size) ay.tz l i))]) (fun i => i ≤ l.length) (fun i => l.length - i) 0 (Nat.zero_le _)
  exact kp_; exact nw_
  · rw [← h0]; exact .refl _
  intro i hi
  try dsimp only
  by_cases hlt : i < l.length
  · obtain ⟨hrow, hset⟩ := bQ (ay.tw w0.heap.size) ay.tz hlt
    have hra : (l.map (ay.tw lo))[i]? = some (l[i].tw lo) := aH hlt
    have hbi := hb.2 _ (List.getElem_mem hlt)
    generalize l[i] = x at hset hra hbi
    have hct := x9 hst lo x hbi
    unfold ay.tw at hct
    rw [show x.tw lo = [.bool x.block, .int .i64 x.params, .int .i64 x.slots, .sl lo 4 (x.instrs.map (ag.tw lo))] from rfl] at hra
    replace hrow : (cI (ay.tw w0.heap.size) ay.tz l i)[i]? = some [.bool false, .int .i64 0, .int .i64 0, .nils] := hrow
    repeat' (first | refine W_ ?_ | refine ab hG hst (hct) ?_ | refine a6 ?_ | refine c_ (fun hc => ?_) (fun hc => ?_) | refine g_ (fun hg => ?_) (fun hg => ?_))
    refine ah (i + 1) (by omega) (by omega) (.of _ nw_ od_ (by rw [← hset]; exact .refl _))
  · obtain rfl : i = l.length := by omega
    rw [bB]
    repeat' (first | refine W_ ?_ | refine c_ (fun hc => ?_) (fun hc => ?_) | refine g_ (fun hg => ?_) (fun hg => ?_))
    refine aB x_ rfl (.tmp _ _ rfl) (fun _ => ?_)
    exact eK (fun x => ay.fin _ _ _ x) List.mem_cons_self
theorem zj (hst : az G) (l1 l2 : Nat) (x : ay) (hb : x.small 1048576) : Ct Tryz.prog G 147 [.agg (x.tw l1), .agg (x.tw l2)] (fun _ => .bool true) := by
  refine ao Tryz.func147 rfl Tryz.ntmps147 rfl rfl fun w0 _ hG => ?_
  unfold ay.small at hb
  have hsinstrs := hb
  unfold ay.tw
  repeat' (first | refine W_ ?_ | refine aE ?_ | refine ab hG hst (sT hst l1 l2 x.instrs hsinstrs) ?_ | refine c_ (fun hc => ?_) (fun hc => ?_) | refine g_ (fun hg => ?_) (fun hg => ?_))
  all_goals first
    | (exfalso; simp at hc; done)
    | (exact r1_)
theorem wL (hst : az G) (l1 l2 : Nat) (l : List ay) (hb : l.length ≤ 1048576 ∧ ∀ y ∈ l, ay.small 1048576 y) : Ct Tryz.prog G 63 [.sl l1 4 (l.map (ay.tw l1)), .sl l2 4 (l.map (ay.tw l2))] (fun _ => .bool true) := by
  refine ao Tryz.func63 rfl Tryz.ntmps63 rfl rfl fun w0 _ hG => ?_
  have hlen := ay.len l1 l
  have hlen2 := ay.len l2 l
  have hl1 := hb.1
  repeat' (first | refine W_ ?_ | refine c_ (fun hc => ?_) (fun hc => ?_) | refine g_ (fun hg => ?_) (fun hg => ?_))
  apply aj (X := Nat) [0, 1] (fun i => [(5, .int .i64 (i : Int))]) (fun _ => []) (fun i => i ≤ l.length) (fun i => l.length - i) 0 (Nat.zero_le _)
  exact kp_; exact nw_
  · exact .refl _
  intro i hi
  try dsimp only
  by_cases hlt : i < l.length
  · have hr1 : (l.map (ay.tw l1))[i]? = some (l[i].tw l1) := aH hlt
    have hr2 : (l.map (ay.tw l2))[i]? = some (l[i].tw l2) := aH hlt
    have hbi := hb.2 _ (List.getElem_mem hlt)
    generalize l[i] = x at hr1 hr2 hbi
    have hct := zj hst l1 l2 x hbi
    unfold ay.tw at hct
    rw [show x.tw l1 = [.bool x.block, .int .i64 x.params, .int .i64 x.slots, .sl l1 4 (x.instrs.map (ag.tw l1))] from rfl] at hr1
    rw [show x.tw l2 = [.bool x.block, .int .i64 x.params, .int .i64 x.slots, .sl l2 4 (x.instrs.map (ag.tw l2))] from rfl] at hr2
    repeat' (first | refine V_ ?_ | refine ac hG hst (hct) ?_ | refine ab hG hst (hct) ?_ | refine c_ (fun hc => ?_) (fun hc => ?_) | refine g_ (fun hg => ?_) (fun hg => ?_))
    exact ah (i + 1) (by omega) (by omega) (.of _ nw_ od_ pk_)
  · repeat' (first | refine W_ ?_ | refine c_ (fun hc => ?_) (fun hc => ?_) | refine g_ (fun hg => ?_) (fun hg => ?_))
    exact r1_
end
def aw.tw (_lo : Nat) (x : aw) : List TV := [.int .i64 x.owner, .bool x.class_, .str x.selector, .int .i64 x.code]
def aw.small (n : Nat) (x : aw) : Prop := (x.selector.size ≤ n)
def aw.tz : List TV := [.int .i64 0, .bool false, .str ⟨#[]⟩, .int .i64 0]
theorem aw.fin (B K : Nat) (objs : aI) (x : aw) : im B objs K (x.tw B) (x.tw K) := .cons (.flat rfl) (.cons (.flat rfl) (.cons (.flat rfl) (.cons (.flat rfl) (.nil))))
theorem aw.len (lo : Nat) (l : List aw) : (l.map (aw.tw lo)).length = l.length := by simp
section
variable {G : World → Prop}
theorem wh (_hst : az G) (lo : Nat) (x : aw) (left : Int) (h : 0 ≤ left ∧ left ≤ 1048576) (hb : x.small 9223372036854775807) : CtM Tryz.prog G 124 [.agg (x.tw lo), .int .i64 left] [] (fun y : Int => -1 ≤ y ∧ y ≤ left ∧ (0 ≤ y → x.small 1048576)) (fun _ => []) (fun y => .int .i64 y) := by
  refine aC Tryz.func124 rfl Tryz.ntmps124 rfl rfl rfl fun w0 R gs objsR hG hR => ?_
  obtain rfl := hR.inv0
  clear hR
  unfold aw.small at hb
  have hb1 : x.selector.size ≤ 9223372036854775807 := hb
  unfold aw.tw
  repeat' (first | refine W_ ?_ | refine aE ?_ | refine c_ (fun hc => ?_) (fun hc => ?_) | refine g_ (fun hg => ?_) (fun hg => ?_))
  all_goals first
    | exact av x_ rfl (-1) ⟨by omega, by omega, fun h => by omega⟩ rfl (.nil R) (.refl _) (.tmp _ _ rfl) rfl
    | (refine av x_ rfl _ ⟨?_, ?_, fun _ => ?_⟩ rfl (.nil R) (.refl _) (.tmp _ _ rfl) rfl
       · omega
       · omega
       · show _ ≤ _; omega)
theorem uc (hst : az G) (lo : Nat) (l : List aw) (left : Int) (h : 0 ≤ left ∧ left ≤ 1048576) (hb : l.length ≤ 9223372036854775807 ∧ ∀ y ∈ l, aw.small 9223372036854775807 y) : CtM Tryz.prog G 47 [.sl lo 4 (l.map (aw.tw lo)), .int .i64 left] [] (fun y : Int => -1 ≤ y ∧ y ≤ left ∧ (0 ≤ y → l.length ≤ 1048576 ∧ ∀ y ∈ l, aw.small 1048576 y)) (fun _ => []) (fun y => .int .i64 y) := by
  refine aC Tryz.func47 rfl Tryz.ntmps47 rfl rfl rfl fun w0 R gs objsR hG hR => ?_
  obtain rfl := hR.inv0
  clear hR
  have hlen := aw.len lo l
  have hl1 := hb.1
  by_cases hn : left - l.length < 0
  · repeat' (first | refine W_ ?_ | refine c_ (fun hc => ?_) (fun hc => ?_) | refine g_ (fun hg => ?_) (fun hg => ?_))
    exact av x_ rfl (-1) ⟨by omega, by omega, fun h => by omega⟩ rfl (.nil R) (.refl _) (.tmp _ _ rfl) rfl
  · repeat' (first | refine W_ ?_ | refine c_ (fun hc => ?_) (fun hc => ?_) | refine g_ (fun hg => ?_) (fun hg => ?_))
    apply aj (X := Nat × Int) [0, 1000000] (fun x => [(5, .int .i64 (x.1 : Int)), (1, .int .i64 x.2)]) (fun _ => R) (fun x => x.1 ≤ l.length ∧ 0 ≤ x.2 ∧ x.2 ≤ left ∧ ∀ y ∈ l.take x.1, aw.small 1048576 y) (fun x => l.length - x.1) (0, left - l.length) ⟨Nat.zero_le _, by dsimp only; omega, by dsimp only; omega, by simp⟩
    exact kp_; exact nw_
    · exact .refl _
    rintro ⟨i, lf⟩ ⟨hi, h0, h1, hs⟩
    dsimp only at hi h0 h1 hs ⊢
    by_cases hlt : i < l.length
    · have hrow : (l.map (aw.tw lo))[i]? = some (l[i].tw lo) := aH hlt
      have hbi := hb.2 _ (List.getElem_mem hlt)
      have hta := aT (p := aw.small 1048576) hlt hs
      generalize l[i] = x at hrow hbi hta
      have hct := wh hst lo x lf (by omega) hbi
      unfold aw.tw at hct
      rw [show x.tw lo = [.int .i64 x.owner, .bool x.class_, .str x.selector, .int .i64 x.code] from rfl] at hrow
      repeat' (first | refine W_ ?_ | ((with_reducible apply aF); rfl; kernel_rfl; (repeat (first | exact aD.nil | ((with_reducible apply aD.cons); rfl))); exact hG; exact hct; exact .nil _; intro y hy; refine bD ?_) | refine c_ (fun hc => ?_) (fun hc => ?_) | refine g_ (fun hg => ?_) (fun hg => ?_))
      all_goals first
        | exact av x_ rfl (-1) ⟨by omega, by omega, fun h => by omega⟩ rfl (.nil R) (.refl _) (.tmp _ _ rfl) rfl
        | exact ah (i + 1, y) ⟨by dsimp only; omega, by dsimp only; omega, by dsimp only; omega, hta (hy.2.2 (by omega))⟩ (by dsimp only; omega) (.of _ nw_ od_ pk_)
    · rw [List.take_of_length_le (by omega)] at hs
      repeat' (first | refine W_ ?_ | refine c_ (fun hc => ?_) (fun hc => ?_) | refine g_ (fun hg => ?_) (fun hg => ?_))
      exact av x_ rfl lf ⟨by omega, by omega, fun _ => ⟨by omega, hs⟩⟩ rfl (.nil R) (.refl _) (.tmp _ _ rfl) rfl
theorem pb (_hst : az G) (lo : Nat) (x : aw) (_hb : x.small 1048576) : Ct Tryz.prog G 133 [.agg (x.tw lo)] (fun K => .agg (x.tw K)) := by
  refine ao Tryz.func133 rfl Tryz.ntmps133 rfl rfl fun w0 _ hG => ?_
  unfold aw.small at _hb
  skip
  repeat' (first | refine W_ ?_ | refine aE ?_ | (refine ai ?_; intro ss bb) | refine ad ?_ | refine c_ (fun hc => ?_) (fun hc => ?_) | refine g_ (fun hg => ?_) (fun hg => ?_))
  refine aB x_ rfl (.cell _ _ _ _ _ rfl mm_ (by kernel_rfl) (by kernel_rfl) (by kernel_rfl)) (fun _ => ?_)
  exact eg (aw.fin _ _ _ x)
theorem tU (hst : az G) (lo : Nat) (l : List aw) (hb : l.length ≤ 1048576 ∧ ∀ y ∈ l, aw.small 1048576 y) : Ct Tryz.prog G 53 [.sl lo 4 (l.map (aw.tw lo))] (fun K => .sl K 4 (l.map (aw.tw K))) := by
  refine ao Tryz.func53 rfl Tryz.ntmps53 rfl rfl fun w0 _ hG => ?_
  have hlen := aw.len lo l
  have hl1 := hb.1
  have h0 := bC (aw.tw w0.heap.size) aw.tz l
  repeat' (first | refine W_ ?_ | (refine de ?_; intro ss bb) | refine c_ (fun hc => ?_) (fun hc => ?_) | refine g_ (fun hg => ?_) (fun hg => ?_))
  apply aj (X := Nat) [0, 3] (fun i => [(4, .int .i64 (i : Int))]) (fun i => [(ss, bb, .row 4 (cI (aw.tw w0.heap.size) aw.tz l i))]) (fun i => i ≤ l.length) (fun i => l.length - i) 0 (Nat.zero_le _)
  exact kp_; exact nw_
  · rw [← h0]; exact .refl _
  intro i hi
  try dsimp only
  by_cases hlt : i < l.length
  · obtain ⟨hrow, hset⟩ := bQ (aw.tw w0.heap.size) aw.tz hlt
    have hra : (l.map (aw.tw lo))[i]? = some (l[i].tw lo) := aH hlt
    have hbi := hb.2 _ (List.getElem_mem hlt)
    generalize l[i] = x at hset hra hbi
    have hct := pb hst lo x hbi
    unfold aw.tw at hct
    rw [show x.tw lo = [.int .i64 x.owner, .bool x.class_, .str x.selector, .int .i64 x.code] from rfl] at hra
    replace hrow : (cI (aw.tw w0.heap.size) aw.tz l i)[i]? = some [.int .i64 0, .bool false, .str ⟨#[]⟩, .int .i64 0] := hrow
    repeat' (first | refine W_ ?_ | refine ab hG hst (hct) ?_ | refine a6 ?_ | refine c_ (fun hc => ?_) (fun hc => ?_) | refine g_ (fun hg => ?_) (fun hg => ?_))
    refine ah (i + 1) (by omega) (by omega) (.of _ nw_ od_ (by rw [← hset]; exact .refl _))
  · obtain rfl : i = l.length := by omega
    rw [bB]
    repeat' (first | refine W_ ?_ | refine c_ (fun hc => ?_) (fun hc => ?_) | refine g_ (fun hg => ?_) (fun hg => ?_))
    refine aB x_ rfl (.tmp _ _ rfl) (fun _ => ?_)
    exact eK (fun x => aw.fin _ _ _ x) List.mem_cons_self
theorem wU (_hst : az G) (l1 l2 : Nat) (x : aw) (_hb : x.small 1048576) : Ct Tryz.prog G 148 [.agg (x.tw l1), .agg (x.tw l2)] (fun _ => .bool true) := by
  refine ao Tryz.func148 rfl Tryz.ntmps148 rfl rfl fun w0 _ hG => ?_
  unfold aw.small at _hb
  have hneselector : ¬ x.selector ≠ x.selector := fun h => h rfl
  unfold aw.tw
  repeat' (first | refine W_ ?_ | refine aE ?_ | refine c_ (fun hc => ?_) (fun hc => ?_) | refine g_ (fun hg => ?_) (fun hg => ?_))
  all_goals first
    | (exfalso; simp at hc; done)
    | (exact r1_)
theorem ud (hst : az G) (l1 l2 : Nat) (l : List aw) (hb : l.length ≤ 1048576 ∧ ∀ y ∈ l, aw.small 1048576 y) : Ct Tryz.prog G 64 [.sl l1 4 (l.map (aw.tw l1)), .sl l2 4 (l.map (aw.tw l2))] (fun _ => .bool true) := by
  refine ao Tryz.func64 rfl Tryz.ntmps64 rfl rfl fun w0 _ hG => ?_
  have hlen := aw.len l1 l
  have hlen2 := aw.len l2 l
  have hl1 := hb.1
  repeat' (first | refine W_ ?_ | refine c_ (fun hc => ?_) (fun hc => ?_) | refine g_ (fun hg => ?_) (fun hg => ?_))
  apply aj (X := Nat) [0, 1] (fun i => [(5, .int .i64 (i : Int))]) (fun _ => []) (fun i => i ≤ l.length) (fun i => l.length - i) 0 (Nat.zero_le _)
  exact kp_; exact nw_
  · exact .refl _
  intro i hi
  try dsimp only
  by_cases hlt : i < l.length
  · have hr1 : (l.map (aw.tw l1))[i]? = some (l[i].tw l1) := aH hlt
    have hr2 : (l.map (aw.tw l2))[i]? = some (l[i].tw l2) := aH hlt
    have hbi := hb.2 _ (List.getElem_mem hlt)
    generalize l[i] = x at hr1 hr2 hbi
    have hct := wU hst l1 l2 x hbi
    unfold aw.tw at hct
    rw [show x.tw l1 = [.int .i64 x.owner, .bool x.class_, .str x.selector, .int .i64 x.code] from rfl] at hr1
    rw [show x.tw l2 = [.int .i64 x.owner, .bool x.class_, .str x.selector, .int .i64 x.code] from rfl] at hr2
    repeat' (first | refine V_ ?_ | refine ac hG hst (hct) ?_ | refine ab hG hst (hct) ?_ | refine c_ (fun hc => ?_) (fun hc => ?_) | refine g_ (fun hg => ?_) (fun hg => ?_))
    exact ah (i + 1) (by omega) (by omega) (.of _ nw_ od_ pk_)
  · repeat' (first | refine W_ ?_ | refine c_ (fun hc => ?_) (fun hc => ?_) | refine g_ (fun hg => ?_) (fun hg => ?_))
    exact r1_
end
def aa.tw (lo : Nat) (x : aa) : List TV := [.str x.name, .int .i64 x.parent, .sl lo 1 (bE x.fields)]
def aa.small (n : Nat) (x : aa) : Prop := (x.name.size ≤ n) ∧ (x.fields.length ≤ n ∧ ∀ y ∈ x.fields, ByteArray.size y ≤ n)
def aa.tz : List TV := [.str ⟨#[]⟩, .int .i64 0, .nils]
theorem aa.fin (B K : Nat) (objs : aI) (_x : aa) : im B objs K (_x.tw B) (_x.tw K) := .cons (.flat rfl) (.cons (.flat rfl) (.cons (cn (fun _x => .cons (.flat rfl) .nil) _) (.nil)))
theorem aa.len (lo : Nat) (l : List aa) : (l.map (aa.tw lo)).length = l.length := by simp
section
variable {G : World → Prop}
theorem nH (_hst : az G) (lo : Nat) (x : aa) (left : Int) (h : 0 ≤ left ∧ left ≤ 1048576) (hb : x.small 9223372036854775807) : CtM Tryz.prog G 122 [.agg (x.tw lo), .int .i64 left] [] (fun y : Int => -1 ≤ y ∧ y ≤ left ∧ (0 ≤ y → x.small 1048576)) (fun _ => []) (fun y => .int .i64 y) := by
  refine aC Tryz.func122 rfl Tryz.ntmps122 rfl rfl rfl fun w0 R gs objsR hG hR => ?_
  obtain rfl := hR.inv0
  clear hR
  unfold aa.small at hb
  have hb1 : x.name.size ≤ 9223372036854775807 := hb.1
  unfold aa.tw
  repeat' (first | refine W_ ?_ | refine aE ?_ | ((with_reducible apply aF); rfl; kernel_rfl; (repeat (first | exact aD.nil | ((with_reducible apply aD.cons); rfl))); exact hG; exact li lo x.fields _ (by omega) hb.2; exact .nil _; intro y2 hy2; refine bD ?_) | refine c_ (fun hc => ?_) (fun hc => ?_) | refine g_ (fun hg => ?_) (fun hg => ?_))
  all_goals first
    | exact av x_ rfl (-1) ⟨by omega, by omega, fun h => by omega⟩ rfl (.nil R) (.refl _) (.tmp _ _ rfl) rfl
    | (refine av x_ rfl _ ⟨?_, ?_, fun _ => ?_⟩ rfl (.nil R) (.refl _) (.tmp _ _ rfl) rfl
       · omega
       · omega
       · exact ⟨by omega, hy2.2.2 (by omega)⟩)
theorem iA (hst : az G) (lo : Nat) (l : List aa) (left : Int) (h : 0 ≤ left ∧ left ≤ 1048576) (hb : l.length ≤ 9223372036854775807 ∧ ∀ y ∈ l, aa.small 9223372036854775807 y) : CtM Tryz.prog G 45 [.sl lo 3 (l.map (aa.tw lo)), .int .i64 left] [] (fun y : Int => -1 ≤ y ∧ y ≤ left ∧ (0 ≤ y → l.length ≤ 1048576 ∧ ∀ y ∈ l, aa.small 1048576 y)) (fun _ => []) (fun y => .int .i64 y) := by
  refine aC Tryz.func45 rfl Tryz.ntmps45 rfl rfl rfl fun w0 R gs objsR hG hR => ?_
  obtain rfl := hR.inv0
  clear hR
  have hlen := aa.len lo l
  have hl1 := hb.1
  by_cases hn : left - l.length < 0
  · repeat' (first | refine W_ ?_ | refine c_ (fun hc => ?_) (fun hc => ?_) | refine g_ (fun hg => ?_) (fun hg => ?_))
    exact av x_ rfl (-1) ⟨by omega, by omega, fun h => by omega⟩ rfl (.nil R) (.refl _) (.tmp _ _ rfl) rfl
  · repeat' (first | refine W_ ?_ | refine c_ (fun hc => ?_) (fun hc => ?_) | refine g_ (fun hg => ?_) (fun hg => ?_))
    apply aj (X := Nat × Int) [0, 1000000] (fun x => [(5, .int .i64 (x.1 : Int)), (1, .int .i64 x.2)]) (fun _ => R) (fun x => x.1 ≤ l.length ∧ 0 ≤ x.2 ∧ x.2 ≤ left ∧ ∀ y ∈ l.take x.1, aa.small 1048576 y) (fun x => l.length - x.1) (0, left - l.length) ⟨Nat.zero_le _, by dsimp only; omega, by dsimp only; omega, by simp⟩
    exact kp_; exact nw_
    · exact .refl _
    rintro ⟨i, lf⟩ ⟨hi, h0, h1, hs⟩
    dsimp only at hi h0 h1 hs ⊢
    by_cases hlt : i < l.length
    · have hrow : (l.map (aa.tw lo))[i]? = some (l[i].tw lo) := aH hlt
      have hbi := hb.2 _ (List.getElem_mem hlt)
      have hta := aT (p := aa.small 1048576) hlt hs
      generalize l[i] = x at hrow hbi hta
      have hct := nH hst lo x lf (by omega) hbi
      unfold aa.tw at hct
      rw [show x.tw lo = [.str x.name, .int .i64 x.parent, .sl lo 1 (bE x.fields)] from rfl] at hrow
      repeat' (first | refine W_ ?_ | ((with_reducible apply aF); rfl; kernel_rfl; (repeat (first | exact aD.nil | ((with_reducible apply aD.cons); rfl))); exact hG; exact hct; exact .nil _; intro y hy; refine bD ?_) | refine c_ (fun hc => ?_) (fun hc => ?_) | refine g_ (fun hg => ?_) (fun hg => ?_))
      all_goals first
        | exact av x_ rfl (-1) ⟨by omega, by omega, fun h => by omega⟩ rfl (.nil R) (.refl _) (.tmp _ _ rfl) rfl
        | exact ah (i + 1, y) ⟨by dsimp only; omega, by dsimp only; omega, by dsimp only; omega, hta (hy.2.2 (by omega))⟩ (by dsimp only; omega) (.of _ nw_ od_ pk_)
    · rw [List.take_of_length_le (by omega)] at hs
      repeat' (first | refine W_ ?_ | refine c_ (fun hc => ?_) (fun hc => ?_) | refine g_ (fun hg => ?_) (fun hg => ?_))
      exact av x_ rfl lf ⟨by omega, by omega, fun _ => ⟨by omega, hs⟩⟩ rfl (.nil R) (.refl _) (.tmp _ _ rfl) rfl
theorem nU (hst : az G) (lo : Nat) (x : aa) (hb : x.small 1048576) : Ct Tryz.prog G 131 [.agg (x.tw lo)] (fun K => .agg (x.tw K)) := by
  refine ao Tryz.func131 rfl Tryz.ntmps131 rfl rfl fun w0 _ hG => ?_
  unfold aa.small at hb
  have hsfields := (hb.2).1
  repeat' (first | refine W_ ?_ | refine aE ?_ | (refine ai ?_; intro ss bb) | refine ad ?_ | refine ab hG hst (kU hst lo x.fields (hsfields)) ?_ | refine c_ (fun hc => ?_) (fun hc => ?_) | refine g_ (fun hg => ?_) (fun hg => ?_))
  refine aB x_ rfl (.cell _ _ _ _ _ rfl mm_ (by kernel_rfl) (by kernel_rfl) (by kernel_rfl)) (fun _ => ?_)
  exact eg (aa.fin _ _ _ x)
theorem iB (hst : az G) (lo : Nat) (l : List aa) (hb : l.length ≤ 1048576 ∧ ∀ y ∈ l, aa.small 1048576 y) : Ct Tryz.prog G 51 [.sl lo 3 (l.map (aa.tw lo))] (fun K => .sl K 3 (l.map (aa.tw K))) := by
  refine ao Tryz.func51 rfl Tryz.ntmps51 rfl rfl fun w0 _ hG => ?_
  have hlen := aa.len lo l
  have hl1 := hb.1
  have h0 := bC (aa.tw w0.heap.size) aa.tz l
  repeat' (first | refine W_ ?_ | (refine de ?_; intro ss bb) | refine c_ (fun hc => ?_) (fun hc => ?_) | refine g_ (fun hg => ?_) (fun hg => ?_))
  apply aj (X := Nat) [0, 3] (fun i => [(4, .int .i64 (i : Int))]) (fun i => [(ss, bb, .row 3 (cI (aa.tw w0.heap.size) aa.tz l i))]) (fun i => i ≤ l.length) (fun i => l.length - i) 0 (Nat.zero_le _)
  exact kp_; exact nw_
  · rw [← h0]; exact .refl _
  intro i hi
  try dsimp only
  by_cases hlt : i < l.length
  · obtain ⟨hrow, hset⟩ := bQ (aa.tw w0.heap.size) aa.tz hlt
    have hra : (l.map (aa.tw lo))[i]? = some (l[i].tw lo) := aH hlt
    have hbi := hb.2 _ (List.getElem_mem hlt)
    generalize l[i] = x at hset hra hbi
    have hct := nU hst lo x hbi
    unfold aa.tw at hct
    rw [show x.tw lo = [.str x.name, .int .i64 x.parent, .sl lo 1 (bE x.fields)] from rfl] at hra
    replace hrow : (cI (aa.tw w0.heap.size) aa.tz l i)[i]? = some [.str ⟨#[]⟩, .int .i64 0, .nils] := hrow
    repeat' (first | refine W_ ?_ | refine ab hG hst (hct) ?_ | refine a6 ?_ | refine c_ (fun hc => ?_) (fun hc => ?_) | refine g_ (fun hg => ?_) (fun hg => ?_))
    refine ah (i + 1) (by omega) (by omega) (.of _ nw_ od_ (by rw [← hset]; exact .refl _))
  · obtain rfl : i = l.length := by omega
    rw [bB]
    repeat' (first | refine W_ ?_ | refine c_ (fun hc => ?_) (fun hc => ?_) | refine g_ (fun hg => ?_) (fun hg => ?_))
    refine aB x_ rfl (.tmp _ _ rfl) (fun _ => ?_)
    exact eK (fun x => aa.fin _ _ _ x) List.mem_cons_self
theorem n6 (hst : az G) (l1 l2 : Nat) (x : aa) (hb : x.small 1048576) : Ct Tryz.prog G 146 [.agg (x.tw l1), .agg (x.tw l2)] (fun _ => .bool true) := by
  refine ao Tryz.func146 rfl Tryz.ntmps146 rfl rfl fun w0 _ hG => ?_
  unfold aa.small at hb
  have hsfields := (hb.2).1
  have hnename : ¬ x.name ≠ x.name := fun h => h rfl
  unfold aa.tw
  repeat' (first | refine W_ ?_ | refine aE ?_ | refine ab hG hst (gS l1 l2 x.fields hsfields) ?_ | refine c_ (fun hc => ?_) (fun hc => ?_) | refine g_ (fun hg => ?_) (fun hg => ?_))
  all_goals first
    | (exfalso; simp at hc; done)
    | (exact r1_)
theorem gZ (hst : az G) (l1 l2 : Nat) (l : List aa) (hb : l.length ≤ 1048576 ∧ ∀ y ∈ l, aa.small 1048576 y) : Ct Tryz.prog G 62 [.sl l1 3 (l.map (aa.tw l1)), .sl l2 3 (l.map (aa.tw l2))] (fun _ => .bool true) := by
  refine ao Tryz.func62 rfl Tryz.ntmps62 rfl rfl fun w0 _ hG => ?_
  have hlen := aa.len l1 l
  have hlen2 := aa.len l2 l
  have hl1 := hb.1
  repeat' (first | refine W_ ?_ | refine c_ (fun hc => ?_) (fun hc => ?_) | refine g_ (fun hg => ?_) (fun hg => ?_))
  apply aj (X := Nat) [0, 1] (fun i => [(5, .int .i64 (i : Int))]) (fun _ => []) (fun i => i ≤ l.length) (fun i => l.length - i) 0 (Nat.zero_le _)
  exact kp_; exact nw_
  · exact .refl _
  intro i hi
  try dsimp only
  by_cases hlt : i < l.length
  · have hr1 : (l.map (aa.tw l1))[i]? = some (l[i].tw l1) := aH hlt
    have hr2 : (l.map (aa.tw l2))[i]? = some (l[i].tw l2) := aH hlt
    have hbi := hb.2 _ (List.getElem_mem hlt)
    generalize l[i] = x at hr1 hr2 hbi
    have hct := n6 hst l1 l2 x hbi
    unfold aa.tw at hct
    rw [show x.tw l1 = [.str x.name, .int .i64 x.parent, .sl l1 1 (bE x.fields)] from rfl] at hr1
    rw [show x.tw l2 = [.str x.name, .int .i64 x.parent, .sl l2 1 (bE x.fields)] from rfl] at hr2
    repeat' (first | refine V_ ?_ | refine ac hG hst (hct) ?_ | refine ab hG hst (hct) ?_ | refine c_ (fun hc => ?_) (fun hc => ?_) | refine g_ (fun hg => ?_) (fun hg => ?_))
    exact ah (i + 1) (by omega) (by omega) (.of _ nw_ od_ pk_)
  · repeat' (first | refine W_ ?_ | refine c_ (fun hc => ?_) (fun hc => ?_) | refine g_ (fun hg => ?_) (fun hg => ?_))
    exact r1_
end
def aA.tw (lo : Nat) (x : aA) : List TV := [.sl lo 3 (x.classes.map (aa.tw lo)), .sl lo 4 (x.codes.map (ay.tw lo)), .sl lo 4 (x.entries.map (aw.tw lo)), .int .i64 x.main]
def aA.small (n : Nat) (x : aA) : Prop := (x.classes.length ≤ n ∧ ∀ y ∈ x.classes, aa.small n y) ∧ (x.codes.length ≤ n ∧ ∀ y ∈ x.codes, ay.small n y) ∧ (x.entries.length ≤ n ∧ ∀ y ∈ x.entries, aw.small n y)
def aA.tz : List TV := [.nils, .nils, .nils, .int .i64 0]
theorem aA.fin (B K : Nat) (objs : aI) (x : aA) : im B objs K (x.tw B) (x.tw K) := .cons (cn (fun x => aa.fin B K objs x) _) (.cons (cn (fun x => ay.fin B K objs x) _) (.cons (cn (fun x => aw.fin B K objs x) _) (.cons (.flat rfl) (.nil))))
theorem aA.len (lo : Nat) (l : List aA) : (l.map (aA.tw lo)).length = l.length := by simp
section
variable {G : World → Prop}
theorem qb (hst : az G) (lo : Nat) (x : aA) (left : Int) (h : 0 ≤ left ∧ left ≤ 1048576) (hb : x.small 9223372036854775807) : CtM Tryz.prog G 12 [.agg (x.tw lo), .int .i64 left] [] (fun y : Int => -1 ≤ y ∧ y ≤ left ∧ (0 ≤ y → x.small 1048576)) (fun _ => []) (fun y => .int .i64 y) := by
  refine aC Tryz.func12 rfl Tryz.ntmps12 rfl rfl rfl fun w0 R gs objsR hG hR => ?_
  obtain rfl := hR.inv0
  clear hR
  unfold aA.small at hb
  skip
  unfold aA.tw
  repeat' (first | refine W_ ?_ | refine aE ?_ | ((with_reducible apply aF); rfl; kernel_rfl; (repeat (first | exact aD.nil | ((with_reducible apply aD.cons); rfl))); exact hG; exact iA hst lo x.classes _ (by omega) hb.1; exact .nil _; intro y1 hy1; refine bD ?_) | ((with_reducible apply aF); rfl; kernel_rfl; (repeat (first | exact aD.nil | ((with_reducible apply aD.cons); rfl))); exact hG; exact wX hst lo x.codes _ (by omega) hb.2.1; exact .nil _; intro y2 hy2; refine bD ?_) | ((with_reducible apply aF); rfl; kernel_rfl; (repeat (first | exact aD.nil | ((with_reducible apply aD.cons); rfl))); exact hG; exact uc hst lo x.entries _ (by omega) hb.2.2; exact .nil _; intro y3 hy3; refine bD ?_) | refine c_ (fun hc => ?_) (fun hc => ?_) | refine g_ (fun hg => ?_) (fun hg => ?_))
  all_goals first
    | exact av x_ rfl (-1) ⟨by omega, by omega, fun h => by omega⟩ rfl (.nil R) (.refl _) (.tmp _ _ rfl) rfl
    | (refine av x_ rfl _ ⟨?_, ?_, fun _ => ?_⟩ rfl (.nil R) (.refl _) (.tmp _ _ rfl) rfl
       · omega
       · omega
       · exact ⟨hy1.2.2 (by omega), hy2.2.2 (by omega), hy3.2.2 (by omega)⟩)
theorem qE (hst : az G) (lo : Nat) (x : aA) (hb : x.small 1048576) : Ct Tryz.prog G 14 [.agg (x.tw lo)] (fun K => .agg (x.tw K)) := by
  refine ao Tryz.func14 rfl Tryz.ntmps14 rfl rfl fun w0 _ hG => ?_
  unfold aA.small at hb
  have hsclasses := hb.1
  have hscodes := hb.2.1
  have hsentries := hb.2.2
  repeat' (first | refine W_ ?_ | refine aE ?_ | (refine ai ?_; intro ss bb) | refine ad ?_ | refine ab hG hst (iB hst lo x.classes (hsclasses)) ?_ | refine ab hG hst (wY hst lo x.codes (hscodes)) ?_ | refine ab hG hst (tU hst lo x.entries (hsentries)) ?_ | refine c_ (fun hc => ?_) (fun hc => ?_) | refine g_ (fun hg => ?_) (fun hg => ?_))
  refine aB x_ rfl (.cell _ _ _ _ _ rfl mm_ (by kernel_rfl) (by kernel_rfl) (by kernel_rfl)) (fun _ => ?_)
  exact eg (aA.fin _ _ _ x)
theorem pu (hst : az G) (l1 l2 : Nat) (x : aA) (hb : x.small 1048576) : Ct Tryz.prog G 17 [.agg (x.tw l1), .agg (x.tw l2)] (fun _ => .bool true) := by
  refine ao Tryz.func17 rfl Tryz.ntmps17 rfl rfl fun w0 _ hG => ?_
  unfold aA.small at hb
  have hsclasses := hb.1
  have hscodes := hb.2.1
  have hsentries := hb.2.2
  unfold aA.tw
  repeat' (first | refine W_ ?_ | refine aE ?_ | refine ab hG hst (gZ hst l1 l2 x.classes hsclasses) ?_ | refine ab hG hst (wL hst l1 l2 x.codes hscodes) ?_ | refine ab hG hst (ud hst l1 l2 x.entries hsentries) ?_ | refine c_ (fun hc => ?_) (fun hc => ?_) | refine g_ (fun hg => ?_) (fun hg => ?_))
  all_goals first
    | (exfalso; simp at hc; done)
    | (exact r1_)
end
def eH.tw (_lo : Nat) (x : eH) : List TV := [.int .i64 x.code, .int .i64 x.at_, .int .i64 x.kind]
def eH.small (_n : Nat) (_x : eH) : Prop := True
def eH.tz : List TV := [.int .i64 0, .int .i64 0, .int .i64 0]
theorem eH.fin (B K : Nat) (objs : aI) (x : eH) : im B objs K (x.tw B) (x.tw K) := .cons (.flat rfl) (.cons (.flat rfl) (.cons (.flat rfl) (.nil)))
theorem eH.len (lo : Nat) (l : List eH) : (l.map (eH.tw lo)).length = l.length := by simp
section
variable {G : World → Prop}
end
set_option maxRecDepth 20000
def bF : List aa := [⟨⟨#[79, 98, 106, 101, 99, 116]⟩, -1, []⟩, ⟨⟨#[69, 120, 99, 101, 112, 116, 105, 111, 110]⟩, 0, [⟨#[116, 101, 120, 116]⟩]⟩, ⟨⟨#[69, 114, 114, 111, 114]⟩, 1, [⟨#[116, 101, 120, 116]⟩]⟩, ⟨⟨#[77, 101, 115, 115, 97, 103, 101, 78, 111, 116, 85, 110, 100, 101, 114, 115, 116, 111, 111, 100]⟩, 2, [⟨#[116, 101, 120, 116]⟩]⟩, ⟨⟨#[90, 101, 114, 111, 68, 105, 118, 105, 100, 101]⟩, 2, [⟨#[116, 101, 120, 116]⟩]⟩, ⟨⟨#[73, 110, 116, 101, 103, 101, 114]⟩, 0, []⟩, ⟨⟨#[66, 111, 111, 108, 101, 97, 110]⟩, 0, []⟩, ⟨⟨#[78, 105, 108]⟩, 0, []⟩, ⟨⟨#[83, 116, 114, 105, 110, 103]⟩, 0, []⟩, ⟨⟨#[83, 121, 109, 98, 111, 108]⟩, 0, []⟩, ⟨⟨#[65, 114, 114, 97, 121]⟩, 0, []⟩, ⟨⟨#[66, 108, 111, 99, 107]⟩, 0, []⟩, ⟨⟨#[83, 101, 109, 97, 112, 104, 111, 114, 101]⟩, 0, []⟩, ⟨⟨#[80, 114, 111, 99, 101, 115, 115]⟩, 0, []⟩, ⟨⟨#[84, 114, 97, 110, 115, 99, 114, 105, 112, 116]⟩, 0, []⟩, ⟨⟨#[67, 108, 97, 115, 115]⟩, 0, []⟩]
def cq : List ByteArray := [⟨#[79, 98, 106, 101, 99, 116]⟩, ⟨#[69, 120, 99, 101, 112, 116, 105, 111, 110]⟩, ⟨#[69, 114, 114, 111, 114]⟩, ⟨#[77, 101, 115, 115, 97, 103, 101, 78, 111, 116, 85, 110, 100, 101, 114, 115, 116, 111, 111, 100]⟩, ⟨#[90, 101, 114, 111, 68, 105, 118, 105, 100, 101]⟩, ⟨#[73, 110, 116, 101, 103, 101, 114]⟩, ⟨#[66, 111, 111, 108, 101, 97, 110]⟩, ⟨#[78, 105, 108]⟩, ⟨#[83, 116, 114, 105, 110, 103]⟩, ⟨#[83, 121, 109, 98, 111, 108]⟩, ⟨#[65, 114, 114, 97, 121]⟩, ⟨#[66, 108, 111, 99, 107]⟩, ⟨#[83, 101, 109, 97, 112, 104, 111, 114, 101]⟩, ⟨#[80, 114, 111, 99, 101, 115, 115]⟩, ⟨#[84, 114, 97, 110, 115, 99, 114, 105, 112, 116]⟩, ⟨#[67, 108, 97, 115, 115]⟩]
def fZ (k : Int) : List ByteArray := if k = 1 ∨ k = 2 ∨ k = 3 ∨ k = 4 then [⟨#[116, 101, 120, 116]⟩] else []
def vw : List (List TV) := [[TV.int .i64 (-1)], [TV.int .i64 0], [TV.int .i64 1], [TV.int .i64 2], [TV.int .i64 2], [TV.int .i64 0], [TV.int .i64 0], [TV.int .i64 0], [TV.int .i64 0], [TV.int .i64 0], [TV.int .i64 0], [TV.int .i64 0], [TV.int .i64 0], [TV.int .i64 0], [TV.int .i64 0], [TV.int .i64 0]]
theorem fm : bF.length = 16 := rfl
theorem iE {i : Nat} (h : i < 16) : ∃ x, bF[i]? = some x ∧ (bE cq)[i]? = some [.str x.name] ∧ vw[i]? = some [.int .i64 x.parent] ∧ fZ (i : Int) = x.fields ∧ bF.take (i + 1) = bF.take i ++ [x] := by
  match i, h with
  | 0, _ => exact ⟨_, rfl, rfl, rfl, rfl, rfl⟩
  | 1, _ => exact ⟨_, rfl, rfl, rfl, rfl, rfl⟩
  | 2, _ => exact ⟨_, rfl, rfl, rfl, rfl, rfl⟩
  | 3, _ => exact ⟨_, rfl, rfl, rfl, rfl, rfl⟩
  | 4, _ => exact ⟨_, rfl, rfl, rfl, rfl, rfl⟩
  | 5, _ => exact ⟨_, rfl, rfl, rfl, rfl, rfl⟩
  | 6, _ => exact ⟨_, rfl, rfl, rfl, rfl, rfl⟩
  | 7, _ => exact ⟨_, rfl, rfl, rfl, rfl, rfl⟩
  | 8, _ => exact ⟨_, rfl, rfl, rfl, rfl, rfl⟩
  | 9, _ => exact ⟨_, rfl, rfl, rfl, rfl, rfl⟩
  | 10, _ => exact ⟨_, rfl, rfl, rfl, rfl, rfl⟩
  | 11, _ => exact ⟨_, rfl, rfl, rfl, rfl, rfl⟩
  | 12, _ => exact ⟨_, rfl, rfl, rfl, rfl, rfl⟩
  | 13, _ => exact ⟨_, rfl, rfl, rfl, rfl, rfl⟩
  | 14, _ => exact ⟨_, rfl, rfl, rfl, rfl, rfl⟩
  | 15, _ => exact ⟨_, rfl, rfl, rfl, rfl, rfl⟩
  | n + 16, h => omega
section
variable {G : World → Prop}
theorem nT : Ct Tryz.prog G 252 [] (fun K => .sl K 1 (bE cq)) := by
  refine ao Tryz.func252 rfl Tryz.ntmps252 rfl rfl fun w0 _ hG => ?_
  repeat' (first | refine W_ ?_ | refine dA ?_ | refine c_ (fun hc => ?_) (fun hc => ?_) | refine g_ (fun hg => ?_) (fun hg => ?_))
  refine aB (r1 := .tmp 0) (t1 := .sl w0.heap.size 1 (bE cq)) (.inr rfl) rfl (.tmp _ _ rfl) (fun _ => ?_)
  exact cn (f := fun s : ByteArray => [TV.str s]) (f' := fun s : ByteArray => [TV.str s]) (fun x => .cons (.flat rfl) .nil) cq
theorem nV : Ct Tryz.prog G 263 [] (fun K => .sl K 1 (bE cq)) := by
  refine ao Tryz.func263 rfl Tryz.ntmps263 rfl rfl fun w0 _ hG => ?_
  repeat' (first | refine W_ ?_ | refine dA ?_ | refine c_ (fun hc => ?_) (fun hc => ?_) | refine g_ (fun hg => ?_) (fun hg => ?_))
  refine aB (r1 := .tmp 0) (t1 := .sl w0.heap.size 1 (bE cq)) (.inr rfl) rfl (.tmp _ _ rfl) (fun _ => ?_)
  exact cn (f := fun s : ByteArray => [TV.str s]) (f' := fun s : ByteArray => [TV.str s]) (fun x => .cons (.flat rfl) .nil) cq
theorem uj (tu : TV) (k : Int) (h : k < 16) : Ct Tryz.prog G 253 [tu, .int .i64 k] (fun K => .sl K 1 (bE (fZ k))) := by
  refine ao Tryz.func253 rfl Tryz.ntmps253 rfl rfl fun w0 _ hG => ?_
  by_cases hk : k = 1 ∨ k = 2 ∨ k = 3 ∨ k = 4
  · rw [show fZ k = [⟨#[116, 101, 120, 116]⟩] from if_pos hk]
    repeat' (first | refine W_ ?_ | refine dA ?_ | refine c_ (fun hc => ?_) (fun hc => ?_) | refine g_ (fun hg => ?_) (fun hg => ?_))
    all_goals first
      | (exfalso; omega)
      | (refine aB x_ rfl (.tmp _ _ rfl) (fun _ => ?_)
         exact cn (f := fun s : ByteArray => [TV.str s]) (f' := fun s : ByteArray => [TV.str s]) (fun x => .cons (.flat rfl) .nil) [⟨#[116, 101, 120, 116]⟩])
  · rw [show fZ k = [] from if_neg hk]
    repeat' (first | refine W_ ?_ | refine dA ?_ | refine c_ (fun hc => ?_) (fun hc => ?_) | refine g_ (fun hg => ?_) (fun hg => ?_))
    all_goals first
      | (exfalso; omega)
      | (refine aB x_ rfl (.tmp _ _ rfl) (fun _ => ?_)
         exact cn (f := fun s : ByteArray => [TV.str s]) (f' := fun s : ByteArray => [TV.str s]) (fun x => .cons (.flat rfl) .nil) [])
theorem vW (hst : az G) (rest : List TV) : Ct Tryz.prog G 199 [.cp 0 (.nils :: rest)] (fun K => .sl K 3 (bF.map (aa.tw K))) := by
  refine ao Tryz.func199 rfl Tryz.ntmps199 rfl rfl fun w0 _ hG => ?_
  repeat' (first | refine H_ 3 ?_ | refine ab hG hst (nT) ?_ | (refine lz ?_; intro ss bb) | refine c_ (fun hc => ?_) (fun hc => ?_) | refine g_ (fun hg => ?_) (fun hg => ?_))
  refine ⟨?_⟩
  repeat' (first | refine W_ ?_ | refine dA ?_ | refine c_ (fun hc => ?_) (fun hc => ?_) | refine g_ (fun hg => ?_) (fun hg => ?_))
  apply aj (X := Nat × Nat) [0, 4, 5] (fun x => [(6, .int .i64 (x.1 : Int)), (3, .ms ss x.2 0 x.1)]) (fun x => [(ss, x.2, .row 3 ((bF.take x.1).map (aa.tw w0.heap.size)))]) (fun x => x.1 ≤ 16) (fun x => 16 - x.1) (0, bb) (Nat.zero_le _)
  exact kp_; exact nw_
  · exact .refl _
  rintro ⟨i, b⟩ hi
  dsimp only at hi ⊢
  by_cases hlt : i < 16
  · obtain ⟨x, hx, h1, h2, h3, h4⟩ := iE hlt
    unfold vw at h2
    have hle : ((bF.take i).map (aa.tw w0.heap.size)).length = i := by rw [List.length_map, List.length_take, fm]; omega
    repeat' (first | refine W_ ?_ | (with_reducible apply pA (id := 7) 14; kernel_rfl; kernel_rfl; kernel_rfl; (repeat (first | exact Cut.zero _ | apply Cut.succ))) | with_reducible refine f8 (by kernel_rfl) (by kernel_rfl) ?_ | with_reducible refine kf ?_ | with_reducible refine gA ?_ | with_reducible refine gB rfl ?_ | refine jM rfl rfl rfl rr_ ?_ | refine gz rfl rfl rfl rr_ rfl rfl rfl ?_ | refine eW rfl rfl rfl rr_ rfl rfl ?_ | (refine pO rfl rfl rfl rr_ dd_ ?_) | (refine qx rfl rfl rfl rr_ dd_ ?_) | (refine eG rfl rfl rfl rr_ (fun hg => ?_) (fun hg => ?_)) | (refine et rfl rfl rfl rr_ (fun hg => ?_) (fun hg => ?_)) | ((with_reducible apply d_y); exact y_; rfl) | ((with_reducible apply xW); rfl; kernel_rfl; (repeat (first | exact cf.nil | ((with_reducible apply cf.cons); rfl; exact .same _))); exact hG; exact hst; exact uj _ _ (by omega)) | refine aac ?_ | refine acJ ?_ | (refine rd ?_; intro bb) | refine c_ (fun hc => ?_) (fun hc => ?_) | refine g_ (fun hg => ?_) (fun hg => ?_))
    have hrow : (bF.take i).map (aa.tw w0.heap.size) ++ [[TV.str x.name, .int .i64 x.parent, .sl w0.heap.size 1 (bE (fZ i))]] = (bF.take (i + 1)).map (aa.tw w0.heap.size) := by
      rw [h4, h3, List.map_append]; rfl
    rw [hrow]
    exact ah (i + 1, bb) (by dsimp only; omega) (by dsimp only; omega) (.of _ nw_ od_ pk_)
  · obtain rfl : i = 16 := by omega
    repeat' (first | refine W_ ?_ | refine c_ (fun hc => ?_) (fun hc => ?_) | refine g_ (fun hg => ?_) (fun hg => ?_))
    apply aj (X := Unit) [0, 3] (fun _ => [(7, .int .i64 0)]) (fun _ => [(ss, b, .row 3 (bF.map (aa.tw w0.heap.size)))]) (fun _ => True) (fun _ => 0) () trivial
    exact kp_; exact nw_
    · exact .refl _
    rintro _ -
    repeat' (first | refine W_ ?_ | refine c_ (fun hc => ?_) (fun hc => ?_) | refine g_ (fun hg => ?_) (fun hg => ?_))
    refine aB x_ rfl (.tmp _ _ rfl) (fun _ => ?_)
    exact eK (fun x => aa.fin _ _ _ x) List.mem_cons_self
end
set_option maxRecDepth 20000
def nR {α : Type} (mk : α → Nat × Nat → List TV) (l : List α) (ps : List (Nat × Nat)) : List (List TV) := List.zipWith mk l ps
def nO {α : Type} (ob : α → bu) (l : List α) (ps : List (Nat × Nat)) : aI := List.zipWith (fun x p => (p.1, p.2, ob x)) l ps
theorem xw {α : Type} (mk : α → Nat × Nat → List TV) {l : List α} {ps : List (Nat × Nat)} (h : ps.length = l.length) : (nR mk l ps).length = l.length := by simp [nR, h]
theorem dV {α : Type} {l : List α} {i : Nat} (h : i < l.length) : l.take (i + 1) = l.take i ++ [l[i]] := by rw [List.take_add_one, List.getElem?_eq_getElem h]; rfl
theorem yg {α : Type} (ob : α → bu) {l : List α} {ps : List (Nat × Nat)} {i : Nat} (h : i < l.length) (hp : ps.length = i) (p : Nat × Nat) : nO ob (l.take (i + 1)) (ps ++ [p]) = nO ob (l.take i) ps ++ [(p.1, p.2, ob l[i])] := by
  unfold nO
  rw [dV h, List.zipWith_append (by simp; omega)]; rfl
theorem aa5 {α : Type} (mk : α → Nat × Nat → List TV) (z : List TV) {l : List α} {ps : List (Nat × Nat)} {i : Nat} (h : i < l.length) (hp : ps.length = i) (p : Nat × Nat) :
    (nR mk (l.take i) ps ++ List.replicate (l.length - i) z)[i]? = some z ∧ (nR mk (l.take i) ps ++ List.replicate (l.length - i) z).set i (mk l[i] p) = nR mk (l.take (i + 1)) (ps ++ [p]) ++ List.replicate (l.length - (i + 1)) z := by
  have hl : (nR mk (l.take i) ps).length = i := by simp [nR]; omega
  have e : l.length - i = (l.length - (i + 1)) + 1 := by omega
  refine ⟨?_, ?_⟩
  · rw [List.getElem?_append_right (by omega), hl, Nat.sub_self, e, List.replicate_succ]; rfl
  · rw [List.set_append_right _ _ (by omega), hl, Nat.sub_self, e, List.replicate_succ, List.set_cons_zero]
    unfold nR
    rw [dV h, List.zipWith_append (by simp; omega), List.append_assoc]; rfl
theorem rc (a z : Nat × Nat × bu) (T R : aI) : dg (a :: ((T ++ [z]) ++ R)) (z :: a :: (T ++ R)) := .perm (by
  have h : ((T ++ [z]) ++ R).Perm (z :: (T ++ R)) := by rw [List.append_assoc]; exact List.perm_middle
  exact (h.cons a).trans (List.Perm.swap z a _))
def iN (x : aa) (p : Nat × Nat) : List TV := [.str x.name, .int .i64 x.parent, .ms p.1 p.2 0 x.fields.length]
def ko (x : aa) : bu := .row 1 (bE x.fields)
def iQ (x : ay) (p : Nat × Nat) : List TV := [.bool x.block, .int .i64 x.params, .int .i64 x.slots, .ms p.1 p.2 0 x.instrs.length]
def ks (x : ay) : bu := .row 4 (x.instrs.map (ag.tw 0))
section
variable {G : World → Prop}
theorem jS (_hst : az G) (lo : Nat) (l : List ByteArray) (hn : l.length ≤ 1048576) : CtM Tryz.prog G 174 [.sl lo 1 (bE l)] [] (fun _ : Nat × Nat => True) (fun y => [(y.1, y.2, .row 1 (bE l))]) (fun y => .ms y.1 y.2 0 l.length) := by
  refine aC Tryz.func174 rfl Tryz.ntmps174 rfl rfl rfl fun w0 R gs objsR hG hR => ?_
  obtain rfl := hR.inv0
  clear hR
  have hlen := bf l
  have h0 := bC (fun s : ByteArray => [TV.str s]) [.str ⟨#[]⟩] l
  repeat' (first | refine W_ ?_ | (refine de ?_; intro ss bb) | refine c_ (fun hc => ?_) (fun hc => ?_) | refine g_ (fun hg => ?_) (fun hg => ?_))
  generalize ss = so; generalize bb = bo
  apply aj (X := Nat) [0, 3, 1000000] (fun i => [(4, .int .i64 (i : Int))]) (fun i => (so, bo, .row 1 (cI (fun s : ByteArray => [TV.str s]) [.str ⟨#[]⟩] l i)) :: R) (fun i => i ≤ l.length) (fun i => l.length - i) 0 (Nat.zero_le _)
  exact kp_; exact nw_
  · rw [← h0]; exact .refl _
  intro i hi
  try dsimp only
  by_cases hlt : i < l.length
  · obtain ⟨hrow, hset⟩ := bQ (fun s : ByteArray => [TV.str s]) [.str ⟨#[]⟩] hlt
    have hra := dG hlt
    generalize l[i] = x at hset hra
    try dsimp only at hset
    repeat' (first | refine W_ ?_ | refine a6 ?_ | refine c_ (fun hc => ?_) (fun hc => ?_) | refine g_ (fun hg => ?_) (fun hg => ?_))
    refine ah (i + 1) (by omega) (by omega) (.of _ nw_ od_ (by rw [← hset]; exact .refl _))
  · obtain rfl : i = l.length := by omega
    rw [bB]
    repeat' (first | refine W_ ?_ | refine c_ (fun hc => ?_) (fun hc => ?_) | refine g_ (fun hg => ?_) (fun hg => ?_))
    exact av x_ rfl (so, bo) trivial rfl (.cons _ _ _ _ (.nil R)) pk_ (.tmp _ _ rfl) rfl
theorem rl (hst : az G) (lo : Nat) (l : List ag) (hb : l.length ≤ 1048576 ∧ ∀ y ∈ l, ag.small 1048576 y) : CtM Tryz.prog G 208 [.sl lo 4 (l.map (ag.tw lo))] [] (fun _ : Nat × Nat => True) (fun y => [(y.1, y.2, .row 4 (l.map (ag.tw 0)))]) (fun y => .ms y.1 y.2 0 l.length) := by
  refine aC Tryz.func208 rfl Tryz.ntmps208 rfl rfl rfl fun w0 R gs objsR hG hR => ?_
  obtain rfl := hR.inv0
  clear hR
  have hlen := ag.len lo l
  have hl1 := hb.1
  have h0 := bC (ag.tw 0) ag.tz l
  repeat' (first | refine W_ ?_ | (refine de ?_; intro ss bb) | refine c_ (fun hc => ?_) (fun hc => ?_) | refine g_ (fun hg => ?_) (fun hg => ?_))
  generalize ss = so; generalize bb = bo
  apply aj (X := Nat) [0, 3, 1000000] (fun i => [(4, .int .i64 (i : Int))]) (fun i => (so, bo, .row 4 (cI (ag.tw 0) ag.tz l i)) :: R) (fun i => i ≤ l.length) (fun i => l.length - i) 0 (Nat.zero_le _)
  exact kp_; exact nw_
  · rw [← h0]; exact .refl _
  intro i hi
  try dsimp only
  by_cases hlt : i < l.length
  · obtain ⟨hrow, hset⟩ := bQ (ag.tw 0) ag.tz hlt
    have hra : (l.map (ag.tw lo))[i]? = some (l[i].tw lo) := aH hlt
    have hbi := hb.2 _ (List.getElem_mem hlt)
    generalize l[i] = x at hset hra hbi
    have hct := oH hst lo x hbi
    unfold ag.tw at hct
    rw [show x.tw lo = [.int .i64 x.op, .int .i64 x.a, .int .i64 x.b, .str x.text] from rfl] at hra
    replace hrow : (cI (ag.tw 0) ag.tz l i)[i]? = some [.int .i64 0, .int .i64 0, .int .i64 0, .str ⟨#[]⟩] := hrow
    repeat' (first | refine W_ ?_ | refine ab hG hst (hct) ?_ | refine a6 ?_ | refine c_ (fun hc => ?_) (fun hc => ?_) | refine g_ (fun hg => ?_) (fun hg => ?_))
    refine ah (i + 1) (by omega) (by omega) (.of _ nw_ od_ (by rw [← hset]; exact .refl _))
  · obtain rfl : i = l.length := by omega
    rw [bB]
    repeat' (first | refine W_ ?_ | refine c_ (fun hc => ?_) (fun hc => ?_) | refine g_ (fun hg => ?_) (fun hg => ?_))
    exact av x_ rfl (so, bo) trivial rfl (.cons _ _ _ _ (.nil R)) pk_ (.tmp _ _ rfl) rfl
theorem sB (hst : az G) (lo : Nat) (l : List aw) (hb : l.length ≤ 1048576 ∧ ∀ y ∈ l, aw.small 1048576 y) : CtM Tryz.prog G 53 [.sl lo 4 (l.map (aw.tw lo))] [] (fun _ : Nat × Nat => True) (fun y => [(y.1, y.2, .row 4 (l.map (aw.tw 0)))]) (fun y => .ms y.1 y.2 0 l.length) := by
  refine aC Tryz.func53 rfl Tryz.ntmps53 rfl rfl rfl fun w0 R gs objsR hG hR => ?_
  obtain rfl := hR.inv0
  clear hR
  have hlen := aw.len lo l
  have hl1 := hb.1
  have h0 := bC (aw.tw 0) aw.tz l
  repeat' (first | refine W_ ?_ | (refine de ?_; intro ss bb) | refine c_ (fun hc => ?_) (fun hc => ?_) | refine g_ (fun hg => ?_) (fun hg => ?_))
  generalize ss = so; generalize bb = bo
  apply aj (X := Nat) [0, 3, 1000000] (fun i => [(4, .int .i64 (i : Int))]) (fun i => (so, bo, .row 4 (cI (aw.tw 0) aw.tz l i)) :: R) (fun i => i ≤ l.length) (fun i => l.length - i) 0 (Nat.zero_le _)
  exact kp_; exact nw_
  · rw [← h0]; exact .refl _
  intro i hi
  try dsimp only
  by_cases hlt : i < l.length
  · obtain ⟨hrow, hset⟩ := bQ (aw.tw 0) aw.tz hlt
    have hra : (l.map (aw.tw lo))[i]? = some (l[i].tw lo) := aH hlt
    have hbi := hb.2 _ (List.getElem_mem hlt)
    generalize l[i] = x at hset hra hbi
    have hct := pb hst lo x hbi
    unfold aw.tw at hct
    rw [show x.tw lo = [.int .i64 x.owner, .bool x.class_, .str x.selector, .int .i64 x.code] from rfl] at hra
    replace hrow : (cI (aw.tw 0) aw.tz l i)[i]? = some [.int .i64 0, .bool false, .str ⟨#[]⟩, .int .i64 0] := hrow
    repeat' (first | refine W_ ?_ | refine ab hG hst (hct) ?_ | refine a6 ?_ | refine c_ (fun hc => ?_) (fun hc => ?_) | refine g_ (fun hg => ?_) (fun hg => ?_))
    refine ah (i + 1) (by omega) (by omega) (.of _ nw_ od_ (by rw [← hset]; exact .refl _))
  · obtain rfl : i = l.length := by omega
    rw [bB]
    repeat' (first | refine W_ ?_ | refine c_ (fun hc => ?_) (fun hc => ?_) | refine g_ (fun hg => ?_) (fun hg => ?_))
    exact av x_ rfl (so, bo) trivial rfl (.cons _ _ _ _ (.nil R)) pk_ (.tmp _ _ rfl) rfl
theorem mH (hst : az G) (lo : Nat) (x : aa) (hb : x.small 1048576) : CtM Tryz.prog G 131 [.agg [.str x.name, .int .i64 x.parent, .sl lo 1 (bE x.fields)]] [] (fun _ : Nat × Nat => True) (fun y => [(y.1, y.2, .row 1 (bE x.fields))]) (fun y => .agg [.str x.name, .int .i64 x.parent, .ms y.1 y.2 0 x.fields.length]) := by
  refine aC Tryz.func131 rfl Tryz.ntmps131 rfl rfl rfl fun w0 R gs objsR hG hR => ?_
  obtain rfl := hR.inv0
  clear hR
  have hin := jS hst lo x.fields hb.2.1
  repeat' (first | refine W_ ?_ | refine aE ?_ | (refine ai ?_; intro ss bb) | refine ad ?_ | ((with_reducible apply aF); rfl; kernel_rfl; (repeat (first | exact aD.nil | ((with_reducible apply aD.cons); rfl))); exact hG; exact hin; exact .nil _; intro y hy; refine br ?_) | refine c_ (fun hc => ?_) (fun hc => ?_) | refine g_ (fun hg => ?_) (fun hg => ?_))
  refine av x_ rfl y trivial rfl (.cons _ _ _ _ (.nil R)) pk_ (.cell _ _ _ _ _ rfl mm_ (by kernel_rfl) (by kernel_rfl) (by kernel_rfl)) rfl
theorem gK (hst : az G) (lo : Nat) (l : List aa) (hb : l.length ≤ 1048576 ∧ ∀ y ∈ l, aa.small 1048576 y) : CtM Tryz.prog G 51 [.sl lo 3 (l.map (aa.tw lo))] [] (fun y : (Nat × Nat) × List (Nat × Nat) => y.2.length = l.length) (fun y => (y.1.1, y.1.2, .row 3 (nR iN l y.2)) :: nO ko l y.2) (fun y => .ms y.1.1 y.1.2 0 l.length) := by
  refine aC Tryz.func51 rfl Tryz.ntmps51 rfl rfl rfl fun w0 R gs objsR hG hR => ?_
  obtain rfl := hR.inv0
  clear hR
  have hlen := aa.len lo l
  have hl1 := hb.1
  have h0 : List.replicate l.length aa.tz = nR iN (l.take 0) [] ++ List.replicate (l.length - 0) aa.tz := by simp [nR]
  repeat' (first | refine W_ ?_ | (refine de ?_; intro ss bb) | refine c_ (fun hc => ?_) (fun hc => ?_) | refine g_ (fun hg => ?_) (fun hg => ?_))
  generalize ss = so; generalize bb = bo
  apply aj (X := Nat × List (Nat × Nat)) [0, 3, 1000000] (fun x => [(4, .int .i64 (x.1 : Int))]) (fun x => (so, bo, .row 3 (nR iN (l.take x.1) x.2 ++ List.replicate (l.length - x.1) aa.tz)) :: (nO ko (l.take x.1) x.2 ++ R)) (fun x => x.1 ≤ l.length ∧ x.2.length = x.1) (fun x => l.length - x.1) (0, []) ⟨Nat.zero_le _, rfl⟩
  exact kp_; exact nw_
  · rw [← h0]; exact .refl _
  rintro ⟨i, ps⟩ ⟨hi, hps⟩
  dsimp only at hi hps ⊢
  by_cases hlt : i < l.length
  · have hrs := fun p => aa5 iN aa.tz hlt hps p
    have hos := fun p => yg ko hlt hps p
    have hra : (l.map (aa.tw lo))[i]? = some (l[i].tw lo) := aH hlt
    have hbi := hb.2 _ (List.getElem_mem hlt)
    generalize l[i] = x at hrs hos hra hbi
    have hct := mH hst lo x hbi
    rw [show x.tw lo = [.str x.name, .int .i64 x.parent, .sl lo 1 (bE x.fields)] from rfl] at hra
    have hrow : (nR iN (l.take i) ps ++ List.replicate (l.length - i) aa.tz)[i]? = some [.str ⟨#[]⟩, .int .i64 0, .nils] := (hrs (0, 0)).1
    generalize nO ko (l.take i) ps = T at hos ⊢
    repeat' (first | refine W_ ?_ | ((with_reducible apply aF); rfl; kernel_rfl; (repeat (first | exact aD.nil | ((with_reducible apply aD.cons); rfl))); exact hG; exact hct; exact .nil _; intro y hy; refine br ?_) | refine a6 ?_ | refine c_ (fun hc => ?_) (fun hc => ?_) | refine g_ (fun hg => ?_) (fun hg => ?_))
    refine ah (i + 1, ps ++ [y]) ⟨by dsimp only; omega, by dsimp only; simp [hps]⟩ (by dsimp only; omega) (.of _ nw_ od_ ?_)
    dsimp only
    rw [hos y, ← (hrs y).2]
    exact rc _ _ T R
  · obtain rfl : i = l.length := by omega
    rw [List.take_of_length_le (Nat.le_refl _), Nat.sub_self, List.replicate_zero, List.append_nil]
    repeat' (first | refine W_ ?_ | refine c_ (fun hc => ?_) (fun hc => ?_) | refine g_ (fun hg => ?_) (fun hg => ?_))
    exact av x_ rfl ((so, bo), ps) hps rfl (.cons _ _ _ _ (.app _ R)) (.refl _) (.tmp _ _ rfl) rfl
theorem vU (hst : az G) (lo : Nat) (x : ay) (hb : x.small 1048576) : CtM Tryz.prog G 132 [.agg [.bool x.block, .int .i64 x.params, .int .i64 x.slots, .sl lo 4 (x.instrs.map (ag.tw lo))]] [] (fun _ : Nat × Nat => True) (fun y => [(y.1, y.2, .row 4 (x.instrs.map (ag.tw 0)))]) (fun y => .agg [.bool x.block, .int .i64 x.params, .int .i64 x.slots, .ms y.1 y.2 0 x.instrs.length]) := by
  refine aC Tryz.func132 rfl Tryz.ntmps132 rfl rfl rfl fun w0 R gs objsR hG hR => ?_
  obtain rfl := hR.inv0
  clear hR
  have hin := rl hst lo x.instrs hb
  repeat' (first | refine W_ ?_ | refine aE ?_ | (refine ai ?_; intro ss bb) | refine ad ?_ | ((with_reducible apply aF); rfl; kernel_rfl; (repeat (first | exact aD.nil | ((with_reducible apply aD.cons); rfl))); exact hG; exact hin; exact .nil _; intro y hy; refine br ?_) | refine c_ (fun hc => ?_) (fun hc => ?_) | refine g_ (fun hg => ?_) (fun hg => ?_))
  refine av x_ rfl y trivial rfl (.cons _ _ _ _ (.nil R)) pk_ (.cell _ _ _ _ _ rfl mm_ (by kernel_rfl) (by kernel_rfl) (by kernel_rfl)) rfl
theorem sO (hst : az G) (lo : Nat) (l : List ay) (hb : l.length ≤ 1048576 ∧ ∀ y ∈ l, ay.small 1048576 y) : CtM Tryz.prog G 52 [.sl lo 4 (l.map (ay.tw lo))] [] (fun y : (Nat × Nat) × List (Nat × Nat) => y.2.length = l.length) (fun y => (y.1.1, y.1.2, .row 4 (nR iQ l y.2)) :: nO ks l y.2) (fun y => .ms y.1.1 y.1.2 0 l.length) := by
  refine aC Tryz.func52 rfl Tryz.ntmps52 rfl rfl rfl fun w0 R gs objsR hG hR => ?_
  obtain rfl := hR.inv0
  clear hR
  have hlen := ay.len lo l
  have hl1 := hb.1
  have h0 : List.replicate l.length ay.tz = nR iQ (l.take 0) [] ++ List.replicate (l.length - 0) ay.tz := by simp [nR]
  repeat' (first | refine W_ ?_ | (refine de ?_; intro ss bb) | refine c_ (fun hc => ?_) (fun hc => ?_) | refine g_ (fun hg => ?_) (fun hg => ?_))
  generalize ss = so; generalize bb = bo
  apply aj (X := Nat × List (Nat × Nat)) [0, 3, 1000000] (fun x => [(4, .int .i64 (x.1 : Int))]) (fun x => (so, bo, .row 4 (nR iQ (l.take x.1) x.2 ++ List.replicate (l.length - x.1) ay.tz)) :: (nO ks (l.take x.1) x.2 ++ R)) (fun x => x.1 ≤ l.length ∧ x.2.length = x.1) (fun x => l.length - x.1) (0, []) ⟨Nat.zero_le _, rfl⟩
  exact kp_; exact nw_
  · rw [← h0]; exact .refl _
  rintro ⟨i, ps⟩ ⟨hi, hps⟩
  dsimp only at hi hps ⊢
  by_cases hlt : i < l.length
  · have hrs := fun p => aa5 iQ ay.tz hlt hps p
    have hos := fun p => yg ks hlt hps p
    have hra : (l.map (ay.tw lo))[i]? = some (l[i].tw lo) := aH hlt
    have hbi := hb.2 _ (List.getElem_mem hlt)
    generalize l[i] = x at hrs hos hra hbi
    have hct := vU hst lo x hbi
    rw [show x.tw lo = [.bool x.block, .int .i64 x.params, .int .i64 x.slots, .sl lo 4 (x.instrs.map (ag.tw lo))] from rfl] at hra
    have hrow : (nR iQ (l.take i) ps ++ List.replicate (l.length - i) ay.tz)[i]? = some [.bool false, .int .i64 0, .int .i64 0, .nils] := (hrs (0, 0)).1
    generalize nO ks (l.take i) ps = T at hos ⊢
    repeat' (first | refine W_ ?_ | ((with_reducible apply aF); rfl; kernel_rfl; (repeat (first | exact aD.nil | ((with_reducible apply aD.cons); rfl))); exact hG; exact hct; exact .nil _; intro y hy; refine br ?_) | refine a6 ?_ | refine c_ (fun hc => ?_) (fun hc => ?_) | refine g_ (fun hg => ?_) (fun hg => ?_))
    refine ah (i + 1, ps ++ [y]) ⟨by dsimp only; omega, by dsimp only; simp [hps]⟩ (by dsimp only; omega) (.of _ nw_ od_ ?_)
    dsimp only
    rw [hos y, ← (hrs y).2]
    exact rc _ _ T R
  · obtain rfl : i = l.length := by omega
    rw [List.take_of_length_le (Nat.le_refl _), Nat.sub_self, List.replicate_zero, List.append_nil]
    repeat' (first | refine W_ ?_ | refine c_ (fun hc => ?_) (fun hc => ?_) | refine g_ (fun hg => ?_) (fun hg => ?_))
    exact av x_ rfl ((so, bo), ps) hps rfl (.cons _ _ _ _ (.app _ R)) (.refl _) (.tmp _ _ rfl) rfl
end
set_option maxRecDepth 20000
def mkL {α : Type} (mk : Int → α → α) (nx : Int → α → Int) : Int → List α → List α
  | _, [] => []
  | k, x :: r => mk k x :: mkL mk nx (nx k x) r
def kL {α : Type} (nx : Int → α → Int) (k : Int) (l : List α) : Int := l.foldl nx k
def ptL {α : Type} (mk : Int → α → α) (nx : Int → α → Int) (k : Int) (l : List α) (i : Nat) : List α := mkL mk nx k (l.take i) ++ l.drop i
section
variable {α : Type} {mk : Int → α → α} {nx : Int → α → Int}
theorem cL : ∀ (k : Int) (l : List α), (mkL mk nx k l).length = l.length
  | _, [] => rfl
  | k, x :: r => by simp [mkL, cL (nx k x) r]
theorem sY : ∀ (k : Int) (a b : List α), mkL mk nx k (a ++ b) = mkL mk nx k a ++ mkL mk nx (kL nx k a) b
  | _, [], b => rfl
  | k, x :: r, b => by
    show mk k x :: mkL mk nx (nx k x) (r ++ b) = mk k x :: (mkL mk nx (nx k x) r ++ mkL mk nx (kL nx (nx k x) r) b)
    rw [sY]
theorem ej {k : Int} {l : List α} {i : Nat} (h : i < l.length) : kL nx k (l.take (i + 1)) = nx (kL nx k (l.take i)) l[i] := by
  rw [dV h]
  unfold kL
  rw [List.foldl_append]; rfl
theorem cQ {k : Int} {l : List α} {i : Nat} (h : i ≤ l.length) : (ptL mk nx k l i).length = l.length := by
  unfold ptL
  rw [List.length_append, cL, List.length_take, List.length_drop]; omega
theorem dI {k : Int} {l : List α} {i : Nat} (h : i < l.length) : (ptL mk nx k l i)[i]? = some l[i] := by
  unfold ptL
  rw [List.getElem?_append_right (by rw [cL, List.length_take]; omega), cL, List.length_take, show i - min i l.length = 0 by omega, List.drop_eq_getElem_cons h]; rfl
theorem fl {k : Int} {l : List α} {i : Nat} (h : i < l.length) : (ptL mk nx k l i).set i (mk (kL nx k (l.take i)) l[i]) = ptL mk nx k l (i + 1) := by
  unfold ptL
  rw [List.set_append_right _ _ (by rw [cL, List.length_take]; omega), cL, List.length_take, show i - min i l.length = 0 by omega, List.drop_eq_getElem_cons h, List.set_cons_zero, dV h, sY, List.append_assoc]; rfl
theorem d8 (k : Int) (l : List α) : ptL mk nx k l l.length = mkL mk nx k l := by
  unfold ptL
  rw [List.take_length, List.drop_length, List.append_nil]
theorem x4 {k : Int} {l : List α} {i : Nat} (h : i < l.length) : (mkL mk nx k l)[i]? = some (mk (kL nx k (l.take i)) l[i]) := by
  conv => lhs; rw [← List.take_append_drop i l, sY]
  rw [List.getElem?_append_right (by rw [cL, List.length_take]; omega), cL, List.length_take, show i - min i l.length = 0 by omega, List.drop_eq_getElem_cons h]; rfl
theorem je {c : Nat} : ∀ {l : List α} {k : Int}, (∀ x ∈ l, ∀ q, q ≤ nx q x ∧ nx q x ≤ q + c) → k ≤ kL nx k l ∧ kL nx k l ≤ k + c * l.length
  | [], k, _ => by show k ≤ k ∧ k ≤ k + _; simp
  | x :: r, k, h => by
    have h1 := h x List.mem_cons_self k
    have h2 := je (l := r) (k := nx k x) (fun y hy => h y (List.mem_cons_of_mem _ hy))
    have e : kL nx k (x :: r) = kL nx (nx k x) r := rfl
    have e2 : (c : Int) * (((x :: r).length : Nat) : Int) = c * (r.length : Nat) + c := by rw [List.length_cons, Int.natCast_add, Int.mul_add]; simp
    rw [e, e2]
    omega
theorem bH {c : Nat} {l : List α} {k : Int} {i : Nat} {n : Nat} (hn : l.length ≤ n) (h : ∀ x ∈ l, ∀ q, q ≤ nx q x ∧ nx q x ≤ q + c) (hi : i ≤ l.length) : k ≤ kL nx k (l.take i) ∧ kL nx k (l.take i) ≤ k + c * n := by
  have h1 := je (nx := nx) (c := c) (l := l.take i) (k := k) (fun x hx => h x (List.mem_of_mem_take hx))
  have h2 : (l.take i).length ≤ n := by rw [List.length_take]; omega
  have h3 : (c : Int) * ((l.take i).length : Nat) ≤ c * n := by exact_mod_cast Nat.mul_le_mul_left c h2
  omega
end
theorem acx {α : Type} (ob : α → bu) {l : List α} {ps : List (Nat × Nat)} {i : Nat} {p : Nat × Nat} {x : α} (hx : l[i]? = some x) (hp : ps[i]? = some p) : (nO ob l ps)[i]? = some (p.1, p.2, ob x) := by
  unfold nO
  rw [List.getElem?_zipWith, hx, hp]
theorem aaK {α : Type} (mk : α → Nat × Nat → List TV) {l : List α} {ps : List (Nat × Nat)} {i : Nat} {p : Nat × Nat} {x : α} (hx : l[i]? = some x) (hp : ps[i]? = some p) : (nR mk l ps)[i]? = some (mk x p) := by
  unfold nR
  rw [List.getElem?_zipWith, hx, hp]
theorem my {α β γ : Type} (f : α → β → γ) : ∀ {l : List α} {ps : List β} {i : Nat} {p : β} {x : α}, ps[i]? = some p → List.zipWith f (l.set i x) ps = (List.zipWith f l ps).set i (f x p)
  | [], _, _, _, _, _ => by simp
  | _ :: _, [], _, _, _, h => by simp at h
  | a :: l, q :: ps, 0, p, x, h => by simp at h; subst h; simp
  | a :: l, q :: ps, i + 1, p, x, h => by
    have := my f (l := l) (ps := ps) (i := i) (p := p) (x := x) (by simpa using h)
    simp [this]
theorem aaL {α : Type} (mk : α → Nat × Nat → List TV) {l : List α} {ps : List (Nat × Nat)} {i : Nat} {p : Nat × Nat} {x : α} (hp : ps[i]? = some p) : nR mk (l.set i x) ps = (nR mk l ps).set i (mk x p) := my mk hp
theorem pH {α : Type} : ∀ {l : List α} {i : Nat} {x : α}, l[i]? = some x → l.Perm (x :: l.eraseIdx i)
  | [], _, _, h => by simp at h
  | a :: l, 0, x, h => by simp at h; subst h; exact .refl _
  | a :: l, i + 1, x, h => by
    have := pH (l := l) (i := i) (x := x) (by simpa using h)
    exact (this.cons a).trans (.swap x a _)
theorem mI {α : Type} : ∀ (l : List α) (i : Nat) (x : α), (l.set i x).eraseIdx i = l.eraseIdx i
  | [], _, _ => rfl
  | a :: l, 0, x => rfl
  | a :: l, i + 1, x => by simp [mI l i x]
theorem xR {α : Type} (ob : α → bu) {l : List α} {ps : List (Nat × Nat)} {i : Nat} {p : Nat × Nat} {x : α} (hx : l[i]? = some x) (hp : ps[i]? = some p) : (nO ob l ps).Perm ((p.1, p.2, ob x) :: (nO ob l ps).eraseIdx i) := pH (acx ob hx hp)
theorem acy {α : Type} (ob : α → bu) {l : List α} {ps : List (Nat × Nat)} {i : Nat} {p : Nat × Nat} {x : α} (hl : i < l.length) (hp : ps[i]? = some p) : (nO ob (l.set i x) ps).Perm ((p.1, p.2, ob x) :: (nO ob l ps).eraseIdx i) := by
  have h := xR ob (l := l.set i x) (ps := ps) (i := i) (p := p) (x := x) (by rw [List.getElem?_set_self hl]) hp
  have e : (nO ob (l.set i x) ps).eraseIdx i = (nO ob l ps).eraseIdx i := by
    unfold nO
    rw [my _ hp, mI]
  rw [e] at h
  exact h
theorem uH {a z : Nat × Nat × bu} {N E : aI} (h : N.Perm (z :: E)) (R : aI) : dg (z :: a :: (E ++ R)) (a :: (N ++ R)) := .perm (by
  have h1 : (a :: (N ++ R)).Perm (a :: z :: (E ++ R)) := ((h.append_right R)).cons a
  exact (List.Perm.swap a z _).trans h1.symm)
theorem y0 {a z : Nat × Nat × bu} {N E : aI} (h : N.Perm (z :: E)) (R : aI) : dg (a :: (N ++ R)) (z :: a :: (E ++ R)) := .perm (by
  have h1 : (a :: (N ++ R)).Perm (a :: z :: (E ++ R)) := ((h.append_right R)).cons a
  exact h1.trans (List.Perm.swap z a _))
theorem qc (A B C : aI) : dg (B ++ (A ++ C)) (A ++ (B ++ C)) := .perm (by
  rw [← List.append_assoc, ← List.append_assoc]
  exact List.perm_append_comm.append_right C)
def co (k : Int) (_ : ByteArray) : ByteArray := iR k
def aW (k : Int) (_ : ByteArray) : Int := k + 1
theorem fp (l : List ByteArray) : ∀ x ∈ l, ∀ q, q ≤ aW q x ∧ aW q x ≤ q + (1 : Nat) := fun x _ q => by unfold aW; omega
theorem aay (l : List ByteArray) (k : Nat) (s : ByteArray) : (bE l).set k [TV.str s] = bE (l.set k s) := by simp [bE, List.map_set]
def gw (k : Int) (_ : ag) : ag := ⟨k, k + 1, k + 1 + 1, iR (k + 1 + 1 + 1)⟩
def cR (k : Int) (_ : ag) : Int := k + 1 + 1 + 1 + 1
theorem o8 (l : List ag) : ∀ x ∈ l, ∀ q, q ≤ cR q x ∧ cR q x ≤ q + (4 : Nat) := fun x _ q => by unfold cR; omega
def ga (k : Int) (_ : aw) : aw := ⟨k, decide ((k + 1).tmod 3 = 0), iR (k + 1 + 1), k + 1 + 1 + 1⟩
def cY (k : Int) (_ : aw) : Int := k + 1 + 1 + 1 + 1
theorem pg (l : List aw) : ∀ x ∈ l, ∀ q, q ≤ cY q x ∧ cY q x ≤ q + (4 : Nat) := fun x _ q => by unfold cY; omega
def bj (k : Int) (x : aa) : aa := ⟨iR (k), k + 1, mkL co aW (k + 1 + 1) x.fields⟩
def aG (k : Int) (x : aa) : Int := kL aW (k + 1 + 1) x.fields
theorem dD {l : List aa} (h : ∀ y ∈ l, aa.small 1048576 y) : ∀ x ∈ l, ∀ q, q ≤ aG q x ∧ aG q x ≤ q + (1048578 : Nat) := fun x hx q => by
  have h1 := h x hx
  have h2 := h1.2.1
  have h3 := je (nx := aW) (l := x.fields) (k := q + 1 + 1) (fp _)
  unfold aG
  omega
def eJ (k : Int) (x : ay) : ay := ⟨decide ((k).tmod 3 = 0), k + 1, k + 1 + 1, mkL gw cR (k + 1 + 1 + 1) x.instrs⟩
def cJ (k : Int) (x : ay) : Int := kL cR (k + 1 + 1 + 1) x.instrs
theorem mP {l : List ay} (h : ∀ y ∈ l, ay.small 1048576 y) : ∀ x ∈ l, ∀ q, q ≤ cJ q x ∧ cJ q x ≤ q + (4194307 : Nat) := fun x hx q => by
  have h1 := h x hx
  have h2 := h1.1
  have h3 := je (nx := cR) (l := x.instrs) (k := q + 1 + 1 + 1) (o8 _)
  unfold cJ
  omega
section
variable {G : World → Prop}
theorem fo (hst : az G) (s b : Nat) (l : List ByteArray) (k : Int) (hn : l.length ≤ 1048576) (hk : 0 ≤ k ∧ k ≤ 1000000000000000) : CtM Tryz.prog G 28 [.ms s b 0 l.length, .int .i64 k] [(s, b, .row 1 (bE (l)))] (fun _ : Unit => True) (fun _ => [(s, b, .row 1 (bE (mkL co aW k l)))]) (fun _ => .int .i64 (kL aW k l)) := by
  refine aC Tryz.func28 rfl Tryz.ntmps28 rfl rfl rfl fun w0 R gs objsR hG hR => ?_
  obtain rfl := hR.inv1
  clear hR
  repeat' (first | refine W_ ?_ | refine c_ (fun hc => ?_) (fun hc => ?_) | refine g_ (fun hg => ?_) (fun hg => ?_))
  apply aj (X := Nat) [0, 1000000] (fun x => [(5, .int .i64 (x : Int)), (1, .int .i64 (kL aW k (l.take x)))]) (fun x => (s, b, .row 1 (bE (ptL co aW k l x))) :: R) (fun x => x ≤ l.length) (fun x => l.length - x) 0 (Nat.zero_le _)
  exact kp_; exact nw_
  · exact .refl _
  intro i hi
  try dsimp only
  have hq := bH (k := k) (i := i) hn (fp l) hi
  by_cases hlt : i < l.length
  · have hrow : (bE (ptL co aW k l i))[i]? = some ((fun s : ByteArray => [TV.str s]) l[i]) := by
      simp only [bE, List.getElem?_map, dI hlt]; rfl
    have hset : (bE (ptL co aW k l i)).set i ((fun s : ByteArray => [TV.str s]) (co (kL aW k (l.take i)) l[i])) = bE (ptL co aW k l (i + 1)) := by
      rw [← fl hlt, aay]
    have hks := ej (nx := aW) (k := k) hlt
    have hrl : (bE (ptL co aW k l i)).length = l.length := by simp [bE, cQ hi]
    generalize bE (ptL co aW k l i) = rows at hrow hset hrl ⊢
    generalize kL aW k (l.take i) = q at hq hset hks ⊢
    generalize l[i] = x at hrow hset hks
    replace hrow : rows[i]? = some [.str x] := hrow
    have hks2 : kL aW k (l.take (i + 1)) = q + 1 := hks
    repeat' (first | refine W_ ?_ | refine a6 ?_ | ((with_reducible apply fN); rfl; kernel_rfl; (repeat (first | exact cf.nil | ((with_reducible apply cf.cons); rfl; exact .same _))); exact hG; exact hst; exact bX _ (by omega) (by omega)) | refine c_ (fun hc => ?_) (fun hc => ?_) | refine g_ (fun hg => ?_) (fun hg => ?_))
    refine ah (i + 1) (by omega) (by omega) (.of _ (dw.envCons rfl (dw.envCons (fw rfl (by rw [hks2])) dw.envNil)) od_ ?_)
    rw [← hset]
    (try simp only [])
    exact .refl _
  · obtain rfl : i = l.length := by omega
    rw [d8, List.take_length]
    repeat' (first | refine W_ ?_ | refine c_ (fun hc => ?_) (fun hc => ?_) | refine g_ (fun hg => ?_) (fun hg => ?_))
    exact av x_ rfl () trivial rfl (.cons _ _ _ _ (.nil R)) pk_ (.tmp _ _ rfl) rfl
theorem nP (hst : az G) (s b : Nat) (l : List ag) (k : Int) (hn : l.length ≤ 1048576) (hk : 0 ≤ k ∧ k ≤ 1000000000000000) : CtM Tryz.prog G 149 [.ms s b 0 l.length, .int .i64 k] [(s, b, .row 4 ((l).map (ag.tw 0)))] (fun _ : Unit => True) (fun _ => [(s, b, .row 4 ((mkL gw cR k l).map (ag.tw 0)))]) (fun _ => .int .i64 (kL cR k l)) := by
  refine aC Tryz.func149 rfl Tryz.ntmps149 rfl rfl rfl fun w0 R gs objsR hG hR => ?_
  obtain rfl := hR.inv1
  clear hR
  repeat' (first | refine W_ ?_ | refine c_ (fun hc => ?_) (fun hc => ?_) | refine g_ (fun hg => ?_) (fun hg => ?_))
  apply aj (X := Nat) [0, 1000000] (fun x => [(5, .int .i64 (x : Int)), (1, .int .i64 (kL cR k (l.take x)))]) (fun x => (s, b, .row 4 ((ptL gw cR k l x).map (ag.tw 0))) :: R) (fun x => x ≤ l.length) (fun x => l.length - x) 0 (Nat.zero_le _)
  exact kp_; exact nw_
  · exact .refl _
  intro i hi
  try dsimp only
  have hq := bH (k := k) (i := i) hn (o8 l) hi
  by_cases hlt : i < l.length
  · have hrow : ((ptL gw cR k l i).map (ag.tw 0))[i]? = some ((ag.tw 0) l[i]) := by
      simp only [List.getElem?_map, dI hlt]; rfl
    have hset : ((ptL gw cR k l i).map (ag.tw 0)).set i ((ag.tw 0) (gw (kL cR k (l.take i)) l[i])) = (ptL gw cR k l (i + 1)).map (ag.tw 0) := by
      rw [← fl hlt, List.map_set]
    have hks := ej (nx := cR) (k := k) hlt
    have hrl : ((ptL gw cR k l i).map (ag.tw 0)).length = l.length := by simp [cQ hi]
    generalize (ptL gw cR k l i).map (ag.tw 0) = rows at hrow hset hrl ⊢
    generalize kL cR k (l.take i) = q at hq hset hks ⊢
    generalize l[i] = x at hrow hset hks
    replace hrow : rows[i]? = some [.int .i64 x.op, .int .i64 x.a, .int .i64 x.b, .str x.text] := hrow
    have hr1 : (rows.set i [.int .i64 q, .int .i64 x.a, .int .i64 x.b, .str x.text])[i]? = some [.int .i64 q, .int .i64 x.a, .int .i64 x.b, .str x.text] := by rw [List.getElem?_set_self (by omega)]
    have hks2 : kL cR k (l.take (i + 1)) = q + 1 + 1 + 1 + 1 := hks
    repeat' (first | refine W_ ?_ | refine a6 ?_ | ((with_reducible apply fN); rfl; kernel_rfl; (repeat (first | exact cf.nil | ((with_reducible apply cf.cons); rfl; exact .same _))); exact hG; exact hst; exact bX _ (by omega) (by omega)) | refine c_ (fun hc => ?_) (fun hc => ?_) | refine g_ (fun hg => ?_) (fun hg => ?_))
    refine ah (i + 1) (by omega) (by omega) (.of _ (dw.envCons rfl (dw.envCons (fw rfl (by rw [hks2])) dw.envNil)) od_ ?_)
    rw [← hset]
    (try simp only [List.set_set])
    exact .refl _
  · obtain rfl : i = l.length := by omega
    rw [d8, List.take_length]
    repeat' (first | refine W_ ?_ | refine c_ (fun hc => ?_) (fun hc => ?_) | refine g_ (fun hg => ?_) (fun hg => ?_))
    exact av x_ rfl () trivial rfl (.cons _ _ _ _ (.nil R)) pk_ (.tmp _ _ rfl) rfl
theorem nM (hst : az G) (s b : Nat) (l : List aw) (k : Int) (hn : l.length ≤ 1048576) (hk : 0 ≤ k ∧ k ≤ 1000000000000000) : CtM Tryz.prog G 67 [.ms s b 0 l.length, .int .i64 k] [(s, b, .row 4 ((l).map (aw.tw 0)))] (fun _ : Unit => True) (fun _ => [(s, b, .row 4 ((mkL ga cY k l).map (aw.tw 0)))]) (fun _ => .int .i64 (kL cY k l)) := by
  refine aC Tryz.func67 rfl Tryz.ntmps67 rfl rfl rfl fun w0 R gs objsR hG hR => ?_
  obtain rfl := hR.inv1
  clear hR
  repeat' (first | refine W_ ?_ | refine c_ (fun hc => ?_) (fun hc => ?_) | refine g_ (fun hg => ?_) (fun hg => ?_))
  apply aj (X := Nat) [0, 1000000] (fun x => [(5, .int .i64 (x : Int)), (1, .int .i64 (kL cY k (l.take x)))]) (fun x => (s, b, .row 4 ((ptL ga cY k l x).map (aw.tw 0))) :: R) (fun x => x ≤ l.length) (fun x => l.length - x) 0 (Nat.zero_le _)
  exact kp_; exact nw_
  · exact .refl _
  intro i hi
  try dsimp only
  have hq := bH (k := k) (i := i) hn (pg l) hi
  by_cases hlt : i < l.length
  · have hrow : ((ptL ga cY k l i).map (aw.tw 0))[i]? = some ((aw.tw 0) l[i]) := by
      simp only [List.getElem?_map, dI hlt]; rfl
    have hset : ((ptL ga cY k l i).map (aw.tw 0)).set i ((aw.tw 0) (ga (kL cY k (l.take i)) l[i])) = (ptL ga cY k l (i + 1)).map (aw.tw 0) := by
      rw [← fl hlt, List.map_set]
    have hks := ej (nx := cY) (k := k) hlt
    have hrl : ((ptL ga cY k l i).map (aw.tw 0)).length = l.length := by simp [cQ hi]
    generalize (ptL ga cY k l i).map (aw.tw 0) = rows at hrow hset hrl ⊢
    generalize kL cY k (l.take i) = q at hq hset hks ⊢
    generalize l[i] = x at hrow hset hks
    replace hrow : rows[i]? = some [.int .i64 x.owner, .bool x.class_, .str x.selector, .int .i64 x.code] := hrow
    have hr1 : (rows.set i [.int .i64 q, .bool x.class_, .str x.selector, .int .i64 x.code])[i]? = some [.int .i64 q, .bool x.class_, .str x.selector, .int .i64 x.code] := by rw [List.getElem?_set_self (by omega)]
    have hks2 : kL cY k (l.take (i + 1)) = q + 1 + 1 + 1 + 1 := hks
    repeat' (first | refine W_ ?_ | refine a6 ?_ | ((with_reducible apply fN); rfl; kernel_rfl; (repeat (first | exact cf.nil | ((with_reducible apply cf.cons); rfl; exact .same _))); exact hG; exact hst; exact bX _ (by omega) (by omega)) | refine c_ (fun hc => ?_) (fun hc => ?_) | refine g_ (fun hg => ?_) (fun hg => ?_))
    refine ah (i + 1) (by omega) (by omega) (.of _ (dw.envCons rfl (dw.envCons (fw rfl (by rw [hks2])) dw.envNil)) od_ ?_)
    rw [← hset]
    (try simp only [List.set_set])
    exact .refl _
  · obtain rfl : i = l.length := by omega
    rw [d8, List.take_length]
    repeat' (first | refine W_ ?_ | refine c_ (fun hc => ?_) (fun hc => ?_) | refine g_ (fun hg => ?_) (fun hg => ?_))
    exact av x_ rfl () trivial rfl (.cons _ _ _ _ (.nil R)) pk_ (.tmp _ _ rfl) rfl
theorem fx (hst : az G) (s b : Nat) (l : List aa) (ps : List (Nat × Nat)) (hps : ps.length = l.length) (k : Int) (hn : l.length ≤ 1048576 ∧ ∀ y ∈ l, aa.small 1048576 y) (hk : 0 ≤ k ∧ k ≤ 100000000000000) :
    CtM Tryz.prog G 65 [.ms s b 0 l.length, .int .i64 k] ((s, b, .row 3 (nR iN l ps)) :: nO ko l ps) (fun _ : Unit => True) (fun _ => (s, b, .row 3 (nR iN (mkL bj aG k l) ps)) :: nO ko (mkL bj aG k l) ps) (fun _ => .int .i64 (kL aG k l)) := by
  refine aC Tryz.func65 rfl Tryz.ntmps65 rfl rfl rfl fun w0 R gs objsR hG hR => ?_
  obtain rfl := hR.eq
  clear hR
  obtain ⟨hn, hsm⟩ := hn
  repeat' (first | refine W_ ?_ | refine c_ (fun hc => ?_) (fun hc => ?_) | refine g_ (fun hg => ?_) (fun hg => ?_))
  apply aj (X := Nat) [0, 1000000] (fun x => [(5, .int .i64 (x : Int)), (1, .int .i64 (kL aG k (l.take x)))]) (fun x => (s, b, .row 3 (nR iN (ptL bj aG k l x) ps)) :: (nO ko (ptL bj aG k l x) ps ++ R)) (fun x => x ≤ l.length) (fun x => l.length - x) 0 (Nat.zero_le _)
  exact kp_; exact nw_
  · exact .refl _
  intro i hi
  try dsimp only
  have hq := bH (k := k) (i := i) hn (dD hsm) hi
  by_cases hlt : i < l.length
  · obtain ⟨p, hp⟩ : ∃ p, ps[i]? = some p := ⟨_, List.getElem?_eq_getElem (by omega)⟩
    have hpl : i < (ptL bj aG k l i).length := by rw [cQ hi]; exact hlt
    have hrow := aaK iN (dI (mk := bj) (nx := aG) (k := k) hlt) hp
    have hset := aaL iN (l := ptL bj aG k l i) (x := bj (kL aG k (l.take i)) l[i]) hp
    have hout := xR ko (dI (mk := bj) (nx := aG) (k := k) hlt) hp
    have hin := acy ko (x := bj (kL aG k (l.take i)) l[i]) hpl hp
    rw [fl hlt] at hset hin
    have hks := ej (nx := aG) (k := k) hlt
    have hrl : (nR iN (ptL bj aG k l i) ps).length = l.length := by rw [xw _ (by rw [cQ hi]; exact hps), cQ hi]
    have hb := hsm _ (List.getElem_mem hlt)
    generalize (nO ko (ptL bj aG k l i) ps).eraseIdx i = E at hout hin
    generalize nO ko (ptL bj aG k l i) ps = N0 at hout ⊢
    generalize nR iN (ptL bj aG k l i) ps = rows at hrow hset hrl ⊢
    generalize kL aG k (l.take i) = q at hq hset hks hin ⊢
    generalize l[i] = x at hrow hset hks hout hin hb
    replace hrow : rows[i]? = some [.str x.name, .int .i64 x.parent, .ms p.1 p.2 0 x.fields.length] := hrow
    have hr1 : (rows.set i [.str (iR (q)), .int .i64 x.parent, .ms p.1 p.2 0 x.fields.length])[i]? = some [.str (iR (q)), .int .i64 x.parent, .ms p.1 p.2 0 x.fields.length] := by rw [List.getElem?_set_self (by omega)]
    have hct := fo hst p.1 p.2 x.fields (q + 1 + 1) hb.2.1 (by omega)
    repeat' (first | refine W_ ?_ | refine a6 ?_ | ((with_reducible apply fN); rfl; kernel_rfl; (repeat (first | exact cf.nil | ((with_reducible apply cf.cons); rfl; exact .same _))); exact hG; exact hst; exact bX _ (by omega) (by omega)) | refine c_ (fun hc => ?_) (fun hc => ?_) | refine g_ (fun hg => ?_) (fun hg => ?_))
    refine kr (uH hout R) ?_
    repeat' (first | refine W_ ?_ | ((with_reducible apply aF); rfl; kernel_rfl; (repeat (first | exact aD.nil | ((with_reducible apply aD.cons); rfl))); exact hG; exact hct; exact .cons _ _ _ _ (.nil _); intro y hy; refine br ?_) | refine c_ (fun hc => ?_) (fun hc => ?_) | refine g_ (fun hg => ?_) (fun hg => ?_))
    refine ah (i + 1) (by omega) (by omega) (.of _ (dw.envCons rfl (dw.envCons (fw rfl (by rw [hks]; rfl)) dw.envNil)) od_ ?_)
    rw [hset]
    simp only [List.set_set]
    have hcl : iN (bj q x) p = [.str (iR (q)), .int .i64 (q + 1), .ms p.1 p.2 0 x.fields.length] := by
      unfold iN bj
      dsimp only
      rw [cL]
    rw [hcl]
    exact y0 hin R
  · obtain rfl : i = l.length := by omega
    rw [d8, List.take_length]
    repeat' (first | refine W_ ?_ | refine c_ (fun hc => ?_) (fun hc => ?_) | refine g_ (fun hg => ?_) (fun hg => ?_))
    exact av x_ rfl () trivial rfl (.cons _ _ _ _ (.app _ R)) (.refl _) (.tmp _ _ rfl) rfl
theorem qk (hst : az G) (s b : Nat) (l : List ay) (ps : List (Nat × Nat)) (hps : ps.length = l.length) (k : Int) (hn : l.length ≤ 1048576 ∧ ∀ y ∈ l, ay.small 1048576 y) (hk : 0 ≤ k ∧ k ≤ 100000000000000) :
    CtM Tryz.prog G 66 [.ms s b 0 l.length, .int .i64 k] ((s, b, .row 4 (nR iQ l ps)) :: nO ks l ps) (fun _ : Unit => True) (fun _ => (s, b, .row 4 (nR iQ (mkL eJ cJ k l) ps)) :: nO ks (mkL eJ cJ k l) ps) (fun _ => .int .i64 (kL cJ k l)) := by
  refine aC Tryz.func66 rfl Tryz.ntmps66 rfl rfl rfl fun w0 R gs objsR hG hR => ?_
  obtain rfl := hR.eq
  clear hR
  obtain ⟨hn, hsm⟩ := hn
  repeat' (first | refine W_ ?_ | refine c_ (fun hc => ?_) (fun hc => ?_) | refine g_ (fun hg => ?_) (fun hg => ?_))
  apply aj (X := Nat) [0, 1000000] (fun x => [(5, .int .i64 (x : Int)), (1, .int .i64 (kL cJ k (l.take x)))]) (fun x => (s, b, .row 4 (nR iQ (ptL eJ cJ k l x) ps)) :: (nO ks (ptL eJ cJ k l x) ps ++ R)) (fun x => x ≤ l.length) (fun x => l.length - x) 0 (Nat.zero_le _)
  exact kp_; exact nw_
  · exact .refl _
  intro i hi
  try dsimp only
  have hq := bH (k := k) (i := i) hn (mP hsm) hi
  by_cases hlt : i < l.length
  · obtain ⟨p, hp⟩ : ∃ p, ps[i]? = some p := ⟨_, List.getElem?_eq_getElem (by omega)⟩
    have hpl : i < (ptL eJ cJ k l i).length := by rw [cQ hi]; exact hlt
    have hrow := aaK iQ (dI (mk := eJ) (nx := cJ) (k := k) hlt) hp
    have hset := aaL iQ (l := ptL eJ cJ k l i) (x := eJ (kL cJ k (l.take i)) l[i]) hp
    have hout := xR ks (dI (mk := eJ) (nx := cJ) (k := k) hlt) hp
    have hin := acy ks (x := eJ (kL cJ k (l.take i)) l[i]) hpl hp
    rw [fl hlt] at hset hin
    have hks := ej (nx := cJ) (k := k) hlt
    have hrl : (nR iQ (ptL eJ cJ k l i) ps).length = l.length := by rw [xw _ (by rw [cQ hi]; exact hps), cQ hi]
    have hb := hsm _ (List.getElem_mem hlt)
    generalize (nO ks (ptL eJ cJ k l i) ps).eraseIdx i = E at hout hin
    generalize nO ks (ptL eJ cJ k l i) ps = N0 at hout ⊢
    generalize nR iQ (ptL eJ cJ k l i) ps = rows at hrow hset hrl ⊢
    generalize kL cJ k (l.take i) = q at hq hset hks hin ⊢
    generalize l[i] = x at hrow hset hks hout hin hb
    replace hrow : rows[i]? = some [.bool x.block, .int .i64 x.params, .int .i64 x.slots, .ms p.1 p.2 0 x.instrs.length] := hrow
    have hr1 : (rows.set i [.bool (decide ((q).tmod 3 = 0)), .int .i64 x.params, .int .i64 x.slots, .ms p.1 p.2 0 x.instrs.length])[i]? = some [.bool (decide ((q).tmod 3 = 0)), .int .i64 x.params, .int .i64 x.slots, .ms p.1 p.2 0 x.instrs.length] := by rw [List.getElem?_set_self (by omega)]
    have hct := nP hst p.1 p.2 x.instrs (q + 1 + 1 + 1) hb.1 (by omega)
    repeat' (first | refine W_ ?_ | refine a6 ?_ | ((with_reducible apply fN); rfl; kernel_rfl; (repeat (first | exact cf.nil | ((with_reducible apply cf.cons); rfl; exact .same _))); exact hG; exact hst; exact bX _ (by omega) (by omega)) | refine c_ (fun hc => ?_) (fun hc => ?_) | refine g_ (fun hg => ?_) (fun hg => ?_))
    refine kr (uH hout R) ?_
    repeat' (first | refine W_ ?_ | ((with_reducible apply aF); rfl; kernel_rfl; (repeat (first | exact aD.nil | ((with_reducible apply aD.cons); rfl))); exact hG; exact hct; exact .cons _ _ _ _ (.nil _); intro y hy; refine br ?_) | refine c_ (fun hc => ?_) (fun hc => ?_) | refine g_ (fun hg => ?_) (fun hg => ?_))
    refine ah (i + 1) (by omega) (by omega) (.of _ (dw.envCons rfl (dw.envCons (fw rfl (by rw [hks]; rfl)) dw.envNil)) od_ ?_)
    rw [hset]
    simp only [List.set_set]
    have hcl : iQ (eJ q x) p = [.bool (decide ((q).tmod 3 = 0)), .int .i64 (q + 1), .int .i64 (q + 1 + 1), .ms p.1 p.2 0 x.instrs.length] := by
      unfold iQ eJ
      dsimp only
      rw [cL]
    rw [hcl]
    exact y0 hin R
  · obtain rfl : i = l.length := by omega
    rw [d8, List.take_length]
    repeat' (first | refine W_ ?_ | refine c_ (fun hc => ?_) (fun hc => ?_) | refine g_ (fun hg => ?_) (fun hg => ?_))
    exact av x_ rfl () trivial rfl (.cons _ _ _ _ (.app _ R)) (.refl _) (.tmp _ _ rfl) rfl
end
set_option maxRecDepth 20000
def aaS (l : List aa) (y : (Nat × Nat) × List (Nat × Nat)) : aI := (y.1.1, y.1.2, .row 3 (nR iN l y.2)) :: nO ko l y.2
def acT (l : List ay) (y : (Nat × Nat) × List (Nat × Nat)) : aI := (y.1.1, y.1.2, .row 4 (nR iQ l y.2)) :: nO ks l y.2
def acU (l : List aw) (y : Nat × Nat) : aI := [(y.1, y.2, .row 4 (l.map (aw.tw 0)))]
def CbP : Type := ((Nat × Nat) × List (Nat × Nat)) × ((Nat × Nat) × List (Nat × Nat)) × (Nat × Nat)
def cbO (x : aA) (y : CbP) : aI := aaS x.classes y.1 ++ (acT x.codes y.2.1 ++ acU x.entries y.2.2)
def cbC (x : aA) (y : CbP) : List TV := [.ms y.1.1.1 y.1.1.2 0 x.classes.length, .ms y.2.1.1.1 y.2.1.1.2 0 x.codes.length, .ms y.2.2.1 y.2.2.2 0 x.entries.length, .int .i64 x.main]
def cbI (x : aA) (y : CbP) : Prop := y.1.2.length = x.classes.length ∧ y.2.1.2.length = x.codes.length
theorem io (A : aI) (x z : Nat × Nat × bu) (R : aI) : dg (x :: z :: (A ++ R)) (A ++ (x :: z :: R)) := .perm (by
  have h1 : (A ++ (x :: z :: R)).Perm (x :: (A ++ (z :: R))) := List.perm_middle
  have h2 : (A ++ (z :: R)).Perm (z :: (A ++ R)) := List.perm_middle
  exact (h1.trans (h2.cons x)).symm)
theorem lZ (A : aI) (x z : Nat × Nat × bu) (R : aI) : dg (A ++ (x :: z :: R)) (x :: z :: (A ++ R)) := .perm (by
  have h1 : (A ++ (x :: z :: R)).Perm (x :: (A ++ (z :: R))) := List.perm_middle
  have h2 : (A ++ (z :: R)).Perm (z :: (A ++ R)) := List.perm_middle
  exact h1.trans (h2.cons x))
theorem uw (A B C R : aI) : ((A ++ (B ++ C)) ++ R).Perm (C ++ (B ++ (A ++ R))) := by
  have h1 : (A ++ (B ++ C)).Perm (C ++ (B ++ A)) := by
    have : (A ++ (B ++ C)).Perm ((B ++ C) ++ A) := List.perm_append_comm
    refine this.trans ?_
    have h2 : ((B ++ C) ++ A).Perm ((C ++ B) ++ A) := (List.perm_append_comm).append_right A
    rw [List.append_assoc] at h2
    rw [List.append_assoc] at h2 ⊢
    exact h2
  have h3 := h1.append_right R
  simpa [List.append_assoc] using h3
theorem qC (A B C R : aI) : dg (C ++ (A ++ (B ++ R))) (B ++ (A ++ (C ++ R))) := .perm (by
  have h1 : (C ++ (A ++ B)).Perm (B ++ (A ++ C)) := by
    have h := (uw C A B [])
    simpa using h
  simpa [List.append_assoc] using h1.append_right R)
theorem oy (A B C R : aI) : dg (A ++ (B ++ (C ++ R))) (C ++ (A ++ (B ++ R))) := .perm (by
  have h1 : (A ++ (B ++ C)).Perm (C ++ (A ++ B)) := by
    rw [← List.append_assoc]
    exact List.perm_append_comm
  simpa [List.append_assoc] using h1.append_right R)
section
variable {G : World → Prop}
theorem nI (hst : az G) (lo : Nat) (x : aA) (hb : x.small 1048576) : CtM Tryz.prog G 14 [.agg (x.tw lo)] [] (cbI x) (cbO x) (fun y => .agg (cbC x y)) := by
  refine aC Tryz.func14 rfl Tryz.ntmps14 rfl rfl rfl fun w0 R gs objsR hG hR => ?_
  obtain rfl := hR.inv0
  clear hR
  have c1 := gK hst lo x.classes hb.1
  have c2 := sO hst lo x.codes hb.2.1
  have c3 := sB hst lo x.entries hb.2.2
  unfold aA.tw
  repeat' (first | refine W_ ?_ | refine aE ?_ | (refine ai ?_; intro ss bb) | refine ad ?_ | ((with_reducible apply aF); rfl; kernel_rfl; (repeat (first | exact aD.nil | ((with_reducible apply aD.cons); rfl))); exact hG; (first | exact c1 | exact c2 | exact c3); exact .nil _; intro y hy; refine cP (io _ _ _ _) ?_) | refine c_ (fun hc => ?_) (fun hc => ?_) | refine g_ (fun hg => ?_) (fun hg => ?_))
  rename_i yc hyc yd hyd
  refine av (t1 := .agg [.ms yc.1.1 yc.1.2 0 x.classes.length, .ms yd.1.1 yd.1.2 0 x.codes.length, .ms y.1 y.2 0 x.entries.length, .int .i64 x.main]) x_ rfl (yc, yd, y) ⟨hyc, hyd⟩ rfl (.app _ R) (.drop (.drop (.perm (uw _ _ _ R)))) (.cell _ _ _ _ _ rfl mm_ (by kernel_rfl) (by kernel_rfl) (by kernel_rfl)) rfl
def en (k : Int) (x : aA) : aA := ⟨mkL bj aG k x.classes, mkL eJ cJ (kL aG k x.classes) x.codes, mkL ga cY (kL cJ (kL aG k x.classes) x.codes) x.entries, x.main⟩
def bp (k : Int) (x : aA) : Int := kL cY (kL cJ (kL aG k x.classes) x.codes) x.entries
theorem jW {x : aA} (hb : x.small 1048576) (k : Int) : k ≤ bp k x ∧ bp k x ≤ k + 6000000000000 := by
  have h1 := bH (k := k) (i := x.classes.length) hb.1.1 (dD hb.1.2) (Nat.le_refl _)
  have h2 := bH (k := kL aG k x.classes) (i := x.codes.length) hb.2.1.1 (mP hb.2.1.2) (Nat.le_refl _)
  have h3 := bH (k := kL cJ (kL aG k x.classes) x.codes) (i := x.entries.length) hb.2.2.1 (pg x.entries) (Nat.le_refl _)
  rw [List.take_length] at h1 h2 h3
  unfold bp
  omega
theorem lu (hst : az G) (x : aA) (y : CbP) (hy : cbI x y) (hb : x.small 1048576) (k : Int) (hk : 0 ≤ k ∧ k ≤ 50000000000000) :
    CtM Tryz.prog G 18 [.agg (cbC x y), .int .i64 k] (cbO x y) (fun _ : Unit => True) (fun _ => cbO (en k x) y) (fun _ => .int .i64 (bp k x)) := by
  refine aC Tryz.func18 rfl Tryz.ntmps18 rfl rfl rfl fun w0 R gs objsR hG hR => ?_
  obtain rfl := hR.eq
  clear hR
  have h1 := bH (k := k) (i := x.classes.length) hb.1.1 (dD hb.1.2) (Nat.le_refl _)
  have h2 := bH (k := kL aG k x.classes) (i := x.codes.length) hb.2.1.1 (mP hb.2.1.2) (Nat.le_refl _)
  rw [List.take_length] at h1 h2
  have c1 := fx hst y.1.1.1 y.1.1.2 x.classes y.1.2 hy.1 k hb.1 (by omega)
  have c2 := qk hst y.2.1.1.1 y.2.1.1.2 x.codes y.2.1.2 hy.2 (kL aG k x.classes) hb.2.1 (by omega)
  have c3 := nM hst y.2.2.1 y.2.2.2 x.entries (kL cJ (kL aG k x.classes) x.codes) hb.2.2.1 (by omega)
  have e0 : cbO x y ++ R = aaS x.classes y.1 ++ (acT x.codes y.2.1 ++ (acU x.entries y.2.2 ++ R)) := by unfold cbO; simp [List.append_assoc]
  have e1 : cbO (en k x) y ++ R = aaS (en k x).classes y.1 ++ (acT (en k x).codes y.2.1 ++ (acU (en k x).entries y.2.2 ++ R)) := by unfold cbO; simp [List.append_assoc]
  rw [e0]
  unfold cbC
  repeat' (first | refine W_ ?_ | refine aE ?_ | ((with_reducible apply aF); rfl; kernel_rfl; (repeat (first | exact aD.nil | ((with_reducible apply aD.cons); rfl))); exact hG; exact c1; exact .app _ _; intro z hz; refine cP (qc _ _ _) ?_) | ((with_reducible apply aF); rfl; kernel_rfl; (repeat (first | exact aD.nil | ((with_reducible apply aD.cons); rfl))); exact hG; exact c2; exact .app _ _; intro z hz; refine cP (qC _ _ _ _) ?_) | ((with_reducible apply aF); rfl; kernel_rfl; (repeat (first | exact aD.nil | ((with_reducible apply aD.cons); rfl))); exact hG; exact c3; exact .app _ _; intro z hz) | refine c_ (fun hc => ?_) (fun hc => ?_) | refine g_ (fun hg => ?_) (fun hg => ?_))
  refine av x_ rfl () trivial rfl (.app _ R) ?_ (.tmp _ _ rfl) rfl
  rw [e1]
  exact oy _ _ _ R
end
set_option maxRecDepth 20000
section
variable {G : World → Prop}
set_option maxHeartbeats 1000000 in
theorem qt (hst : az G) (lo : Nat) (l : List ByteArray) (k : Int) (hn : l.length ≤ 1048576) (hk : 0 ≤ k ∧ k ≤ 1000000000000000) : Ct Tryz.prog G 29 [.sl lo 1 (bE (mkL co aW k l)), .int .i64 k] (fun _ => .int .i64 (kL aW k l)) := by
  refine ao Tryz.func29 rfl Tryz.ntmps29 rfl rfl fun w0 _ hG => ?_
  have hrl : (bE (mkL co aW k l)).length = l.length := by simp [bE, cL]
  have hget := fun i (h : i < l.length) => x4 (mk := co) (nx := aW) (k := k) h
  have hgr : ∀ i (h : i < l.length), (bE (mkL co aW k l))[i]? = some [.str (iR (kL aW k (l.take i)))] := fun i h => by
    simp only [bE, List.getElem?_map, hget i h]; rfl
  generalize bE (mkL co aW k l) = rows at hrl hgr ⊢
  repeat' (first | refine W_ ?_ | refine c_ (fun hc => ?_) (fun hc => ?_) | refine g_ (fun hg => ?_) (fun hg => ?_))
  apply aj (X := Nat) [0] (fun x => [(5, .int .i64 (x : Int)), (1, .int .i64 (kL aW k (l.take x)))]) (fun _ => []) (fun x => x ≤ l.length) (fun x => l.length - x) 0 (Nat.zero_le _)
  exact kp_; exact nw_
  · exact .refl _
  intro i hi
  try dsimp only
  have hq := bH (k := k) (i := i) hn (fp l) hi
  by_cases hlt : i < l.length
  · have hrow := hgr i hlt
    have hks : kL aW k (l.take (i + 1)) = kL aW k (l.take i) + 1 := ej hlt
    generalize kL aW k (l.take i) = q at hq hrow hks ⊢
    have hs0 : ¬ iR (q) ≠ iR (q) := fun h => h rfl
    have hm0 := bX (G := G) (q) (by omega) (by omega)
    repeat' (first | refine V_ ?_ | refine ab hG hst (hm0) ?_ | refine ac hG hst (hm0) ?_ | refine c_ (fun hc => ?_) (fun hc => ?_) | refine g_ (fun hg => ?_) (fun hg => ?_))
    all_goals first
      | exact ah (i + 1) (by omega) (by omega) (.of _ (dw.envCons rfl (dw.envCons (fw rfl (by rw [hks])) dw.envNil)) od_ pk_)
      | (exfalso; simp_all; done)
  · obtain rfl : i = l.length := by omega
    rw [List.take_length]
    repeat' (first | refine W_ ?_ | refine c_ (fun hc => ?_) (fun hc => ?_) | refine g_ (fun hg => ?_) (fun hg => ?_))
    exact r1_
end
end Go.Proofs.YtiihihgjiklnoaaGreatDoor
