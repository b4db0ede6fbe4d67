/- Part 8 of the proof: the texts TvA, LwT, FiJ, IvA, NeA. -/
import Derived.Test.YtigipcbnfeoliaaGreatDoorFi3
import Derived.Test.YtigipcbnfeoliaaGreatDoorFi5
import Derived.Test.YtigipcbnfeoliaaGreatDoorFi2
import Derived.Test.YtigipcbnfeoliaaGreatDoorFi1
import Derived.Lib.Join
set_option linter.all false
set_option maxHeartbeats 2000000
set_option maxRecDepth 20000
namespace Go.Proofs.YtigipcbnfeoliaaGreatDoor
open Go Go.RowKit
mutual
def PT.tvs : PT -> List TV
 | .int k n => [.int k n]
 | .bool b => [.bool b]
 | .str s => [.str s]
 | .agg l => PT.tvsL l
 | .sl _ _ m l => [.sl 0 m (PT.rowsL l)]
def PT.tvsL : List PT -> List TV
 | [] => []
 | t :: r => PT.tvs t ++ PT.tvsL r
def PT.rowsL : List PT -> List (List TV)
 | [] => []
 | t :: r => PT.tvs t :: PT.rowsL r
end
theorem PT.rowsL_map (l : List PT) : PT.rowsL l = l.map PT.tvs := by
 induction l with
 | nil => rfl
 | cons t r ih => simp [PT.rowsL, ih]
theorem PT.rows_flat (l : List PT) : (PT.rowsL l).flatten = PT.tvsL l := by
 induction l with
 | nil => rfl
 | cons t r ih => simp [PT.rowsL, PT.tvsL, ih]
def acB (w : World) (ts : List TV) (vs : List Value) : Prop := ts.length = vs.length /\ (∀ t ∈ ts, t.isCell = true) /\ ∀ (i : Nat) (t : TV) (v : Value), ts[i]? = some t -> vs[i]? = some v -> Rep w [] t v
theorem acB.append {w : World} {a b : List TV} {x y : List Value} (h : acB w a x) (k : acB w b y) : acB w (a ++ b) (x ++ y) := by
 refine ⟨by simp [h.1, k.1], fun t ht => ?_, fun i t v ht hv => ?_⟩
 ·rcases List.mem_append.1 ht with ht | ht
  ·exact h.2.1 t ht
  ·exact k.2.1 t ht
 ·by_cases hi : i < a.length
  ·rw [List.getElem?_append_left hi] at ht
   rw [List.getElem?_append_left (by rw [<- h.1]; exact hi)] at hv
   exact h.2.2 i t v ht hv
  ·rw [List.getElem?_append_right (by omega)] at ht
   rw [List.getElem?_append_right (by rw [<- h.1]; omega)] at hv
   rw [<- h.1] at hv
   exact k.2.2 _ t v ht hv
theorem acB.one {w : World} {t : TV} {v : Value} (h : Rep w [] t v) (hc : t.isCell = true) : acB w [t] [v] := ⟨rfl, by simpa using hc, fun i u x hu hx => by
 cases i with
 | zero => simp at hu hx; subst hu; subst hx; exact h
 | succ i => simp at hu⟩
mutual
theorem ado (w : World) (S : Nat -> Prop) : ∀ t : PT, d9 w S t -> acB w t.tvs t.cells
 | .int k n, _ => .one (.int k n) rfl
 | .bool b, _ => .one (.bool b) rfl
 | .str s, _ => .one (.str s) rfl
 | .agg l, h => by
   simp only [PT.tvs, PT.cells]
   simp only [d9] at h
   exact abs w S l h
 | .sl A c m l, h => by
   simp only [PT.tvs, PT.cells]
   simp only [d9] at h
   obtain ⟨h1, h2, h3, h4, h5⟩ := h
   have h6 := abs w S l h5
   have hlen : (PT.rowsL l).length = l.length := by rw [PT.rowsL_map]; simp
   refine .one ?_ rfl
   have key : ∀ j, ∃ u, ∀ t, (PT.tvsL l)[j]? = some t -> ∃ b o, A = some ⟨b, o, none⟩ /\ w.cell? ⟨b, o + j, none⟩ = some u /\ Rep w [] t u := fun j => by
     cases hj : (PT.cellsL l)[j]? with
     | none =>
       refine ⟨undef, fun t ht => ?_⟩
       have : j < (PT.tvsL l).length := (List.getElem?_eq_some_iff.1 ht).1
       rw [h6.1] at this
       rw [List.getElem?_eq_getElem this] at hj; cases hj
     | some u =>
       refine ⟨u, fun t ht => ?_⟩
       obtain ⟨b, o, e1, _, e2⟩ := h3 j u hj
       exact ⟨b, o, e1, e2, h6.2.2 j t u ht hj⟩
   have hr := Rep.sl (w := w) (objs := []) 0 m (PT.rowsL l) A c (by omega) h2 (fun r hr => by
       rw [PT.rowsL_map] at hr
       obtain ⟨t, ht, rfl⟩ := List.mem_map.1 hr
       rw [<- h4 t ht]
       exact (tt w S l h5 t ht).1) (fun t ht => by rw [PT.rows_flat] at ht; exact h6.2.1 t ht) (fun j => Classical.choose (key j))
     (fun j t hj => by
       rw [PT.rows_flat] at hj
       obtain ⟨b, o, e1, e2, _⟩ := Classical.choose_spec (key j) t hj
       exact ⟨b, o, e1, wY b, e2⟩)
     (fun j t hj => by
       rw [PT.rows_flat] at hj
       obtain ⟨b, o, _, _, e3⟩ := Classical.choose_spec (key j) t hj
       exact e3)
   rw [hlen] at hr
   exact hr
theorem abs (w : World) (S : Nat -> Prop) : ∀ l : List PT, cx w S l -> acB w (PT.tvsL l) (PT.cellsL l)
 | [], _ => ⟨rfl, by simp [PT.tvsL], by simp [PT.tvsL]⟩
 | t :: r, h => by
   simp only [PT.tvsL, PT.cellsL]
   simp only [cx] at h
   exact (ado w S t h.1).append (abs w S r h.2)
theorem tt (w : World) (S : Nat -> Prop) : ∀ l : List PT, cx w S l -> ∀ t ∈ l, acB w t.tvs t.cells
 | [], _, t, ht => by simp at ht
 | x :: r, h, t, ht => by
   simp only [cx] at h
   rcases List.mem_cons.1 ht with e | ht
   ·rw [e]; exact ado w S x h.1
   ·exact tt w S r h.2 t ht
end
theorem aY {α : Type} {p : α -> Prop} {l : List α} {i : Nat} (h : i < l.length) (ha : ∀ y ∈ l.take i, p y) (hx : p l[i]) : ∀ y ∈ l.take (i + 1), p y := fun y hy => by
 rw [List.take_add_one, List.getElem?_eq_getElem h] at hy
 rcases List.mem_append.1 hy with hy | hy
 ·exact ha y hy
 ·simp at hy; subst hy; exact hx
def gC {α : Type} (tw : α -> List TV) (z : List TV) (l : List α) (i : Nat) : List (List TV) := (l.take i).map tw ++ List.replicate (l.length - i) z
theorem e8 {α : Type} (tw : α -> List TV) (z : List TV) (l : List α) : List.replicate l.length z = gC tw z l 0 := by simp [gC]
theorem eO {α : Type} (tw : α -> List TV) (z : List TV) (l : List α) : gC tw z l l.length = l.map tw := by simp [gC]
theorem fV {α : Type} (tw : α -> List TV) (z : List TV) {l : List α} {i : Nat} (h : i < l.length) : (gC tw z l i)[i]? = some z /\ (gC tw z l i).set i (tw l[i]) = gC tw z l (i + 1) := by
 have e : l.length - i = (l.length - (i + 1)) + 1 := by omega
 have hl : ((l.take i).map tw).length = i := by simp; omega
 unfold gC
 refine ⟨?_, ?_⟩
 ·rw [List.getElem?_append_right (by omega), hl, Nat.sub_self, e, List.replicate_succ]; rfl
 ·rw [List.set_append_right _ _ (by omega), hl, Nat.sub_self, e, List.replicate_succ, List.set_cons_zero, show l.take (i + 1) = l.take i ++ [l[i]] from by rw [List.take_add_one, List.getElem?_eq_getElem h]; rfl, List.map_append, List.append_assoc]
  rfl
def iM (B : Nat) (objs : aF) (K : Nat) (l l' : List TV) : Prop := l'.length = l.length /\ ∀ (j : Nat) (t t' : TV), l[j]? = some t -> l'[j]? = some t' -> Fin B objs K t t'
theorem iM.nil {B : Nat} {objs : aF} {K : Nat} : iM B objs K [] [] := ⟨rfl, by simp⟩
theorem iM.cons {B : Nat} {objs : aF} {K : Nat} {t t' : TV} {l l' : List TV} (h : Fin B objs K t t') (hr : iM B objs K l l') : iM B objs K (t :: l) (t' :: l') := ⟨by simp [hr.1], fun j u u' h1 h2 => by
 cases j with
 | zero => simp at h1 h2; subst h1; subst h2; exact h
 | succ j => exact hr.2 j u u' (by simpa using h1) (by simpa using h2)⟩
theorem iM.append {B : Nat} {objs : aF} {K : Nat} {a a' b b' : List TV} (h : iM B objs K a a') (k : iM B objs K b b') : iM B objs K (a ++ b) (a' ++ b') := ⟨by simp [h.1, k.1], fun j u u' h1 h2 => by
 by_cases hj : j < a.length
 ·rw [List.getElem?_append_left hj] at h1
  rw [List.getElem?_append_left (by rw [h.1]; exact hj)] at h2
  exact h.2 j u u' h1 h2
 ·rw [List.getElem?_append_right (by omega)] at h1
  rw [List.getElem?_append_right (by rw [h.1]; omega)] at h2
  rw [h.1] at h2
  exact k.2 _ u u' h1 h2⟩
theorem iM.rows {α : Type} {B : Nat} {objs : aF} {K : Nat} {f f' : α -> List TV} (h : ∀ x, iM B objs K (f x) (f' x)) : ∀ l : List α, iM B objs K (l.map f).flatten (l.map f').flatten
 | [] => .nil
 | x :: r => by simpa using (h x).append (iM.rows h r)
theorem iM.lens {α : Type} {f f' : α -> List TV} (h : ∀ x, (f' x).length = (f x).length) (l : List α) : (l.map f').map List.length = (l.map f).map List.length := by
 induction l with
 | nil => rfl
 | cons x r ih => simpa [h x] using ih
theorem ck {α : Type} {B : Nat} {objs : aF} {K m : Nat} {f f' : α -> List TV} (h : ∀ x, iM B objs K (f x) (f' x)) (l : List α) : Fin B objs K (.sl B m (l.map f)) (.sl K m (l.map f')) :=
 .sl B m _ _ (Nat.le_refl _) (iM.lens (fun x => (h x).1) l) (iM.rows h l).2
theorem aa3 {α : Type} {B : Nat} {objs : aF} {K s b m : Nat} {f f' : α -> List TV} (h : ∀ x, iM B objs K (f x) (f' x)) {l : List α} (hm : (s, b, bv.row m (l.map f)) ∈ objs) : Fin B objs K (.ms s b 0 l.length) (.sl K m (l.map f')) :=
 .ms s b 0 l.length m _ (l.map f) _ hm (by simp) (by rw [List.drop_zero, List.take_of_length_le (by simp)]) (iM.lens (fun x => (h x).1) l) (iM.rows h l).2
theorem lU {B : Nat} {objs : aF} {K : Nat} {l l' : List TV} (h : iM B objs K l l') : Fin B objs K (.agg l) (.agg l') := .agg l l' h.1 h.2
theorem cB {l : List ByteArray} {i : Nat} (h : i < l.length) : (aT l)[i]? = some [.str l[i]] := aL h
theorem aG (l : List ByteArray) : (aT l).length = l.length := by simp [aT]
section
variable {G : World -> Prop}
theorem mV (lo : Nat) (l : List ByteArray) (left : Int) (h : 0 <= left /\ left <= 1048576) (hb : l.length <= 9223372036854775807 /\ ∀ y ∈ l, ByteArray.size y <= 9223372036854775807) : CtM Tryz.prog G 97 [.sl lo 1 (aT l), .int .i64 left] [] (fun y : Int => -1 <= y /\ y <= left /\ (0 <= y -> l.length <= 1048576 /\ ∀ y ∈ l, ByteArray.size y <= 1048576)) (fun _ => []) (fun y => .int .i64 y) := by
 refine aB Tryz.func97 rfl Tryz.ntmps97 rfl rfl rfl fun w0 R gs objsR hG hR => ?_
 obtain rfl := hR.inv0
 clear hR
 have hlen := aG l
 have hl1 := hb.1
 by_cases hn : left - l.length < 0
 ·repeat' refine W_ ?_
  exact az x_ rfl (-1) ⟨by omega, by omega, fun h => by omega⟩ rfl (.nil R) (.refl _) (.tmp _ _ rfl) rfl
 ·repeat' refine W_ ?_
  apply ai (X := Nat × Int) [0, 1000000] (fun x => [(5, .int .i64 (x.1 : Int)), (1, .int .i64 x.2)]) (fun _ => R) (fun x => x.1 <= l.length /\ 0 <= x.2 /\ x.2 <= left /\ ∀ y ∈ l.take x.1, ByteArray.size y <= 1048576) (fun x => l.length - x.1) (0, left - l.length) ⟨Nat.zero_le _, by dsimp only; omega, by dsimp only; omega, by simp⟩
  exact kp_; exact nw_
  ·exact .refl _
  rintro ⟨i, lf⟩ ⟨hi, h0, h1, hs⟩
  dsimp only at hi h0 h1 hs |-
  by_cases hlt : i < l.length
  ·have hrow := cB hlt
   have hbi := hb.2 _ (List.getElem_mem hlt)
   have hta := aY (p := fun y => ByteArray.size y <= 1048576) hlt hs
   generalize l[i] = x at hrow hbi hta
   repeat' (first | refine W_ ?_ | refine c_ (fun hc => ?_) (fun hc => ?_))
   all_goals first
     | exact az x_ rfl (-1) ⟨by omega, by omega, fun h => by omega⟩ rfl (.nil R) (.refl _) (.tmp _ _ rfl) rfl
     | exact ah (i + 1, lf - x.size) ⟨by dsimp only; omega, by dsimp only; omega, by dsimp only; omega, hta (by omega)⟩ (by dsimp only; omega) (.of _ nw_ od_ pk_)
  ·rw [List.take_of_length_le (by omega)] at hs
   repeat' refine W_ ?_
   exact az x_ rfl lf ⟨by omega, by omega, fun _ => ⟨by omega, hs⟩⟩ rfl (.nil R) (.refl _) (.tmp _ _ rfl) rfl
theorem kQ (l1 l2 : Nat) (l : List ByteArray) (hn : l.length <= 1099600000000) : Ct Tryz.prog G 17 [.sl l1 1 (aT l), .sl l2 1 (aT l)] (fun _ => .bool true) := by
 refine aq Tryz.func17 rfl Tryz.ntmps17 rfl rfl fun w0 _ hG => ?_
 have hlen := aG l
 repeat' refine W_ ?_
 apply ai (X := Nat) [0, 1] (fun i => [(5, .int .i64 (i : Int))]) (fun _ => []) (fun i => i <= l.length) (fun i => l.length - i) 0 (Nat.zero_le _)
 exact kp_; exact nw_
 ·exact .refl _
 intro i hi
 try dsimp only
 by_cases hlt : i < l.length
 ·have hrow := cB hlt
  generalize l[i] = x at hrow
  have hx : ¬ x ≠ x := fun h => h rfl
  repeat' refine V_ ?_
  exact ah (i + 1) (by omega) (by omega) (.of _ nw_ od_ pk_)
 ·repeat' refine W_ ?_
  exact r1_
theorem mL (l1 l2 : Nat) (l : List ByteArray) (hn : l.length <= 1048576) : Ct Tryz.prog G 17 [.sl l1 1 (aT l), .sl l2 1 (aT l)] (fun _ => .bool true) := kQ l1 l2 l (by omega)
end
def ag.tw (lo : Nat) (x : ag) : List TV := [.int .i64 x.op, .int .i64 x.a, .int .i64 x.b, .str x.text]
def ag.small (n : Nat) (x : ag) : Prop := (x.text.size <= n)
def ag.tz : List TV := [.int .i64 0, .int .i64 0, .int .i64 0, .str ⟨#[]⟩]
theorem ag.fin (B K : Nat) (objs : aF) (x : ag) : iM B objs K (x.tw B) (x.tw K) := .cons (.flat rfl) (.cons (.flat rfl) (.cons (.flat rfl) (.cons (.flat rfl) (.nil))))
theorem ag.len (lo : Nat) (l : List ag) : (l.map (ag.tw lo)).length = l.length := by simp
section
variable {G : World -> Prop}
theorem ya (hst : aC G) (lo : Nat) (x : ag) (left : Int) (h : 0 <= left /\ left <= 1048576) (hb : x.small 9223372036854775807) : CtM Tryz.prog G 294 [.agg (x.tw lo), .int .i64 left] [] (fun y : Int => -1 <= y /\ y <= left /\ (0 <= y -> x.small 1048576)) (fun _ => []) (fun y => .int .i64 y) := by
 refine aB Tryz.func294 rfl Tryz.ntmps294 rfl rfl rfl fun w0 R gs objsR hG hR => ?_
 obtain rfl := hR.inv0
 clear hR
 unfold ag.small at hb
 have hb1 : x.text.size <= 9223372036854775807 := hb
 unfold ag.tw
 repeat' (first | refine W_ ?_ | refine aJ ?_ | refine c_ (fun hc => ?_) (fun hc => ?_))
 all_goals first
   | exact az x_ rfl (-1) ⟨by omega, by omega, fun h => by omega⟩ rfl (.nil R) (.refl _) (.tmp _ _ rfl) rfl
   | (refine az x_ rfl _ ⟨?_, ?_, fun _ => ?_⟩ rfl (.nil R) (.refl _) (.tmp _ _ rfl) rfl
      ·omega
      ·omega
      ·show _ <= _; omega)
theorem uQ (hst : aC G) (lo : Nat) (l : List ag) (left : Int) (h : 0 <= left /\ left <= 1048576) (hb : l.length <= 9223372036854775807 /\ ∀ y ∈ l, ag.small 9223372036854775807 y) : CtM Tryz.prog G 246 [.sl lo 4 (l.map (ag.tw lo)), .int .i64 left] [] (fun y : Int => -1 <= y /\ y <= left /\ (0 <= y -> l.length <= 1048576 /\ ∀ y ∈ l, ag.small 1048576 y)) (fun _ => []) (fun y => .int .i64 y) := by
 refine aB Tryz.func246 rfl Tryz.ntmps246 rfl rfl rfl fun w0 R gs objsR hG hR => ?_
 obtain rfl := hR.inv0
 clear hR
 have hlen := ag.len lo l
 have hl1 := hb.1
 by_cases hn : left - l.length < 0
 ·repeat' refine W_ ?_
  exact az x_ rfl (-1) ⟨by omega, by omega, fun h => by omega⟩ rfl (.nil R) (.refl _) (.tmp _ _ rfl) rfl
 ·repeat' refine W_ ?_
  apply ai (X := Nat × Int) [0, 1000000] (fun x => [(5, .int .i64 (x.1 : Int)), (1, .int .i64 x.2)]) (fun _ => R) (fun x => x.1 <= l.length /\ 0 <= x.2 /\ x.2 <= left /\ ∀ y ∈ l.take x.1, ag.small 1048576 y) (fun x => l.length - x.1) (0, left - l.length) ⟨Nat.zero_le _, by dsimp only; omega, by dsimp only; omega, by simp⟩
  exact kp_; exact nw_
  ·exact .refl _
  rintro ⟨i, lf⟩ ⟨hi, h0, h1, hs⟩
  dsimp only at hi h0 h1 hs |-
  by_cases hlt : i < l.length
  ·have hrow : (l.map (ag.tw lo))[i]? = some (l[i].tw lo) := aL hlt
   have hbi := hb.2 _ (List.getElem_mem hlt)
   have hta := aY (p := ag.small 1048576) hlt hs
   generalize l[i] = x at hrow hbi hta
   have hct := ya hst lo x lf (by omega) hbi
   unfold ag.tw at hct
   rw [show x.tw lo = [.int .i64 x.op, .int .i64 x.a, .int .i64 x.b, .str x.text] from rfl] at hrow
   repeat' (first | refine W_ ?_ | ((with_reducible apply aE); rfl; kernel_rfl; (repeat (first | exact ay.nil | ((with_reducible apply ay.cons); rfl))); exact hG; exact hct; exact .nil _; intro y hy; refine bL ?_) | refine c_ (fun hc => ?_) (fun hc => ?_))
   all_goals first
     | exact az x_ rfl (-1) ⟨by omega, by omega, fun h => by omega⟩ rfl (.nil R) (.refl _) (.tmp _ _ rfl) rfl
     | exact ah (i + 1, y) ⟨by dsimp only; omega, by dsimp only; omega, by dsimp only; omega, hta (hy.2.2 (by omega))⟩ (by dsimp only; omega) (.of _ nw_ od_ pk_)
  ·rw [List.take_of_length_le (by omega)] at hs
   repeat' refine W_ ?_
   exact az x_ rfl lf ⟨by omega, by omega, fun _ => ⟨by omega, hs⟩⟩ rfl (.nil R) (.refl _) (.tmp _ _ rfl) rfl
theorem yS (hst : aC G) (lo : Nat) (x : ag) (hb : x.small 1048576) : Ct Tryz.prog G 303 [.agg (x.tw lo)] (fun K => .agg (x.tw K)) := by
 refine aq Tryz.func303 rfl Tryz.ntmps303 rfl rfl fun w0 _ hG => ?_
 unfold ag.small at hb
 skip
 repeat' (first | refine W_ ?_ | refine aJ ?_ | (refine ak ?_; intro ss bb) | refine ae ?_)
 refine aD x_ rfl (.cell _ _ _ _ _ rfl mm_ (by kernel_rfl) (by kernel_rfl) (by kernel_rfl)) (fun _ => ?_)
 exact lU (ag.fin _ _ _ x)
theorem zk (hst : aC G) (l1 l2 : Nat) (x : ag) (hb : x.small 1048576) : Ct Tryz.prog G 304 [.agg (x.tw l1), .agg (x.tw l2)] (fun _ => .bool true) := by
 refine aq Tryz.func304 rfl Tryz.ntmps304 rfl rfl fun w0 _ hG => ?_
 unfold ag.small at hb
 have hnetext : ¬ x.text ≠ x.text := fun h => h rfl
 unfold ag.tw
 repeat' (first | refine W_ ?_ | refine aJ ?_)
 all_goals first
   | (exfalso; simp at hc; done)
   | (exact r1_)
theorem vv (hst : aC G) (l1 l2 : Nat) (l : List ag) (hb : l.length <= 1048576 /\ ∀ y ∈ l, ag.small 1048576 y) : Ct Tryz.prog G 259 [.sl l1 4 (l.map (ag.tw l1)), .sl l2 4 (l.map (ag.tw l2))] (fun _ => .bool true) := by
 refine aq Tryz.func259 rfl Tryz.ntmps259 rfl rfl fun w0 _ hG => ?_
 have hlen := ag.len l1 l
 have hlen2 := ag.len l2 l
 have hl1 := hb.1
 repeat' refine W_ ?_
 apply ai (X := Nat) [0, 1] (fun i => [(5, .int .i64 (i : Int))]) (fun _ => []) (fun i => i <= l.length) (fun i => l.length - i) 0 (Nat.zero_le _)
 exact kp_; exact nw_
 ·exact .refl _
 intro i hi
 try dsimp only
 by_cases hlt : i < l.length
 ·have hr1 : (l.map (ag.tw l1))[i]? = some (l[i].tw l1) := aL hlt
  have hr2 : (l.map (ag.tw l2))[i]? = some (l[i].tw l2) := aL hlt
  have hbi := hb.2 _ (List.getElem_mem hlt)
  generalize l[i] = x at hr1 hr2 hbi
  have hct := zk hst l1 l2 x hbi
  unfold ag.tw at hct
  rw [show x.tw l1 = [.int .i64 x.op, .int .i64 x.a, .int .i64 x.b, .str x.text] from rfl] at hr1
  rw [show x.tw l2 = [.int .i64 x.op, .int .i64 x.a, .int .i64 x.b, .str x.text] from rfl] at hr2
  repeat' (first | refine V_ ?_ | refine ad hG hst (hct) ?_)
  exact ah (i + 1) (by omega) (by omega) (.of _ nw_ od_ pk_)
 ·repeat' refine W_ ?_
  exact r1_
end
def aw.tw (lo : Nat) (x : aw) : List TV := [.bool x.block, .int .i64 x.params, .int .i64 x.slots, .sl lo 4 (x.instrs.map (ag.tw lo))]
def aw.small (n : Nat) (x : aw) : Prop := (x.instrs.length <= n /\ ∀ y ∈ x.instrs, ag.small n y)
def aw.tz : List TV := [.bool false, .int .i64 0, .int .i64 0, .nils]
theorem aw.fin (B K : Nat) (objs : aF) (x : aw) : iM B objs K (x.tw B) (x.tw K) := .cons (.flat rfl) (.cons (.flat rfl) (.cons (.flat rfl) (.cons (ck (fun x => ag.fin B K objs x) _) (.nil))))
theorem aw.len (lo : Nat) (l : List aw) : (l.map (aw.tw lo)).length = l.length := by simp
section
variable {G : World -> Prop}
theorem abv (hst : aC G) (lo : Nat) (x : aw) (left : Int) (h : 0 <= left /\ left <= 1048576) (hb : x.small 9223372036854775807) : CtM Tryz.prog G 184 [.agg (x.tw lo), .int .i64 left] [] (fun y : Int => -1 <= y /\ y <= left /\ (0 <= y -> x.small 1048576)) (fun _ => []) (fun y => .int .i64 y) := by
 refine aB Tryz.func184 rfl Tryz.ntmps184 rfl rfl rfl fun w0 R gs objsR hG hR => ?_
 obtain rfl := hR.inv0
 clear hR
 unfold aw.small at hb
 skip
 unfold aw.tw
 repeat' (first | refine W_ ?_ | refine aJ ?_ | ((with_reducible apply aE); rfl; kernel_rfl; (repeat (first | exact ay.nil | ((with_reducible apply ay.cons); rfl))); exact hG; exact uQ hst lo x.instrs _ (by omega) hb; exact .nil _; intro y1 hy1; refine bL ?_) | refine c_ (fun hc => ?_) (fun hc => ?_))
 all_goals first
   | exact az x_ rfl (-1) ⟨by omega, by omega, fun h => by omega⟩ rfl (.nil R) (.refl _) (.tmp _ _ rfl) rfl
   | (refine az x_ rfl _ ⟨?_, ?_, fun _ => ?_⟩ rfl (.nil R) (.refl _) (.tmp _ _ rfl) rfl
      ·omega
      ·omega
      ·exact hy1.2.2 (by omega))
theorem zg (hst : aC G) (lo : Nat) (l : List aw) (left : Int) (h : 0 <= left /\ left <= 1048576) (hb : l.length <= 9223372036854775807 /\ ∀ y ∈ l, aw.small 9223372036854775807 y) : CtM Tryz.prog G 94 [.sl lo 4 (l.map (aw.tw lo)), .int .i64 left] [] (fun y : Int => -1 <= y /\ y <= left /\ (0 <= y -> l.length <= 1048576 /\ ∀ y ∈ l, aw.small 1048576 y)) (fun _ => []) (fun y => .int .i64 y) := by
 refine aB Tryz.func94 rfl Tryz.ntmps94 rfl rfl rfl fun w0 R gs objsR hG hR => ?_
 obtain rfl := hR.inv0
 clear hR
 have hlen := aw.len lo l
 have hl1 := hb.1
 by_cases hn : left - l.length < 0
 ·repeat' refine W_ ?_
  exact az x_ rfl (-1) ⟨by omega, by omega, fun h => by omega⟩ rfl (.nil R) (.refl _) (.tmp _ _ rfl) rfl
 ·repeat' refine W_ ?_
  apply ai (X := Nat × Int) [0, 1000000] (fun x => [(5, .int .i64 (x.1 : Int)), (1, .int .i64 x.2)]) (fun _ => R) (fun x => x.1 <= l.length /\ 0 <= x.2 /\ x.2 <= left /\ ∀ y ∈ l.take x.1, aw.small 1048576 y) (fun x => l.length - x.1) (0, left - l.length) ⟨Nat.zero_le _, by dsimp only; omega, by dsimp only; omega, by simp⟩
  exact kp_; exact nw_
  ·exact .refl _
  rintro ⟨i, lf⟩ ⟨hi, h0, h1, hs⟩
  dsimp only at hi h0 h1 hs |-
  by_cases hlt : i < l.length
  ·have hrow : (l.map (aw.tw lo))[i]? = some (l[i].tw lo) := aL hlt
   have hbi := hb.2 _ (List.getElem_mem hlt)
   have hta := aY (p := aw.small 1048576) hlt hs
   generalize l[i] = x at hrow hbi hta
   have hct := abv hst lo x lf (by omega) hbi
   unfold aw.tw at hct
   rw [show x.tw lo = [.bool x.block, .int .i64 x.params, .int .i64 x.slots, .sl lo 4 (x.instrs.map (ag.tw lo))] from rfl] at hrow
   repeat' (first | refine W_ ?_ | ((with_reducible apply aE); rfl; kernel_rfl; (repeat (first | exact ay.nil | ((with_reducible apply ay.cons); rfl))); exact hG; exact hct; exact .nil _; intro y hy; refine bL ?_) | refine c_ (fun hc => ?_) (fun hc => ?_))
   all_goals first
     | exact az x_ rfl (-1) ⟨by omega, by omega, fun h => by omega⟩ rfl (.nil R) (.refl _) (.tmp _ _ rfl) rfl
     | exact ah (i + 1, y) ⟨by dsimp only; omega, by dsimp only; omega, by dsimp only; omega, hta (hy.2.2 (by omega))⟩ (by dsimp only; omega) (.of _ nw_ od_ pk_)
  ·rw [List.take_of_length_le (by omega)] at hs
   repeat' refine W_ ?_
   exact az x_ rfl lf ⟨by omega, by omega, fun _ => ⟨by omega, hs⟩⟩ rfl (.nil R) (.refl _) (.tmp _ _ rfl) rfl
theorem abd (hst : aC G) (l1 l2 : Nat) (x : aw) (hb : x.small 1048576) : Ct Tryz.prog G 209 [.agg (x.tw l1), .agg (x.tw l2)] (fun _ => .bool true) := by
 refine aq Tryz.func209 rfl Tryz.ntmps209 rfl rfl fun w0 _ hG => ?_
 unfold aw.small at hb
 have hsinstrs := hb
 unfold aw.tw
 repeat' (first | refine W_ ?_ | refine aJ ?_ | refine ac hG hst (vv hst l1 l2 x.instrs hsinstrs) ?_ | refine c_ (fun hc => ?_) (fun hc => ?_))
 all_goals first
   | (exfalso; simp at hc; done)
   | (exact r1_)
theorem yO (hst : aC G) (l1 l2 : Nat) (l : List aw) (hb : l.length <= 1048576 /\ ∀ y ∈ l, aw.small 1048576 y) : Ct Tryz.prog G 129 [.sl l1 4 (l.map (aw.tw l1)), .sl l2 4 (l.map (aw.tw l2))] (fun _ => .bool true) := by
 refine aq Tryz.func129 rfl Tryz.ntmps129 rfl rfl fun w0 _ hG => ?_
 have hlen := aw.len l1 l
 have hlen2 := aw.len l2 l
 have hl1 := hb.1
 repeat' refine W_ ?_
 apply ai (X := Nat) [0, 1] (fun i => [(5, .int .i64 (i : Int))]) (fun _ => []) (fun i => i <= l.length) (fun i => l.length - i) 0 (Nat.zero_le _)
 exact kp_; exact nw_
 ·exact .refl _
 intro i hi
 try dsimp only
 by_cases hlt : i < l.length
 ·have hr1 : (l.map (aw.tw l1))[i]? = some (l[i].tw l1) := aL hlt
  have hr2 : (l.map (aw.tw l2))[i]? = some (l[i].tw l2) := aL hlt
  have hbi := hb.2 _ (List.getElem_mem hlt)
  generalize l[i] = x at hr1 hr2 hbi
  have hct := abd hst l1 l2 x hbi
  unfold aw.tw at hct
  rw [show x.tw l1 = [.bool x.block, .int .i64 x.params, .int .i64 x.slots, .sl l1 4 (x.instrs.map (ag.tw l1))] from rfl] at hr1
  rw [show x.tw l2 = [.bool x.block, .int .i64 x.params, .int .i64 x.slots, .sl l2 4 (x.instrs.map (ag.tw l2))] from rfl] at hr2
  repeat' (first | refine V_ ?_ | refine ad hG hst (hct) ?_)
  exact ah (i + 1) (by omega) (by omega) (.of _ nw_ od_ pk_)
 ·repeat' refine W_ ?_
  exact r1_
end
def av.tw (lo : Nat) (x : av) : List TV := [.int .i64 x.owner, .bool x.class_, .str x.selector, .int .i64 x.code]
def av.small (n : Nat) (x : av) : Prop := (x.selector.size <= n)
def av.tz : List TV := [.int .i64 0, .bool false, .str ⟨#[]⟩, .int .i64 0]
theorem av.fin (B K : Nat) (objs : aF) (x : av) : iM B objs K (x.tw B) (x.tw K) := .cons (.flat rfl) (.cons (.flat rfl) (.cons (.flat rfl) (.cons (.flat rfl) (.nil))))
theorem av.len (lo : Nat) (l : List av) : (l.map (av.tw lo)).length = l.length := by simp
section
variable {G : World -> Prop}
theorem yW (hst : aC G) (lo : Nat) (x : av) (left : Int) (h : 0 <= left /\ left <= 1048576) (hb : x.small 9223372036854775807) : CtM Tryz.prog G 185 [.agg (x.tw lo), .int .i64 left] [] (fun y : Int => -1 <= y /\ y <= left /\ (0 <= y -> x.small 1048576)) (fun _ => []) (fun y => .int .i64 y) := by
 refine aB Tryz.func185 rfl Tryz.ntmps185 rfl rfl rfl fun w0 R gs objsR hG hR => ?_
 obtain rfl := hR.inv0
 clear hR
 unfold av.small at hb
 have hb1 : x.selector.size <= 9223372036854775807 := hb
 unfold av.tw
 repeat' (first | refine W_ ?_ | refine aJ ?_ | refine c_ (fun hc => ?_) (fun hc => ?_))
 all_goals first
   | exact az x_ rfl (-1) ⟨by omega, by omega, fun h => by omega⟩ rfl (.nil R) (.refl _) (.tmp _ _ rfl) rfl
   | (refine az x_ rfl _ ⟨?_, ?_, fun _ => ?_⟩ rfl (.nil R) (.refl _) (.tmp _ _ rfl) rfl
      ·omega
      ·omega
      ·show _ <= _; omega)
theorem wA (hst : aC G) (lo : Nat) (l : List av) (left : Int) (h : 0 <= left /\ left <= 1048576) (hb : l.length <= 9223372036854775807 /\ ∀ y ∈ l, av.small 9223372036854775807 y) : CtM Tryz.prog G 95 [.sl lo 4 (l.map (av.tw lo)), .int .i64 left] [] (fun y : Int => -1 <= y /\ y <= left /\ (0 <= y -> l.length <= 1048576 /\ ∀ y ∈ l, av.small 1048576 y)) (fun _ => []) (fun y => .int .i64 y) := by
 refine aB Tryz.func95 rfl Tryz.ntmps95 rfl rfl rfl fun w0 R gs objsR hG hR => ?_
 obtain rfl := hR.inv0
 clear hR
 have hlen := av.len lo l
 have hl1 := hb.1
 by_cases hn : left - l.length < 0
 ·repeat' refine W_ ?_
  exact az x_ rfl (-1) ⟨by omega, by omega, fun h => by omega⟩ rfl (.nil R) (.refl _) (.tmp _ _ rfl) rfl
 ·repeat' refine W_ ?_
  apply ai (X := Nat × Int) [0, 1000000] (fun x => [(5, .int .i64 (x.1 : Int)), (1, .int .i64 x.2)]) (fun _ => R) (fun x => x.1 <= l.length /\ 0 <= x.2 /\ x.2 <= left /\ ∀ y ∈ l.take x.1, av.small 1048576 y) (fun x => l.length - x.1) (0, left - l.length) ⟨Nat.zero_le _, by dsimp only; omega, by dsimp only; omega, by simp⟩
  exact kp_; exact nw_
  ·exact .refl _
  rintro ⟨i, lf⟩ ⟨hi, h0, h1, hs⟩
  dsimp only at hi h0 h1 hs |-
  by_cases hlt : i < l.length
  ·have hrow : (l.map (av.tw lo))[i]? = some (l[i].tw lo) := aL hlt
   have hbi := hb.2 _ (List.getElem_mem hlt)
   have hta := aY (p := av.small 1048576) hlt hs
   generalize l[i] = x at hrow hbi hta
   have hct := yW hst lo x lf (by omega) hbi
   unfold av.tw at hct
   rw [show x.tw lo = [.int .i64 x.owner, .bool x.class_, .str x.selector, .int .i64 x.code] from rfl] at hrow
   repeat' (first | refine W_ ?_ | ((with_reducible apply aE); rfl; kernel_rfl; (repeat (first | exact ay.nil | ((with_reducible apply ay.cons); rfl))); exact hG; exact hct; exact .nil _; intro y hy; refine bL ?_) | refine c_ (fun hc => ?_) (fun hc => ?_))
   all_goals first
     | exact az x_ rfl (-1) ⟨by omega, by omega, fun h => by omega⟩ rfl (.nil R) (.refl _) (.tmp _ _ rfl) rfl
     | exact ah (i + 1, y) ⟨by dsimp only; omega, by dsimp only; omega, by dsimp only; omega, hta (hy.2.2 (by omega))⟩ (by dsimp only; omega) (.of _ nw_ od_ pk_)
  ·rw [List.take_of_length_le (by omega)] at hs
   repeat' refine W_ ?_
   exact az x_ rfl lf ⟨by omega, by omega, fun _ => ⟨by omega, hs⟩⟩ rfl (.nil R) (.refl _) (.tmp _ _ rfl) rfl
theorem yX (hst : aC G) (lo : Nat) (x : av) (hb : x.small 1048576) : Ct Tryz.prog G 204 [.agg (x.tw lo)] (fun K => .agg (x.tw K)) := by
 refine aq Tryz.func204 rfl Tryz.ntmps204 rfl rfl fun w0 _ hG => ?_
 unfold av.small at hb
 skip
 repeat' (first | refine W_ ?_ | refine aJ ?_ | (refine ak ?_; intro ss bb) | refine ae ?_)
 refine aD x_ rfl (.cell _ _ _ _ _ rfl mm_ (by kernel_rfl) (by kernel_rfl) (by kernel_rfl)) (fun _ => ?_)
 exact lU (av.fin _ _ _ x)
theorem yR (hst : aC G) (l1 l2 : Nat) (x : av) (hb : x.small 1048576) : Ct Tryz.prog G 210 [.agg (x.tw l1), .agg (x.tw l2)] (fun _ => .bool true) := by
 refine aq Tryz.func210 rfl Tryz.ntmps210 rfl rfl fun w0 _ hG => ?_
 unfold av.small at hb
 have hneselector : ¬ x.selector ≠ x.selector := fun h => h rfl
 unfold av.tw
 repeat' (first | refine W_ ?_ | refine aJ ?_ | refine c_ (fun hc => ?_) (fun hc => ?_))
 all_goals first
   | (exfalso; simp at hc; done)
   | (exact r1_)
theorem vY (hst : aC G) (l1 l2 : Nat) (l : List av) (hb : l.length <= 1048576 /\ ∀ y ∈ l, av.small 1048576 y) : Ct Tryz.prog G 130 [.sl l1 4 (l.map (av.tw l1)), .sl l2 4 (l.map (av.tw l2))] (fun _ => .bool true) := by
 refine aq Tryz.func130 rfl Tryz.ntmps130 rfl rfl fun w0 _ hG => ?_
 have hlen := av.len l1 l
 have hlen2 := av.len l2 l
 have hl1 := hb.1
 repeat' refine W_ ?_
 apply ai (X := Nat) [0, 1] (fun i => [(5, .int .i64 (i : Int))]) (fun _ => []) (fun i => i <= l.length) (fun i => l.length - i) 0 (Nat.zero_le _)
 exact kp_; exact nw_
 ·exact .refl _
 intro i hi
 try dsimp only
 by_cases hlt : i < l.length
 ·have hr1 : (l.map (av.tw l1))[i]? = some (l[i].tw l1) := aL hlt
  have hr2 : (l.map (av.tw l2))[i]? = some (l[i].tw l2) := aL hlt
  have hbi := hb.2 _ (List.getElem_mem hlt)
  generalize l[i] = x at hr1 hr2 hbi
  have hct := yR hst l1 l2 x hbi
  unfold av.tw at hct
  rw [show x.tw l1 = [.int .i64 x.owner, .bool x.class_, .str x.selector, .int .i64 x.code] from rfl] at hr1
  rw [show x.tw l2 = [.int .i64 x.owner, .bool x.class_, .str x.selector, .int .i64 x.code] from rfl] at hr2
  repeat' (first | refine V_ ?_ | refine ad hG hst (hct) ?_)
  exact ah (i + 1) (by omega) (by omega) (.of _ nw_ od_ pk_)
 ·repeat' refine W_ ?_
  exact r1_
end
def aa.tw (lo : Nat) (x : aa) : List TV := [.str x.name, .int .i64 x.parent, .sl lo 1 (aT x.fields)]
def aa.small (n : Nat) (x : aa) : Prop := (x.name.size <= n) /\ (x.fields.length <= n /\ ∀ y ∈ x.fields, ByteArray.size y <= n)
def aa.tz : List TV := [.str ⟨#[]⟩, .int .i64 0, .nils]
theorem aa.fin (B K : Nat) (objs : aF) (x : aa) : iM B objs K (x.tw B) (x.tw K) := .cons (.flat rfl) (.cons (.flat rfl) (.cons (ck (fun x => .cons (.flat rfl) .nil) _) (.nil)))
theorem aa.len (lo : Nat) (l : List aa) : (l.map (aa.tw lo)).length = l.length := by simp
section
variable {G : World -> Prop}
theorem pO (hst : aC G) (lo : Nat) (x : aa) (left : Int) (h : 0 <= left /\ left <= 1048576) (hb : x.small 9223372036854775807) : CtM Tryz.prog G 183 [.agg (x.tw lo), .int .i64 left] [] (fun y : Int => -1 <= y /\ y <= left /\ (0 <= y -> x.small 1048576)) (fun _ => []) (fun y => .int .i64 y) := by
 refine aB Tryz.func183 rfl Tryz.ntmps183 rfl rfl rfl fun w0 R gs objsR hG hR => ?_
 obtain rfl := hR.inv0
 clear hR
 unfold aa.small at hb
 have hb1 : x.name.size <= 9223372036854775807 := hb.1
 unfold aa.tw
 repeat' (first | refine W_ ?_ | refine aJ ?_ | ((with_reducible apply aE); rfl; kernel_rfl; (repeat (first | exact ay.nil | ((with_reducible apply ay.cons); rfl))); exact hG; exact mV lo x.fields _ (by omega) hb.2; exact .nil _; intro y2 hy2; refine bL ?_) | refine c_ (fun hc => ?_) (fun hc => ?_))
 all_goals first
   | exact az x_ rfl (-1) ⟨by omega, by omega, fun h => by omega⟩ rfl (.nil R) (.refl _) (.tmp _ _ rfl) rfl
   | (refine az x_ rfl _ ⟨?_, ?_, fun _ => ?_⟩ rfl (.nil R) (.refl _) (.tmp _ _ rfl) rfl
      ·omega
      ·omega
      ·exact ⟨by omega, hy2.2.2 (by omega)⟩)
theorem i7 (hst : aC G) (lo : Nat) (l : List aa) (left : Int) (h : 0 <= left /\ left <= 1048576) (hb : l.length <= 9223372036854775807 /\ ∀ y ∈ l, aa.small 9223372036854775807 y) : CtM Tryz.prog G 93 [.sl lo 3 (l.map (aa.tw lo)), .int .i64 left] [] (fun y : Int => -1 <= y /\ y <= left /\ (0 <= y -> l.length <= 1048576 /\ ∀ y ∈ l, aa.small 1048576 y)) (fun _ => []) (fun y => .int .i64 y) := by
 refine aB Tryz.func93 rfl Tryz.ntmps93 rfl rfl rfl fun w0 R gs objsR hG hR => ?_
 obtain rfl := hR.inv0
 clear hR
 have hlen := aa.len lo l
 have hl1 := hb.1
 by_cases hn : left - l.length < 0
 ·repeat' refine W_ ?_
  exact az x_ rfl (-1) ⟨by omega, by omega, fun h => by omega⟩ rfl (.nil R) (.refl _) (.tmp _ _ rfl) rfl
 ·repeat' refine W_ ?_
  apply ai (X := Nat × Int) [0, 1000000] (fun x => [(5, .int .i64 (x.1 : Int)), (1, .int .i64 x.2)]) (fun _ => R) (fun x => x.1 <= l.length /\ 0 <= x.2 /\ x.2 <= left /\ ∀ y ∈ l.take x.1, aa.small 1048576 y) (fun x => l.length - x.1) (0, left - l.length) ⟨Nat.zero_le _, by dsimp only; omega, by dsimp only; omega, by simp⟩
  exact kp_; exact nw_
  ·exact .refl _
  rintro ⟨i, lf⟩ ⟨hi, h0, h1, hs⟩
  dsimp only at hi h0 h1 hs |-
  by_cases hlt : i < l.length
  ·have hrow : (l.map (aa.tw lo))[i]? = some (l[i].tw lo) := aL hlt
   have hbi := hb.2 _ (List.getElem_mem hlt)
   have hta := aY (p := aa.small 1048576) hlt hs
   generalize l[i] = x at hrow hbi hta
   have hct := pO hst lo x lf (by omega) hbi
   unfold aa.tw at hct
   rw [show x.tw lo = [.str x.name, .int .i64 x.parent, .sl lo 1 (aT x.fields)] from rfl] at hrow
   repeat' (first | refine W_ ?_ | ((with_reducible apply aE); rfl; kernel_rfl; (repeat (first | exact ay.nil | ((with_reducible apply ay.cons); rfl))); exact hG; exact hct; exact .nil _; intro y hy; refine bL ?_) | refine c_ (fun hc => ?_) (fun hc => ?_))
   all_goals first
     | exact az x_ rfl (-1) ⟨by omega, by omega, fun h => by omega⟩ rfl (.nil R) (.refl _) (.tmp _ _ rfl) rfl
     | exact ah (i + 1, y) ⟨by dsimp only; omega, by dsimp only; omega, by dsimp only; omega, hta (hy.2.2 (by omega))⟩ (by dsimp only; omega) (.of _ nw_ od_ pk_)
  ·rw [List.take_of_length_le (by omega)] at hs
   repeat' refine W_ ?_
   exact az x_ rfl lf ⟨by omega, by omega, fun _ => ⟨by omega, hs⟩⟩ rfl (.nil R) (.refl _) (.tmp _ _ rfl) rfl
theorem qf (hst : aC G) (l1 l2 : Nat) (x : aa) (hb : x.small 1048576) : Ct Tryz.prog G 208 [.agg (x.tw l1), .agg (x.tw l2)] (fun _ => .bool true) := by
 refine aq Tryz.func208 rfl Tryz.ntmps208 rfl rfl fun w0 _ hG => ?_
 unfold aa.small at hb
 have hsfields := (hb.2).1
 have hnename : ¬ x.name ≠ x.name := fun h => h rfl
 unfold aa.tw
 repeat' (first | refine W_ ?_ | refine aJ ?_ | refine ac hG hst (mL l1 l2 x.fields hsfields) ?_)
 all_goals first
   | (exfalso; simp at hc; done)
   | (exact r1_)
theorem iS (hst : aC G) (l1 l2 : Nat) (l : List aa) (hb : l.length <= 1048576 /\ ∀ y ∈ l, aa.small 1048576 y) : Ct Tryz.prog G 128 [.sl l1 3 (l.map (aa.tw l1)), .sl l2 3 (l.map (aa.tw l2))] (fun _ => .bool true) := by
 refine aq Tryz.func128 rfl Tryz.ntmps128 rfl rfl fun w0 _ hG => ?_
 have hlen := aa.len l1 l
 have hlen2 := aa.len l2 l
 have hl1 := hb.1
 repeat' refine W_ ?_
 apply ai (X := Nat) [0, 1] (fun i => [(5, .int .i64 (i : Int))]) (fun _ => []) (fun i => i <= l.length) (fun i => l.length - i) 0 (Nat.zero_le _)
 exact kp_; exact nw_
 ·exact .refl _
 intro i hi
 try dsimp only
 by_cases hlt : i < l.length
 ·have hr1 : (l.map (aa.tw l1))[i]? = some (l[i].tw l1) := aL hlt
  have hr2 : (l.map (aa.tw l2))[i]? = some (l[i].tw l2) := aL hlt
  have hbi := hb.2 _ (List.getElem_mem hlt)
  generalize l[i] = x at hr1 hr2 hbi
  have hct := qf hst l1 l2 x hbi
  unfold aa.tw at hct
  rw [show x.tw l1 = [.str x.name, .int .i64 x.parent, .sl l1 1 (aT x.fields)] from rfl] at hr1
  rw [show x.tw l2 = [.str x.name, .int .i64 x.parent, .sl l2 1 (aT x.fields)] from rfl] at hr2
  repeat' (first | refine V_ ?_ | refine ad hG hst (hct) ?_)
  exact ah (i + 1) (by omega) (by omega) (.of _ nw_ od_ pk_)
 ·repeat' refine W_ ?_
  exact r1_
end
def aA.tw (lo : Nat) (x : aA) : List TV := [.sl lo 3 (x.classes.map (aa.tw lo)), .sl lo 4 (x.codes.map (aw.tw lo)), .sl lo 4 (x.entries.map (av.tw lo)), .int .i64 x.main]
def aA.small (n : Nat) (x : aA) : Prop := (x.classes.length <= n /\ ∀ y ∈ x.classes, aa.small n y) /\ (x.codes.length <= n /\ ∀ y ∈ x.codes, aw.small n y) /\ (x.entries.length <= n /\ ∀ y ∈ x.entries, av.small n y)
def aA.tz : List TV := [.nils, .nils, .nils, .int .i64 0]
theorem aA.fin (B K : Nat) (objs : aF) (x : aA) : iM B objs K (x.tw B) (x.tw K) := .cons (ck (fun x => aa.fin B K objs x) _) (.cons (ck (fun x => aw.fin B K objs x) _) (.cons (ck (fun x => av.fin B K objs x) _) (.cons (.flat rfl) (.nil))))
theorem aA.len (lo : Nat) (l : List aA) : (l.map (aA.tw lo)).length = l.length := by simp
section
variable {G : World -> Prop}
theorem rM (hst : aC G) (lo : Nat) (x : aA) (left : Int) (h : 0 <= left /\ left <= 1048576) (hb : x.small 9223372036854775807) : CtM Tryz.prog G 29 [.agg (x.tw lo), .int .i64 left] [] (fun y : Int => -1 <= y /\ y <= left /\ (0 <= y -> x.small 1048576)) (fun _ => []) (fun y => .int .i64 y) := by
 refine aB Tryz.func29 rfl Tryz.ntmps29 rfl rfl rfl fun w0 R gs objsR hG hR => ?_
 obtain rfl := hR.inv0
 clear hR
 unfold aA.small at hb
 skip
 unfold aA.tw
 repeat' (first | refine W_ ?_ | refine aJ ?_ | ((with_reducible apply aE); rfl; kernel_rfl; (repeat (first | exact ay.nil | ((with_reducible apply ay.cons); rfl))); exact hG; exact i7 hst lo x.classes _ (by omega) hb.1; exact .nil _; intro y1 hy1; refine bL ?_) | ((with_reducible apply aE); rfl; kernel_rfl; (repeat (first | exact ay.nil | ((with_reducible apply ay.cons); rfl))); exact hG; exact zg hst lo x.codes _ (by omega) hb.2.1; exact .nil _; intro y2 hy2; refine bL ?_) | ((with_reducible apply aE); rfl; kernel_rfl; (repeat (first | exact ay.nil | ((with_reducible apply ay.cons); rfl))); exact hG; exact wA hst lo x.entries _ (by omega) hb.2.2; exact .nil _; intro y3 hy3; refine bL ?_) | refine c_ (fun hc => ?_) (fun hc => ?_))
 all_goals first
   | exact az x_ rfl (-1) ⟨by omega, by omega, fun h => by omega⟩ rfl (.nil R) (.refl _) (.tmp _ _ rfl) rfl
   | (refine az x_ rfl _ ⟨?_, ?_, fun _ => ?_⟩ rfl (.nil R) (.refl _) (.tmp _ _ rfl) rfl
      ·omega
      ·omega
      ·exact ⟨hy1.2.2 (by omega), hy2.2.2 (by omega), hy3.2.2 (by omega)⟩)
theorem rU (hst : aC G) (l1 l2 : Nat) (x : aA) (hb : x.small 1048576) : Ct Tryz.prog G 53 [.agg (x.tw l1), .agg (x.tw l2)] (fun _ => .bool true) := by
 refine aq Tryz.func53 rfl Tryz.ntmps53 rfl rfl fun w0 _ hG => ?_
 unfold aA.small at hb
 have hsclasses := hb.1
 have hscodes := hb.2.1
 have hsentries := hb.2.2
 unfold aA.tw
 repeat' (first | refine W_ ?_ | refine aJ ?_ | refine ac hG hst (iS hst l1 l2 x.classes hsclasses) ?_ | refine ac hG hst (yO hst l1 l2 x.codes hscodes) ?_ | refine ac hG hst (vY hst l1 l2 x.entries hsentries) ?_)
 all_goals first
   | (exfalso; simp at hc; done)
   | (exact r1_)
end
def ff.tw (lo : Nat) (x : ff) : List TV := [.int .i64 x.code, .int .i64 x.at_, .int .i64 x.kind]
def ff.small (n : Nat) (x : ff) : Prop := True
def ff.tz : List TV := [.int .i64 0, .int .i64 0, .int .i64 0]
theorem ff.fin (B K : Nat) (objs : aF) (x : ff) : iM B objs K (x.tw B) (x.tw K) := .cons (.flat rfl) (.cons (.flat rfl) (.cons (.flat rfl) (.nil)))
theorem ff.len (lo : Nat) (l : List ff) : (l.map (ff.tw lo)).length = l.length := by simp
section
variable {G : World -> Prop}
end
def spB : ByteArray := ⟨#[32]⟩
def lnB (w : ByteArray) (xs : List ByteArray) : ByteArray := xs.foldl (fun a x => a ++ spB ++ x) w
theorem vw (w : ByteArray) : lnB w [] = w := rfl
theorem km (w x : ByteArray) (xs : List ByteArray) : lnB w (x :: xs) = lnB (w ++ spB ++ x) xs := rfl
theorem rL (w : ByteArray) (xs : List ByteArray) (x : ByteArray) : lnB w (xs ++ [x]) = lnB w xs ++ spB ++ x := by simp [lnB, List.foldl_append]
theorem adf (w : ByteArray) (ys : List ByteArray) : ∀ a : ByteArray, w ++ lnB a ys = lnB (w ++ a) ys := by
 induction ys with
 | nil => intro a; rfl
 | cons y r ih =>
   intro a
   rw [km, km, ih, ByteArray.append_assoc, ByteArray.append_assoc, ByteArray.append_assoc]
theorem adc (w : ByteArray) : w ++ (⟨#[]⟩ : ByteArray) = w := ByteArray.append_empty
theorem adB (w : ByteArray) : (⟨#[]⟩ : ByteArray) ++ w = w := ByteArray.empty_append
theorem kX (c : Nat) (xs : List ByteArray) (h : ∀ x ∈ xs, x.size <= c) : ∀ w : ByteArray, (lnB w xs).size <= w.size + xs.length * (c + 1) := by
 induction xs with
 | nil => intro w; simp [vw]
 | cons x r ih =>
   intro w
   rw [km]
   have h1 := ih (fun y hy => h y (List.mem_cons_of_mem _ hy)) (w ++ spB ++ x)
   have h2 := h x List.mem_cons_self
   rw [ByteArray.size_append, ByteArray.size_append] at h1
   have h3 : spB.size = 1 := rfl
   rw [List.length_cons, Nat.succ_mul]
   omega
theorem xh (w : ByteArray) (xs : List ByteArray) : (lnB w xs).data.toList = Lib.join ((w :: xs).map (·.data.toList)) [32] := by
 rw [List.map_cons, Lib.join_cons]
 induction xs generalizing w with
 | nil => simp [vw, Lib.joinTail]
 | cons x r ih =>
   rw [km, ih]
   simp [Lib.joinTail, ByteArray.data_append, spB]
theorem acc (w : ByteArray) (xs : List ByteArray) : (⟨(Lib.join ((w :: xs).map (·.data.toList)) [32]).toArray⟩ : ByteArray) = lnB w xs := by
 rw [<- xh]
theorem bN {α β : Type} {f : α -> β} {l : List α} {k : Nat} (h : k < l.length) : (l.take (k + 1)).map f = (l.take k).map f ++ [f l[k]] := by
 rw [List.take_add_one, List.getElem?_eq_getElem h, Option.toList_some, List.map_append]; rfl
section
variable {G : World -> Prop}
theorem abl (w : ByteArray) (xs : List ByteArray) (hN : xs.length <= 4194304) (c : Nat) (hc : c <= 4194304) (hw : w.size <= c) (hx : ∀ x ∈ xs, x.size <= c) : Ct Tryz.prog G 174 [.sl 0 1 (aT (w :: xs)), .str ⟨#[32]⟩] (fun _ => .str (lnB w xs)) := fun W vs hp hG hsz hr => by
 obtain ⟨v, u, rfl, h1, h2⟩ := aff hsz hr
 rw [h2.str_inv]
 obtain ⟨A, c', rfl, g1, g2, g3, g4, g5⟩ := jH h1
 have hsl := aG (w :: xs)
 have hfl : ∀ j, (aT (w :: xs)).flatten[j]? = ((w :: xs)[j]?).map TV.str := fun j => by rw [mP, List.getElem?_map]
 obtain ⟨b, q, u0, e1, _, e3, _⟩ := g5 0 (.str w) (by rw [hfl]; rfl)
 subst e1
 rw [hsl]
 have hb := kX c xs hx w
 have hm : xs.length * (c + 1) <= 4194304 * 4194305 := Nat.mul_le_mul hN (by omega)
 have hl : (Lib.join ((w :: xs).map (·.data.toList)) (⟨#[32]⟩ : ByteArray).data.toList).length <= 140737488355328 := by
   have := congrArg List.length (xh w xs)
   rw [aO] at this
   show (Lib.join ((w :: xs).map (·.data.toList)) [32]).length <= _
   omega
 refine (Tryz.strings_Join b q c' (w :: xs) ⟨#[32]⟩ W (fun j x hj => ?_) (lO e3) (by simp; omega) (by omega) hl).mono ?_
 ·obtain ⟨b', q', u', e4, _, e5, e6⟩ := g5 j (.str x) (by rw [hfl, hj]; rfl)
  simp only [Option.some.injEq, Addr.mk.injEq, and_true] at e4
  obtain ⟨rfl, rfl⟩ := e4
  rw [e6.str_inv] at e5
  exact e5
 ·rintro e w' ⟨rfl, hb⟩
  exact ⟨_, rfl, hb, fun _ _ => by
    rw [show (⟨(Lib.join ((w :: xs).map (·.data.toList)) (⟨#[32]⟩ : ByteArray).data.toList).toArray⟩ : ByteArray) = lnB w xs from acc w xs]
    exact .str _⟩
end
def bI : List aa := [⟨⟨#[79, 98, 106, 101, 99, 116]⟩, -1, []⟩, ⟨⟨#[69, 120, 99, 101, 112, 116, 105, 111, 110]⟩, 0, [⟨#[116, 101, 120, 116]⟩]⟩, ⟨⟨#[69, 114, 114, 111, 114]⟩, 1, [⟨#[116, 101, 120, 116]⟩]⟩, ⟨⟨#[77, 101, 115, 115, 97, 103, 101, 78, 111, 116, 85, 110, 100, 101, 114, 115, 116, 111, 111, 100]⟩, 2, [⟨#[116, 101, 120, 116]⟩]⟩, ⟨⟨#[90, 101, 114, 111, 68, 105, 118, 105, 100, 101]⟩, 2, [⟨#[116, 101, 120, 116]⟩]⟩, ⟨⟨#[73, 110, 116, 101, 103, 101, 114]⟩, 0, []⟩, ⟨⟨#[66, 111, 111, 108, 101, 97, 110]⟩, 0, []⟩, ⟨⟨#[78, 105, 108]⟩, 0, []⟩, ⟨⟨#[83, 116, 114, 105, 110, 103]⟩, 0, []⟩, ⟨⟨#[83, 121, 109, 98, 111, 108]⟩, 0, []⟩, ⟨⟨#[65, 114, 114, 97, 121]⟩, 0, []⟩, ⟨⟨#[66, 108, 111, 99, 107]⟩, 0, []⟩, ⟨⟨#[83, 101, 109, 97, 112, 104, 111, 114, 101]⟩, 0, []⟩, ⟨⟨#[80, 114, 111, 99, 101, 115, 115]⟩, 0, []⟩, ⟨⟨#[84, 114, 97, 110, 115, 99, 114, 105, 112, 116]⟩, 0, []⟩, ⟨⟨#[67, 108, 97, 115, 115]⟩, 0, []⟩]
def cA : List ByteArray := [⟨#[79, 98, 106, 101, 99, 116]⟩, ⟨#[69, 120, 99, 101, 112, 116, 105, 111, 110]⟩, ⟨#[69, 114, 114, 111, 114]⟩, ⟨#[77, 101, 115, 115, 97, 103, 101, 78, 111, 116, 85, 110, 100, 101, 114, 115, 116, 111, 111, 100]⟩, ⟨#[90, 101, 114, 111, 68, 105, 118, 105, 100, 101]⟩, ⟨#[73, 110, 116, 101, 103, 101, 114]⟩, ⟨#[66, 111, 111, 108, 101, 97, 110]⟩, ⟨#[78, 105, 108]⟩, ⟨#[83, 116, 114, 105, 110, 103]⟩, ⟨#[83, 121, 109, 98, 111, 108]⟩, ⟨#[65, 114, 114, 97, 121]⟩, ⟨#[66, 108, 111, 99, 107]⟩, ⟨#[83, 101, 109, 97, 112, 104, 111, 114, 101]⟩, ⟨#[80, 114, 111, 99, 101, 115, 115]⟩, ⟨#[84, 114, 97, 110, 115, 99, 114, 105, 112, 116]⟩, ⟨#[67, 108, 97, 115, 115]⟩]
def il (k : Int) : List ByteArray := if k = 1 \/ k = 2 \/ k = 3 \/ k = 4 then [⟨#[116, 101, 120, 116]⟩] else []
def xu : List (List TV) := [[TV.int .i64 (-1)], [TV.int .i64 0], [TV.int .i64 1], [TV.int .i64 2], [TV.int .i64 2], [TV.int .i64 0], [TV.int .i64 0], [TV.int .i64 0], [TV.int .i64 0], [TV.int .i64 0], [TV.int .i64 0], [TV.int .i64 0], [TV.int .i64 0], [TV.int .i64 0], [TV.int .i64 0], [TV.int .i64 0]]
theorem fH : bI.length = 16 := rfl
theorem jq {i : Nat} (h : i < 16) : ∃ x, bI[i]? = some x /\ (aT cA)[i]? = some [.str x.name] /\ xu[i]? = some [.int .i64 x.parent] /\ il (i : Int) = x.fields /\ bI.take (i + 1) = bI.take i ++ [x] := by
 match i, h with
 | 0, _ => exact ⟨_, rfl, rfl, rfl, rfl, rfl⟩
 | 1, _ => exact ⟨_, rfl, rfl, rfl, rfl, rfl⟩
 | 2, _ => exact ⟨_, rfl, rfl, rfl, rfl, rfl⟩
 | 3, _ => exact ⟨_, rfl, rfl, rfl, rfl, rfl⟩
 | 4, _ => exact ⟨_, rfl, rfl, rfl, rfl, rfl⟩
 | 5, _ => exact ⟨_, rfl, rfl, rfl, rfl, rfl⟩
 | 6, _ => exact ⟨_, rfl, rfl, rfl, rfl, rfl⟩
 | 7, _ => exact ⟨_, rfl, rfl, rfl, rfl, rfl⟩
 | 8, _ => exact ⟨_, rfl, rfl, rfl, rfl, rfl⟩
 | 9, _ => exact ⟨_, rfl, rfl, rfl, rfl, rfl⟩
 | 10, _ => exact ⟨_, rfl, rfl, rfl, rfl, rfl⟩
 | 11, _ => exact ⟨_, rfl, rfl, rfl, rfl, rfl⟩
 | 12, _ => exact ⟨_, rfl, rfl, rfl, rfl, rfl⟩
 | 13, _ => exact ⟨_, rfl, rfl, rfl, rfl, rfl⟩
 | 14, _ => exact ⟨_, rfl, rfl, rfl, rfl, rfl⟩
 | 15, _ => exact ⟨_, rfl, rfl, rfl, rfl, rfl⟩
 | n + 16, h => omega
section
variable {G : World -> Prop}
theorem qe : Ct Tryz.prog G 295 [] (fun K => .sl K 1 (aT cA)) := by
 refine aq Tryz.func295 rfl Tryz.ntmps295 rfl rfl fun w0 _ hG => ?_
 repeat' (first | refine W_ ?_ | refine ch ?_)
 refine aD (r1 := .tmp 0) (t1 := .sl w0.heap.size 1 (aT cA)) (.inr rfl) rfl (.tmp _ _ rfl) (fun _ => ?_)
 exact ck (f := fun s : ByteArray => [TV.str s]) (f' := fun s : ByteArray => [TV.str s]) (fun x => .cons (.flat rfl) .nil) cA
theorem pY : Ct Tryz.prog G 306 [] (fun K => .sl K 1 (aT cA)) := by
 refine aq Tryz.func306 rfl Tryz.ntmps306 rfl rfl fun w0 _ hG => ?_
 repeat' (first | refine W_ ?_ | refine ch ?_)
 refine aD (r1 := .tmp 0) (t1 := .sl w0.heap.size 1 (aT cA)) (.inr rfl) rfl (.tmp _ _ rfl) (fun _ => ?_)
 exact ck (f := fun s : ByteArray => [TV.str s]) (f' := fun s : ByteArray => [TV.str s]) (fun x => .cons (.flat rfl) .nil) cA
theorem vV (tu : TV) (k : Int) (h : k < 16) : Ct Tryz.prog G 296 [tu, .int .i64 k] (fun K => .sl K 1 (aT (il k))) := by
 refine aq Tryz.func296 rfl Tryz.ntmps296 rfl rfl fun w0 _ hG => ?_
 by_cases hk : k = 1 \/ k = 2 \/ k = 3 \/ k = 4
 ·rw [show il k = [⟨#[116, 101, 120, 116]⟩] from if_pos hk]
  repeat' (first | refine W_ ?_ | refine ch ?_ | refine g_ (fun hg => ?_) (fun hg => ?_))
  all_goals first
    | (exfalso; omega)
    | (refine aD x_ rfl (.tmp _ _ rfl) (fun _ => ?_)
       exact ck (f := fun s : ByteArray => [TV.str s]) (f' := fun s : ByteArray => [TV.str s]) (fun x => .cons (.flat rfl) .nil) [⟨#[116, 101, 120, 116]⟩])
 ·rw [show il k = [] from if_neg hk]
  repeat' (first | refine W_ ?_ | refine ch ?_)
  all_goals first
    | (exfalso; omega)
    | (refine aD x_ rfl (.tmp _ _ rfl) (fun _ => ?_)
       exact ck (f := fun s : ByteArray => [TV.str s]) (f' := fun s : ByteArray => [TV.str s]) (fun x => .cons (.flat rfl) .nil) [])
theorem yQ (hst : aC G) (rest : List TV) : Ct Tryz.prog G 247 [.cp 0 (.nils :: rest)] (fun K => .sl K 3 (bI.map (aa.tw K))) := by
 refine aq Tryz.func247 rfl Tryz.ntmps247 rfl rfl fun w0 _ hG => ?_
 repeat' (first | refine H_ 3 ?_ | refine ac hG hst (qe) ?_ | (refine la ?_; intro ss bb))
 refine ⟨?_⟩
 repeat' (first | refine W_ ?_ | refine ch ?_)
 apply ai (X := Nat × Nat) [0, 4, 5] (fun x => [(6, .int .i64 (x.1 : Int)), (3, .ms ss x.2 0 x.1)]) (fun x => [(ss, x.2, .row 3 ((bI.take x.1).map (aa.tw w0.heap.size)))]) (fun x => x.1 <= 16) (fun x => 16 - x.1) (0, bb) (Nat.zero_le _)
 exact kp_; exact nw_
 ·exact .refl _
 rintro ⟨i, b⟩ hi
 dsimp only at hi |-
 by_cases hlt : i < 16
 ·obtain ⟨x, hx, h1, h2, h3, h4⟩ := jq hlt
  unfold xu at h2
  have hle : ((bI.take i).map (aa.tw w0.heap.size)).length = i := by rw [List.length_map, List.length_take, fH]; omega
  repeat' (first | refine W_ ?_ | (with_reducible apply dP (id := 7) 14; kernel_rfl; kernel_rfl; kernel_rfl; (repeat (first | exact Cut.zero _ | apply Cut.succ))) | with_reducible refine dV (by kernel_rfl) (by kernel_rfl) ?_ | with_reducible refine fO ?_ | with_reducible refine d7 ?_ | with_reducible refine dW rfl ?_ | refine fT rfl rfl rfl rr_ ?_ | refine dX rfl rfl rfl rr_ rfl rfl rfl ?_ | refine cT rfl rfl rfl rr_ rfl rfl ?_ | (refine jX rfl rfl rfl rr_ dd_ ?_) | (refine j2 rfl rfl rfl rr_ dd_ ?_) | (refine ce rfl rfl rfl rr_ (fun hg => ?_) (fun hg => ?_)) | (refine bR rfl rfl rfl rr_ (fun hg => ?_) (fun hg => ?_)) | ((with_reducible apply d_y); exact y_; rfl) | ((with_reducible apply ac5); rfl; kernel_rfl; (repeat (first | exact dg.nil | ((with_reducible apply dg.cons); rfl; exact .same _))); exact hG; exact hst; exact vV _ _ (by omega)) | refine acz ?_ | refine lh ?_ | (refine tQ ?_; intro bb))
  have hrow : (bI.take i).map (aa.tw w0.heap.size) ++ [[TV.str x.name, .int .i64 x.parent, .sl w0.heap.size 1 (aT (il i))]] = (bI.take (i + 1)).map (aa.tw w0.heap.size) := by
    rw [h4, h3, List.map_append]; rfl
  rw [hrow]
  exact ah (i + 1, bb) (by dsimp only; omega) (by dsimp only; omega) (.of _ nw_ od_ pk_)
 ·obtain rfl : i = 16 := by omega
  repeat' refine W_ ?_
  apply ai (X := Unit) [0, 3] (fun _ => [(7, .int .i64 0)]) (fun _ => [(ss, b, .row 3 (bI.map (aa.tw w0.heap.size)))]) (fun _ => True) (fun _ => 0) () trivial
  exact kp_; exact nw_
  ·exact .refl _
  rintro _ -
  repeat' refine W_ ?_
  refine aD x_ rfl (.tmp _ _ rfl) (fun _ => ?_)
  exact aa3 (fun x => aa.fin _ _ _ x) List.mem_cons_self
end
def nR {α : Type} (mk : α -> Nat × Nat -> List TV) (l : List α) (ps : List (Nat × Nat)) : List (List TV) := List.zipWith mk l ps
def nO {α : Type} (ob : α -> bv) (l : List α) (ps : List (Nat × Nat)) : aF := List.zipWith (fun x p => (p.1, p.2, ob x)) l ps
theorem acZ {α : Type} (mk : α -> Nat × Nat -> List TV) {l : List α} {ps : List (Nat × Nat)} (h : ps.length = l.length) : (nR mk l ps).length = l.length := by simp [nR, h]
theorem eo {α : Type} {l : List α} {i : Nat} (h : i < l.length) : l.take (i + 1) = l.take i ++ [l[i]] := by rw [List.take_add_one, List.getElem?_eq_getElem h]; rfl
theorem aau {α : Type} (ob : α -> bv) {l : List α} {ps : List (Nat × Nat)} {i : Nat} (h : i < l.length) (hp : ps.length = i) (p : Nat × Nat) : nO ob (l.take (i + 1)) (ps ++ [p]) = nO ob (l.take i) ps ++ [(p.1, p.2, ob l[i])] := by
 unfold nO
 rw [eo h, List.zipWith_append (by simp; omega)]; rfl
theorem ac8 {α : Type} (mk : α -> Nat × Nat -> List TV) (z : List TV) {l : List α} {ps : List (Nat × Nat)} {i : Nat} (h : i < l.length) (hp : ps.length = i) (p : Nat × Nat) :
   (nR mk (l.take i) ps ++ List.replicate (l.length - i) z)[i]? = some z /\ (nR mk (l.take i) ps ++ List.replicate (l.length - i) z).set i (mk l[i] p) = nR mk (l.take (i + 1)) (ps ++ [p]) ++ List.replicate (l.length - (i + 1)) z := by
 have hl : (nR mk (l.take i) ps).length = i := by simp [nR]; omega
 have e : l.length - i = (l.length - (i + 1)) + 1 := by omega
 refine ⟨?_, ?_⟩
 ·rw [List.getElem?_append_right (by omega), hl, Nat.sub_self, e, List.replicate_succ]; rfl
 ·rw [List.set_append_right _ _ (by omega), hl, Nat.sub_self, e, List.replicate_succ, List.set_cons_zero]
  unfold nR
  rw [eo h, List.zipWith_append (by simp; omega), List.append_assoc]; rfl
theorem sR (a z : Nat × Nat × bv) (T R : aF) : cZ (a :: ((T ++ [z]) ++ R)) (z :: a :: (T ++ R)) := .perm (by
 have h : ((T ++ [z]) ++ R).Perm (z :: (T ++ R)) := by rw [List.append_assoc]; exact List.perm_middle
 exact (h.cons a).trans (List.Perm.swap z a _))
def jE (x : aa) (p : Nat × Nat) : List TV := [.str x.name, .int .i64 x.parent, .ms p.1 p.2 0 x.fields.length]
def lQ (x : aa) : bv := .row 1 (aT x.fields)
def jD (x : aw) (p : Nat × Nat) : List TV := [.bool x.block, .int .i64 x.params, .int .i64 x.slots, .ms p.1 p.2 0 x.instrs.length]
def lH (x : aw) : bv := .row 4 (x.instrs.map (ag.tw 0))
section
variable {G : World -> Prop}
theorem kv (hst : aC G) (lo : Nat) (l : List ByteArray) (hn : l.length <= 1048576) : CtM Tryz.prog G 120 [.sl lo 1 (aT l)] [] (fun _ : Nat × Nat => True) (fun y => [(y.1, y.2, .row 1 (aT l))]) (fun y => .ms y.1 y.2 0 l.length) := by
 refine aB Tryz.func120 rfl Tryz.ntmps120 rfl rfl rfl fun w0 R gs objsR hG hR => ?_
 obtain rfl := hR.inv0
 clear hR
 have hlen := aG l
 have h0 := e8 (fun s : ByteArray => [TV.str s]) [.str ⟨#[]⟩] l
 repeat' (first | refine W_ ?_ | (refine gI ?_; intro ss bb))
 generalize ss = so; generalize bb = bo
 apply ai (X := Nat) [0, 3, 1000000] (fun i => [(4, .int .i64 (i : Int))]) (fun i => (so, bo, .row 1 (gC (fun s : ByteArray => [TV.str s]) [.str ⟨#[]⟩] l i)) :: R) (fun i => i <= l.length) (fun i => l.length - i) 0 (Nat.zero_le _)
 exact kp_; exact nw_
 ·rw [<- h0]; exact .refl _
 intro i hi
 try dsimp only
 by_cases hlt : i < l.length
 ·obtain ⟨hrow, hset⟩ := fV (fun s : ByteArray => [TV.str s]) [.str ⟨#[]⟩] hlt
  have hra := cB hlt
  generalize l[i] = x at hset hra
  try dsimp only at hset
  repeat' (first | refine W_ ?_ | refine bJ ?_)
  refine ah (i + 1) (by omega) (by omega) (.of _ nw_ od_ (by rw [<- hset]; exact .refl _))
 ·obtain rfl : i = l.length := by omega
  rw [eO]
  repeat' refine W_ ?_
  exact az x_ rfl (so, bo) trivial rfl (.cons _ _ _ _ (.nil R)) pk_ (.tmp _ _ rfl) rfl
theorem tk (hst : aC G) (lo : Nat) (l : List ag) (hb : l.length <= 1048576 /\ ∀ y ∈ l, ag.small 1048576 y) : CtM Tryz.prog G 258 [.sl lo 4 (l.map (ag.tw lo))] [] (fun _ : Nat × Nat => True) (fun y => [(y.1, y.2, .row 4 (l.map (ag.tw 0)))]) (fun y => .ms y.1 y.2 0 l.length) := by
 refine aB Tryz.func258 rfl Tryz.ntmps258 rfl rfl rfl fun w0 R gs objsR hG hR => ?_
 obtain rfl := hR.inv0
 clear hR
 have hlen := ag.len lo l
 have hl1 := hb.1
 have h0 := e8 (ag.tw 0) ag.tz l
 repeat' (first | refine W_ ?_ | (refine gI ?_; intro ss bb))
 generalize ss = so; generalize bb = bo
 apply ai (X := Nat) [0, 3, 1000000] (fun i => [(4, .int .i64 (i : Int))]) (fun i => (so, bo, .row 4 (gC (ag.tw 0) ag.tz l i)) :: R) (fun i => i <= l.length) (fun i => l.length - i) 0 (Nat.zero_le _)
 exact kp_; exact nw_
 ·rw [<- h0]; exact .refl _
 intro i hi
 try dsimp only
 by_cases hlt : i < l.length
 ·obtain ⟨hrow, hset⟩ := fV (ag.tw 0) ag.tz hlt
  have hra : (l.map (ag.tw lo))[i]? = some (l[i].tw lo) := aL hlt
  have hbi := hb.2 _ (List.getElem_mem hlt)
  generalize l[i] = x at hset hra hbi
  have hct := yS hst lo x hbi
  unfold ag.tw at hct
  rw [show x.tw lo = [.int .i64 x.op, .int .i64 x.a, .int .i64 x.b, .str x.text] from rfl] at hra
  replace hrow : (gC (ag.tw 0) ag.tz l i)[i]? = some [.int .i64 0, .int .i64 0, .int .i64 0, .str ⟨#[]⟩] := hrow
  repeat' (first | refine W_ ?_ | refine ac hG hst (hct) ?_ | refine bJ ?_)
  refine ah (i + 1) (by omega) (by omega) (.of _ nw_ od_ (by rw [<- hset]; exact .refl _))
 ·obtain rfl : i = l.length := by omega
  rw [eO]
  repeat' refine W_ ?_
  exact az x_ rfl (so, bo) trivial rfl (.cons _ _ _ _ (.nil R)) pk_ (.tmp _ _ rfl) rfl
theorem uz (hst : aC G) (lo : Nat) (l : List av) (hb : l.length <= 1048576 /\ ∀ y ∈ l, av.small 1048576 y) : CtM Tryz.prog G 118 [.sl lo 4 (l.map (av.tw lo))] [] (fun _ : Nat × Nat => True) (fun y => [(y.1, y.2, .row 4 (l.map (av.tw 0)))]) (fun y => .ms y.1 y.2 0 l.length) := by
 refine aB Tryz.func118 rfl Tryz.ntmps118 rfl rfl rfl fun w0 R gs objsR hG hR => ?_
 obtain rfl := hR.inv0
 clear hR
 have hlen := av.len lo l
 have hl1 := hb.1
 have h0 := e8 (av.tw 0) av.tz l
 repeat' (first | refine W_ ?_ | (refine gI ?_; intro ss bb))
 generalize ss = so; generalize bb = bo
 apply ai (X := Nat) [0, 3, 1000000] (fun i => [(4, .int .i64 (i : Int))]) (fun i => (so, bo, .row 4 (gC (av.tw 0) av.tz l i)) :: R) (fun i => i <= l.length) (fun i => l.length - i) 0 (Nat.zero_le _)
 exact kp_; exact nw_
 ·rw [<- h0]; exact .refl _
 intro i hi
 try dsimp only
 by_cases hlt : i < l.length
 ·obtain ⟨hrow, hset⟩ := fV (av.tw 0) av.tz hlt
  have hra : (l.map (av.tw lo))[i]? = some (l[i].tw lo) := aL hlt
  have hbi := hb.2 _ (List.getElem_mem hlt)
  generalize l[i] = x at hset hra hbi
  have hct := yX hst lo x hbi
  unfold av.tw at hct
  rw [show x.tw lo = [.int .i64 x.owner, .bool x.class_, .str x.selector, .int .i64 x.code] from rfl] at hra
  replace hrow : (gC (av.tw 0) av.tz l i)[i]? = some [.int .i64 0, .bool false, .str ⟨#[]⟩, .int .i64 0] := hrow
  repeat' (first | refine W_ ?_ | refine ac hG hst (hct) ?_ | refine bJ ?_)
  refine ah (i + 1) (by omega) (by omega) (.of _ nw_ od_ (by rw [<- hset]; exact .refl _))
 ·obtain rfl : i = l.length := by omega
  rw [eO]
  repeat' refine W_ ?_
  exact az x_ rfl (so, bo) trivial rfl (.cons _ _ _ _ (.nil R)) pk_ (.tmp _ _ rfl) rfl
theorem oG (hst : aC G) (lo : Nat) (x : aa) (hb : x.small 1048576) : CtM Tryz.prog G 202 [.agg [.str x.name, .int .i64 x.parent, .sl lo 1 (aT x.fields)]] [] (fun _ : Nat × Nat => True) (fun y => [(y.1, y.2, .row 1 (aT x.fields))]) (fun y => .agg [.str x.name, .int .i64 x.parent, .ms y.1 y.2 0 x.fields.length]) := by
 refine aB Tryz.func202 rfl Tryz.ntmps202 rfl rfl rfl fun w0 R gs objsR hG hR => ?_
 obtain rfl := hR.inv0
 clear hR
 have hin := kv hst lo x.fields hb.2.1
 repeat' (first | refine W_ ?_ | refine aJ ?_ | (refine ak ?_; intro ss bb) | refine ae ?_ | ((with_reducible apply aE); rfl; kernel_rfl; (repeat (first | exact ay.nil | ((with_reducible apply ay.cons); rfl))); exact hG; exact hin; exact .nil _; intro y hy; refine bF ?_))
 refine az x_ rfl y trivial rfl (.cons _ _ _ _ (.nil R)) pk_ (.cell _ _ _ _ _ rfl mm_ (by kernel_rfl) (by kernel_rfl) (by kernel_rfl)) rfl
theorem iG (hst : aC G) (lo : Nat) (l : List aa) (hb : l.length <= 1048576 /\ ∀ y ∈ l, aa.small 1048576 y) : CtM Tryz.prog G 116 [.sl lo 3 (l.map (aa.tw lo))] [] (fun y : (Nat × Nat) × List (Nat × Nat) => y.2.length = l.length) (fun y => (y.1.1, y.1.2, .row 3 (nR jE l y.2)) :: nO lQ l y.2) (fun y => .ms y.1.1 y.1.2 0 l.length) := by
 refine aB Tryz.func116 rfl Tryz.ntmps116 rfl rfl rfl fun w0 R gs objsR hG hR => ?_
 obtain rfl := hR.inv0
 clear hR
 have hlen := aa.len lo l
 have hl1 := hb.1
 have h0 : List.replicate l.length aa.tz = nR jE (l.take 0) [] ++ List.replicate (l.length - 0) aa.tz := by simp [nR]
 repeat' (first | refine W_ ?_ | (refine gI ?_; intro ss bb))
 generalize ss = so; generalize bb = bo
 apply ai (X := Nat × List (Nat × Nat)) [0, 3, 1000000] (fun x => [(4, .int .i64 (x.1 : Int))]) (fun x => (so, bo, .row 3 (nR jE (l.take x.1) x.2 ++ List.replicate (l.length - x.1) aa.tz)) :: (nO lQ (l.take x.1) x.2 ++ R)) (fun x => x.1 <= l.length /\ x.2.length = x.1) (fun x => l.length - x.1) (0, []) ⟨Nat.zero_le _, rfl⟩
 exact kp_; exact nw_
 ·rw [<- h0]; exact .refl _
 rintro ⟨i, ps⟩ ⟨hi, hps⟩
 dsimp only at hi hps |-
 by_cases hlt : i < l.length
 ·have hrs := fun p => ac8 jE aa.tz hlt hps p
  have hos := fun p => aau lQ hlt hps p
  have hra : (l.map (aa.tw lo))[i]? = some (l[i].tw lo) := aL hlt
  have hbi := hb.2 _ (List.getElem_mem hlt)
  generalize l[i] = x at hrs hos hra hbi
  have hct := oG hst lo x hbi
  rw [show x.tw lo = [.str x.name, .int .i64 x.parent, .sl lo 1 (aT x.fields)] from rfl] at hra
  have hrow : (nR jE (l.take i) ps ++ List.replicate (l.length - i) aa.tz)[i]? = some [.str ⟨#[]⟩, .int .i64 0, .nils] := (hrs (0, 0)).1
  generalize nO lQ (l.take i) ps = T at hos |-
  repeat' (first | refine W_ ?_ | ((with_reducible apply aE); rfl; kernel_rfl; (repeat (first | exact ay.nil | ((with_reducible apply ay.cons); rfl))); exact hG; exact hct; exact .nil _; intro y hy; refine bF ?_) | refine bJ ?_)
  refine ah (i + 1, ps ++ [y]) ⟨by dsimp only; omega, by dsimp only; simp [hps]⟩ (by dsimp only; omega) (.of _ nw_ od_ ?_)
  dsimp only
  rw [hos y, <- (hrs y).2]
  exact sR _ _ T R
 ·obtain rfl : i = l.length := by omega
  rw [List.take_of_length_le (Nat.le_refl _), Nat.sub_self, List.replicate_zero, List.append_nil]
  repeat' refine W_ ?_
  exact az x_ rfl ((so, bo), ps) hps rfl (.cons _ _ _ _ (.app _ R)) (.refl _) (.tmp _ _ rfl) rfl
theorem yJ (hst : aC G) (lo : Nat) (x : aw) (hb : x.small 1048576) : CtM Tryz.prog G 203 [.agg [.bool x.block, .int .i64 x.params, .int .i64 x.slots, .sl lo 4 (x.instrs.map (ag.tw lo))]] [] (fun _ : Nat × Nat => True) (fun y => [(y.1, y.2, .row 4 (x.instrs.map (ag.tw 0)))]) (fun y => .agg [.bool x.block, .int .i64 x.params, .int .i64 x.slots, .ms y.1 y.2 0 x.instrs.length]) := by
 refine aB Tryz.func203 rfl Tryz.ntmps203 rfl rfl rfl fun w0 R gs objsR hG hR => ?_
 obtain rfl := hR.inv0
 clear hR
 have hin := tk hst lo x.instrs hb
 repeat' (first | refine W_ ?_ | refine aJ ?_ | (refine ak ?_; intro ss bb) | refine ae ?_ | ((with_reducible apply aE); rfl; kernel_rfl; (repeat (first | exact ay.nil | ((with_reducible apply ay.cons); rfl))); exact hG; exact hin; exact .nil _; intro y hy; refine bF ?_))
 refine az x_ rfl y trivial rfl (.cons _ _ _ _ (.nil R)) pk_ (.cell _ _ _ _ _ rfl mm_ (by kernel_rfl) (by kernel_rfl) (by kernel_rfl)) rfl
theorem vd (hst : aC G) (lo : Nat) (l : List aw) (hb : l.length <= 1048576 /\ ∀ y ∈ l, aw.small 1048576 y) : CtM Tryz.prog G 117 [.sl lo 4 (l.map (aw.tw lo))] [] (fun y : (Nat × Nat) × List (Nat × Nat) => y.2.length = l.length) (fun y => (y.1.1, y.1.2, .row 4 (nR jD l y.2)) :: nO lH l y.2) (fun y => .ms y.1.1 y.1.2 0 l.length) := by
 refine aB Tryz.func117 rfl Tryz.ntmps117 rfl rfl rfl fun w0 R gs objsR hG hR => ?_
 obtain rfl := hR.inv0
 clear hR
 have hlen := aw.len lo l
 have hl1 := hb.1
 have h0 : List.replicate l.length aw.tz = nR jD (l.take 0) [] ++ List.replicate (l.length - 0) aw.tz := by simp [nR]
 repeat' (first | refine W_ ?_ | (refine gI ?_; intro ss bb))
 generalize ss = so; generalize bb = bo
 apply ai (X := Nat × List (Nat × Nat)) [0, 3, 1000000] (fun x => [(4, .int .i64 (x.1 : Int))]) (fun x => (so, bo, .row 4 (nR jD (l.take x.1) x.2 ++ List.replicate (l.length - x.1) aw.tz)) :: (nO lH (l.take x.1) x.2 ++ R)) (fun x => x.1 <= l.length /\ x.2.length = x.1) (fun x => l.length - x.1) (0, []) ⟨Nat.zero_le _, rfl⟩
 exact kp_; exact nw_
 ·rw [<- h0]; exact .refl _
 rintro ⟨i, ps⟩ ⟨hi, hps⟩
 dsimp only at hi hps |-
 by_cases hlt : i < l.length
 ·have hrs := fun p => ac8 jD aw.tz hlt hps p
  have hos := fun p => aau lH hlt hps p
  have hra : (l.map (aw.tw lo))[i]? = some (l[i].tw lo) := aL hlt
  have hbi := hb.2 _ (List.getElem_mem hlt)
  generalize l[i] = x at hrs hos hra hbi
  have hct := yJ hst lo x hbi
  rw [show x.tw lo = [.bool x.block, .int .i64 x.params, .int .i64 x.slots, .sl lo 4 (x.instrs.map (ag.tw lo))] from rfl] at hra
  have hrow : (nR jD (l.take i) ps ++ List.replicate (l.length - i) aw.tz)[i]? = some [.bool false, .int .i64 0, .int .i64 0, .nils] := (hrs (0, 0)).1
  generalize nO lH (l.take i) ps = T at hos |-
  repeat' (first | refine W_ ?_ | ((with_reducible apply aE); rfl; kernel_rfl; (repeat (first | exact ay.nil | ((with_reducible apply ay.cons); rfl))); exact hG; exact hct; exact .nil _; intro y hy; refine bF ?_) | refine bJ ?_)
  refine ah (i + 1, ps ++ [y]) ⟨by dsimp only; omega, by dsimp only; simp [hps]⟩ (by dsimp only; omega) (.of _ nw_ od_ ?_)
  dsimp only
  rw [hos y, <- (hrs y).2]
  exact sR _ _ T R
 ·obtain rfl : i = l.length := by omega
  rw [List.take_of_length_le (Nat.le_refl _), Nat.sub_self, List.replicate_zero, List.append_nil]
  repeat' refine W_ ?_
  exact az x_ rfl ((so, bo), ps) hps rfl (.cons _ _ _ _ (.app _ R)) (.refl _) (.tmp _ _ rfl) rfl
end
end Go.Proofs.YtigipcbnfeoliaaGreatDoor
