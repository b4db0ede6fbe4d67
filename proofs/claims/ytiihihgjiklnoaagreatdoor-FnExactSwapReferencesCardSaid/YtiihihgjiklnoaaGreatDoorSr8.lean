/- Part 8 of the proof: the texts TvA, LwT, NeA, IvA. -/
import Derived.Test.YtiihihgjiklnoaaGreatDoorSr3
import Derived.Test.YtiihihgjiklnoaaGreatDoorSr5
import Derived.Test.YtiihihgjiklnoaaGreatDoorSr2
set_option linter.all false
set_option maxHeartbeats 2000000
set_option maxRecDepth 20000
namespace Go.Proofs.YtiihihgjiklnoaaGreatDoor
open Go Go.RowKit
mutual
def PT.tvs : PT -> List TV
 | .int k n => [.int k n]
 | .bool b => [.bool b]
 | .str s => [.str s]
 | .agg l => PT.tvsL l
 | .sl _ _ m l => [.sl 0 m (PT.rowsL l)]
def PT.tvsL : List PT -> List TV
 | [] => []
 | t :: r => PT.tvs t ++ PT.tvsL r
def PT.rowsL : List PT -> List (List TV)
 | [] => []
 | t :: r => PT.tvs t :: PT.rowsL r
end
theorem PT.rowsL_map (l : List PT) : PT.rowsL l = l.map PT.tvs := by
 induction l with
 | nil => rfl
 | cons t r ih => simp [PT.rowsL, ih]
theorem PT.rows_flat (l : List PT) : (PT.rowsL l).flatten = PT.tvsL l := by
 induction l with
 | nil => rfl
 | cons t r ih => simp [PT.rowsL, PT.tvsL, ih]
def ab7 (w : World) (ts : List TV) (vs : List Value) : Prop := ts.length = vs.length /\ (∀ t ∈ ts, t.isCell = true) /\ ∀ (i : Nat) (t : TV) (v : Value), ts[i]? = some t -> vs[i]? = some v -> Rep w [] t v
theorem ab7.append {w : World} {a b : List TV} {x y : List Value} (h : ab7 w a x) (k : ab7 w b y) : ab7 w (a ++ b) (x ++ y) := by
 refine ⟨by simp [h.1, k.1], fun t ht => ?_, fun i t v ht hv => ?_⟩
 ·rcases List.mem_append.1 ht with ht | ht
  ·exact h.2.1 t ht
  ·exact k.2.1 t ht
 ·by_cases hi : i < a.length
  ·rw [List.getElem?_append_left hi] at ht
   rw [List.getElem?_append_left (by rw [<- h.1]; exact hi)] at hv
   exact h.2.2 i t v ht hv
  ·rw [List.getElem?_append_right (by omega)] at ht
   rw [List.getElem?_append_right (by rw [<- h.1]; omega)] at hv
   rw [<- h.1] at hv
   exact k.2.2 _ t v ht hv
theorem ab7.one {w : World} {t : TV} {v : Value} (h : Rep w [] t v) (hc : t.isCell = true) : ab7 w [t] [v] := ⟨rfl, by simpa using hc, fun i u x hu hx => by
 cases i with
 | zero => simp at hu hx; subst hu; subst hx; exact h
 | succ i => simp at hu⟩
mutual
theorem adC (w : World) (S : Nat -> Prop) : ∀ t : PT, en w S t -> ab7 w t.tvs t.cells
 | .int k n, _ => .one (.int k n) rfl
 | .bool b, _ => .one (.bool b) rfl
 | .str s, _ => .one (.str s) rfl
 | .agg l, h => by
   simp only [PT.tvs, PT.cells]
   simp only [en] at h
   exact zK w S l h
 | .sl A c m l, h => by
   simp only [PT.tvs, PT.cells]
   simp only [en] at h
   obtain ⟨h1, h2, h3, h4, h5⟩ := h
   have h6 := zK w S l h5
   have hlen : (PT.rowsL l).length = l.length := by rw [PT.rowsL_map]; simp
   refine .one ?_ rfl
   have key : ∀ j, ∃ u, ∀ t, (PT.tvsL l)[j]? = some t -> ∃ b o, A = some ⟨b, o, none⟩ /\ w.cell? ⟨b, o + j, none⟩ = some u /\ Rep w [] t u := fun j => by
     cases hj : (PT.cellsL l)[j]? with
     | none =>
       refine ⟨undef, fun t ht => ?_⟩
       have : j < (PT.tvsL l).length := (List.getElem?_eq_some_iff.1 ht).1
       rw [h6.1] at this
       rw [List.getElem?_eq_getElem this] at hj; cases hj
     | some u =>
       refine ⟨u, fun t ht => ?_⟩
       obtain ⟨b, o, e1, _, e2⟩ := h3 j u hj
       exact ⟨b, o, e1, e2, h6.2.2 j t u ht hj⟩
   have hr := Rep.sl (w := w) (objs := []) 0 m (PT.rowsL l) A c (by omega) h2 (fun r hr => by
       rw [PT.rowsL_map] at hr
       obtain ⟨t, ht, rfl⟩ := List.mem_map.1 hr
       rw [<- h4 t ht]
       exact (uo w S l h5 t ht).1) (fun t ht => by rw [PT.rows_flat] at ht; exact h6.2.1 t ht) (fun j => Classical.choose (key j))
     (fun j t hj => by
       rw [PT.rows_flat] at hj
       obtain ⟨b, o, e1, e2, _⟩ := Classical.choose_spec (key j) t hj
       exact ⟨b, o, e1, xd b, e2⟩)
     (fun j t hj => by
       rw [PT.rows_flat] at hj
       obtain ⟨b, o, _, _, e3⟩ := Classical.choose_spec (key j) t hj
       exact e3)
   rw [hlen] at hr
   exact hr
theorem zK (w : World) (S : Nat -> Prop) : ∀ l : List PT, cF w S l -> ab7 w (PT.tvsL l) (PT.cellsL l)
 | [], _ => ⟨rfl, by simp [PT.tvsL], by simp [PT.tvsL]⟩
 | t :: r, h => by
   simp only [PT.tvsL, PT.cellsL]
   simp only [cF] at h
   exact (adC w S t h.1).append (zK w S r h.2)
theorem uo (w : World) (S : Nat -> Prop) : ∀ l : List PT, cF w S l -> ∀ t ∈ l, ab7 w t.tvs t.cells
 | [], _, t, ht => by simp at ht
 | x :: r, h, t, ht => by
   simp only [cF] at h
   rcases List.mem_cons.1 ht with e | ht
   ·rw [e]; exact adC w S x h.1
   ·exact uo w S r h.2 t ht
end
theorem bg {α : Type} {p : α -> Prop} {l : List α} {i : Nat} (h : i < l.length) (ha : ∀ y ∈ l.take i, p y) (hx : p l[i]) : ∀ y ∈ l.take (i + 1), p y := fun y hy => by
 rw [List.take_add_one, List.getElem?_eq_getElem h] at hy
 rcases List.mem_append.1 hy with hy | hy
 ·exact ha y hy
 ·simp at hy; subst hy; exact hx
def gH {α : Type} (tw : α -> List TV) (z : List TV) (l : List α) (i : Nat) : List (List TV) := (l.take i).map tw ++ List.replicate (l.length - i) z
theorem e9 {α : Type} (tw : α -> List TV) (z : List TV) (l : List α) : List.replicate l.length z = gH tw z l 0 := by simp [gH]
theorem fb {α : Type} (tw : α -> List TV) (z : List TV) (l : List α) : gH tw z l l.length = l.map tw := by simp [gH]
theorem fN {α : Type} (tw : α -> List TV) (z : List TV) {l : List α} {i : Nat} (h : i < l.length) : (gH tw z l i)[i]? = some z /\ (gH tw z l i).set i (tw l[i]) = gH tw z l (i + 1) := by
 have e : l.length - i = (l.length - (i + 1)) + 1 := by omega
 have hl : ((l.take i).map tw).length = i := by simp; omega
 unfold gH
 refine ⟨?_, ?_⟩
 ·rw [List.getElem?_append_right (by omega), hl, Nat.sub_self, e, List.replicate_succ]; rfl
 ·rw [List.set_append_right _ _ (by omega), hl, Nat.sub_self, e, List.replicate_succ, List.set_cons_zero, show l.take (i + 1) = l.take i ++ [l[i]] from by rw [List.take_add_one, List.getElem?_eq_getElem h]; rfl, List.map_append, List.append_assoc]
  rfl
def jb (B : Nat) (objs : aG) (K : Nat) (l l' : List TV) : Prop := l'.length = l.length /\ ∀ (j : Nat) (t t' : TV), l[j]? = some t -> l'[j]? = some t' -> Fin B objs K t t'
theorem jb.nil {B : Nat} {objs : aG} {K : Nat} : jb B objs K [] [] := ⟨rfl, by simp⟩
theorem jb.cons {B : Nat} {objs : aG} {K : Nat} {t t' : TV} {l l' : List TV} (h : Fin B objs K t t') (hr : jb B objs K l l') : jb B objs K (t :: l) (t' :: l') := ⟨by simp [hr.1], fun j u u' h1 h2 => by
 cases j with
 | zero => simp at h1 h2; subst h1; subst h2; exact h
 | succ j => exact hr.2 j u u' (by simpa using h1) (by simpa using h2)⟩
theorem jb.append {B : Nat} {objs : aG} {K : Nat} {a a' b b' : List TV} (h : jb B objs K a a') (k : jb B objs K b b') : jb B objs K (a ++ b) (a' ++ b') := ⟨by simp [h.1, k.1], fun j u u' h1 h2 => by
 by_cases hj : j < a.length
 ·rw [List.getElem?_append_left hj] at h1
  rw [List.getElem?_append_left (by rw [h.1]; exact hj)] at h2
  exact h.2 j u u' h1 h2
 ·rw [List.getElem?_append_right (by omega)] at h1
  rw [List.getElem?_append_right (by rw [h.1]; omega)] at h2
  rw [h.1] at h2
  exact k.2 _ u u' h1 h2⟩
theorem jb.rows {α : Type} {B : Nat} {objs : aG} {K : Nat} {f f' : α -> List TV} (h : ∀ x, jb B objs K (f x) (f' x)) : ∀ l : List α, jb B objs K (l.map f).flatten (l.map f').flatten
 | [] => .nil
 | x :: r => by simpa using (h x).append (jb.rows h r)
theorem jb.lens {α : Type} {f f' : α -> List TV} (h : ∀ x, (f' x).length = (f x).length) (l : List α) : (l.map f').map List.length = (l.map f).map List.length := by
 induction l with
 | nil => rfl
 | cons x r ih => simpa [h x] using ih
theorem cL {α : Type} {B : Nat} {objs : aG} {K m : Nat} {f f' : α -> List TV} (h : ∀ x, jb B objs K (f x) (f' x)) (l : List α) : Fin B objs K (.sl B m (l.map f)) (.sl K m (l.map f')) :=
 .sl B m _ _ (Nat.le_refl _) (jb.lens (fun x => (h x).1) l) (jb.rows h l).2
theorem acg {α : Type} {B : Nat} {objs : aG} {K s b m : Nat} {f f' : α -> List TV} (h : ∀ x, jb B objs K (f x) (f' x)) {l : List α} (hm : (s, b, aW.row m (l.map f)) ∈ objs) : Fin B objs K (.ms s b 0 l.length) (.sl K m (l.map f')) :=
 .ms s b 0 l.length m _ (l.map f) _ hm (by simp) (by rw [List.drop_zero, List.take_of_length_le (by simp)]) (jb.lens (fun x => (h x).1) l) (jb.rows h l).2
theorem ln {B : Nat} {objs : aG} {K : Nat} {l l' : List TV} (h : jb B objs K l l') : Fin B objs K (.agg l) (.agg l') := .agg l l' h.1 h.2
theorem eF {l : List ByteArray} {i : Nat} (h : i < l.length) : (bN l)[i]? = some [.str l[i]] := aK h
theorem bT (l : List ByteArray) : (bN l).length = l.length := by simp [bN]
section
variable {G : World -> Prop}
theorem md (lo : Nat) (l : List ByteArray) (left : Int) (h : 0 <= left /\ left <= 1048576) (hb : l.length <= 9223372036854775807 /\ ∀ y ∈ l, ByteArray.size y <= 9223372036854775807) : CtM Tryz.prog G 158 [.sl lo 1 (bN l), .int .i64 left] [] (fun y : Int => -1 <= y /\ y <= left /\ (0 <= y -> l.length <= 1048576 /\ ∀ y ∈ l, ByteArray.size y <= 1048576)) (fun _ => []) (fun y => .int .i64 y) := by
 refine aw Tryz.func158 rfl Tryz.ntmps158 rfl rfl rfl fun w0 R gs objsR hG hR => ?_
 obtain rfl := hR.inv0
 clear hR
 have hlen := bT l
 have hl1 := hb.1
 by_cases hn : left - l.length < 0
 ·repeat' refine W_ ?_
  exact av x_ rfl (-1) ⟨by omega, by omega, fun h => by omega⟩ rfl (.nil R) (.refl _) (.tmp _ _ rfl) rfl
 ·repeat' refine W_ ?_
  apply ak (X := Nat × Int) [0, 1000000] (fun x => [(5, .int .i64 (x.1 : Int)), (1, .int .i64 x.2)]) (fun _ => R) (fun x => x.1 <= l.length /\ 0 <= x.2 /\ x.2 <= left /\ ∀ y ∈ l.take x.1, ByteArray.size y <= 1048576) (fun x => l.length - x.1) (0, left - l.length) ⟨Nat.zero_le _, by dsimp only; omega, by dsimp only; omega, by simp⟩
  exact kp_; exact nw_
  ·exact .refl _
  rintro ⟨i, lf⟩ ⟨hi, h0, h1, hs⟩
  dsimp only at hi h0 h1 hs |-
  by_cases hlt : i < l.length
  ·have hrow := eF hlt
   have hbi := hb.2 _ (List.getElem_mem hlt)
   have hta := bg (p := fun y => ByteArray.size y <= 1048576) hlt hs
   generalize l[i] = x at hrow hbi hta
   repeat' (first | refine W_ ?_ | refine c_ (fun hc => ?_) (fun hc => ?_))
   all_goals first
     | exact av x_ rfl (-1) ⟨by omega, by omega, fun h => by omega⟩ rfl (.nil R) (.refl _) (.tmp _ _ rfl) rfl
     | exact ag (i + 1, lf - x.size) ⟨by dsimp only; omega, by dsimp only; omega, by dsimp only; omega, hta (by omega)⟩ (by dsimp only; omega) (.of _ nw_ od_ pk_)
  ·rw [List.take_of_length_le (by omega)] at hs
   repeat' refine W_ ?_
   exact av x_ rfl lf ⟨by omega, by omega, fun _ => ⟨by omega, hs⟩⟩ rfl (.nil R) (.refl _) (.tmp _ _ rfl) rfl
theorem mr (l1 l2 : Nat) (l : List ByteArray) (hn : l.length <= 1048576) : Ct Tryz.prog G 27 [.sl l1 1 (bN l), .sl l2 1 (bN l)] (fun _ => .bool true) := by
 refine aq Tryz.func27 rfl Tryz.ntmps27 rfl rfl fun w0 _ hG => ?_
 have hlen := bT l
 repeat' refine W_ ?_
 apply ak (X := Nat) [0, 1] (fun i => [(5, .int .i64 (i : Int))]) (fun _ => []) (fun i => i <= l.length) (fun i => l.length - i) 0 (Nat.zero_le _)
 exact kp_; exact nw_
 ·exact .refl _
 intro i hi
 try dsimp only
 by_cases hlt : i < l.length
 ·have hrow := eF hlt
  generalize l[i] = x at hrow
  have hx : ¬ x ≠ x := fun h => h rfl
  repeat' refine V_ ?_
  exact ag (i + 1) (by omega) (by omega) (.of _ nw_ od_ pk_)
 ·repeat' refine W_ ?_
  exact r1_
end
def ah.tw (lo : Nat) (x : ah) : List TV := [.int .i64 x.op, .int .i64 x.a, .int .i64 x.b, .str x.text]
def ah.small (n : Nat) (x : ah) : Prop := (x.text.size <= n)
def ah.tz : List TV := [.int .i64 0, .int .i64 0, .int .i64 0, .str ⟨#[]⟩]
theorem ah.fin (B K : Nat) (objs : aG) (x : ah) : jb B objs K (x.tw B) (x.tw K) := .cons (.flat rfl) (.cons (.flat rfl) (.cons (.flat rfl) (.cons (.flat rfl) (.nil))))
theorem ah.len (lo : Nat) (l : List ah) : (l.map (ah.tw lo)).length = l.length := by simp
section
variable {G : World -> Prop}
theorem yn (hst : az G) (lo : Nat) (x : ah) (left : Int) (h : 0 <= left /\ left <= 1048576) (hb : x.small 9223372036854775807) : CtM Tryz.prog G 251 [.agg (x.tw lo), .int .i64 left] [] (fun y : Int => -1 <= y /\ y <= left /\ (0 <= y -> x.small 1048576)) (fun _ => []) (fun y => .int .i64 y) := by
 refine aw Tryz.func251 rfl Tryz.ntmps251 rfl rfl rfl fun w0 R gs objsR hG hR => ?_
 obtain rfl := hR.inv0
 clear hR
 unfold ah.small at hb
 have hb1 : x.text.size <= 9223372036854775807 := hb
 unfold ah.tw
 repeat' (first | refine W_ ?_ | refine aM ?_ | refine c_ (fun hc => ?_) (fun hc => ?_))
 all_goals first
   | exact av x_ rfl (-1) ⟨by omega, by omega, fun h => by omega⟩ rfl (.nil R) (.refl _) (.tmp _ _ rfl) rfl
   | (refine av x_ rfl _ ⟨?_, ?_, fun _ => ?_⟩ rfl (.nil R) (.refl _) (.tmp _ _ rfl) rfl
      ·omega
      ·omega
      ·show _ <= _; omega)
theorem vW (hst : az G) (lo : Nat) (l : List ah) (left : Int) (h : 0 <= left /\ left <= 1048576) (hb : l.length <= 9223372036854775807 /\ ∀ y ∈ l, ah.small 9223372036854775807 y) : CtM Tryz.prog G 198 [.sl lo 4 (l.map (ah.tw lo)), .int .i64 left] [] (fun y : Int => -1 <= y /\ y <= left /\ (0 <= y -> l.length <= 1048576 /\ ∀ y ∈ l, ah.small 1048576 y)) (fun _ => []) (fun y => .int .i64 y) := by
 refine aw Tryz.func198 rfl Tryz.ntmps198 rfl rfl rfl fun w0 R gs objsR hG hR => ?_
 obtain rfl := hR.inv0
 clear hR
 have hlen := ah.len lo l
 have hl1 := hb.1
 by_cases hn : left - l.length < 0
 ·repeat' refine W_ ?_
  exact av x_ rfl (-1) ⟨by omega, by omega, fun h => by omega⟩ rfl (.nil R) (.refl _) (.tmp _ _ rfl) rfl
 ·repeat' refine W_ ?_
  apply ak (X := Nat × Int) [0, 1000000] (fun x => [(5, .int .i64 (x.1 : Int)), (1, .int .i64 x.2)]) (fun _ => R) (fun x => x.1 <= l.length /\ 0 <= x.2 /\ x.2 <= left /\ ∀ y ∈ l.take x.1, ah.small 1048576 y) (fun x => l.length - x.1) (0, left - l.length) ⟨Nat.zero_le _, by dsimp only; omega, by dsimp only; omega, by simp⟩
  exact kp_; exact nw_
  ·exact .refl _
  rintro ⟨i, lf⟩ ⟨hi, h0, h1, hs⟩
  dsimp only at hi h0 h1 hs |-
  by_cases hlt : i < l.length
  ·have hrow : (l.map (ah.tw lo))[i]? = some (l[i].tw lo) := aK hlt
   have hbi := hb.2 _ (List.getElem_mem hlt)
   have hta := bg (p := ah.small 1048576) hlt hs
   generalize l[i] = x at hrow hbi hta
   have hct := yn hst lo x lf (by omega) hbi
   unfold ah.tw at hct
   rw [show x.tw lo = [.int .i64 x.op, .int .i64 x.a, .int .i64 x.b, .str x.text] from rfl] at hrow
   repeat' (first | refine W_ ?_ | ((with_reducible apply aJ); rfl; kernel_rfl; (repeat (first | exact aH.nil | ((with_reducible apply aH.cons); rfl))); exact hG; exact hct; exact .nil _; intro y hy; refine bM ?_) | refine c_ (fun hc => ?_) (fun hc => ?_))
   all_goals first
     | exact av x_ rfl (-1) ⟨by omega, by omega, fun h => by omega⟩ rfl (.nil R) (.refl _) (.tmp _ _ rfl) rfl
     | exact ag (i + 1, y) ⟨by dsimp only; omega, by dsimp only; omega, by dsimp only; omega, hta (hy.2.2 (by omega))⟩ (by dsimp only; omega) (.of _ nw_ od_ pk_)
  ·rw [List.take_of_length_le (by omega)] at hs
   repeat' refine W_ ?_
   exact av x_ rfl lf ⟨by omega, by omega, fun _ => ⟨by omega, hs⟩⟩ rfl (.nil R) (.refl _) (.tmp _ _ rfl) rfl
theorem x2 (hst : az G) (lo : Nat) (x : ah) (hb : x.small 1048576) : Ct Tryz.prog G 262 [.agg (x.tw lo)] (fun K => .agg (x.tw K)) := by
 refine aq Tryz.func262 rfl Tryz.ntmps262 rfl rfl fun w0 _ hG => ?_
 unfold ah.small at hb
 skip
 repeat' (first | refine W_ ?_ | refine aM ?_ | (refine am ?_; intro ss bb) | refine ac ?_)
 refine aI x_ rfl (.cell _ _ _ _ _ rfl mm_ (by kernel_rfl) (by kernel_rfl) (by kernel_rfl)) (fun _ => ?_)
 exact ln (ah.fin _ _ _ x)
theorem xH (hst : az G) (l1 l2 : Nat) (x : ah) (hb : x.small 1048576) : Ct Tryz.prog G 272 [.agg (x.tw l1), .agg (x.tw l2)] (fun _ => .bool true) := by
 refine aq Tryz.func272 rfl Tryz.ntmps272 rfl rfl fun w0 _ hG => ?_
 unfold ah.small at hb
 have hnetext : ¬ x.text ≠ x.text := fun h => h rfl
 unfold ah.tw
 repeat' (first | refine W_ ?_ | refine aM ?_)
 all_goals first
   | (exfalso; simp at hc; done)
   | (exact r1_)
theorem uQ (hst : az G) (l1 l2 : Nat) (l : List ah) (hb : l.length <= 1048576 /\ ∀ y ∈ l, ah.small 1048576 y) : Ct Tryz.prog G 225 [.sl l1 4 (l.map (ah.tw l1)), .sl l2 4 (l.map (ah.tw l2))] (fun _ => .bool true) := by
 refine aq Tryz.func225 rfl Tryz.ntmps225 rfl rfl fun w0 _ hG => ?_
 have hlen := ah.len l1 l
 have hlen2 := ah.len l2 l
 have hl1 := hb.1
 repeat' refine W_ ?_
 apply ak (X := Nat) [0, 1] (fun i => [(5, .int .i64 (i : Int))]) (fun _ => []) (fun i => i <= l.length) (fun i => l.length - i) 0 (Nat.zero_le _)
 exact kp_; exact nw_
 ·exact .refl _
 intro i hi
 try dsimp only
 by_cases hlt : i < l.length
 ·have hr1 : (l.map (ah.tw l1))[i]? = some (l[i].tw l1) := aK hlt
  have hr2 : (l.map (ah.tw l2))[i]? = some (l[i].tw l2) := aK hlt
  have hbi := hb.2 _ (List.getElem_mem hlt)
  generalize l[i] = x at hr1 hr2 hbi
  have hct := xH hst l1 l2 x hbi
  unfold ah.tw at hct
  rw [show x.tw l1 = [.int .i64 x.op, .int .i64 x.a, .int .i64 x.b, .str x.text] from rfl] at hr1
  rw [show x.tw l2 = [.int .i64 x.op, .int .i64 x.a, .int .i64 x.b, .str x.text] from rfl] at hr2
  repeat' (first | refine V_ ?_ | refine ae hG hst (hct) ?_)
  exact ag (i + 1) (by omega) (by omega) (.of _ nw_ od_ pk_)
 ·repeat' refine W_ ?_
  exact r1_
end
def aC.tw (lo : Nat) (x : aC) : List TV := [.bool x.block, .int .i64 x.params, .int .i64 x.slots, .sl lo 4 (x.instrs.map (ah.tw lo))]
def aC.small (n : Nat) (x : aC) : Prop := (x.instrs.length <= n /\ ∀ y ∈ x.instrs, ah.small n y)
def aC.tz : List TV := [.bool false, .int .i64 0, .int .i64 0, .nils]
theorem aC.fin (B K : Nat) (objs : aG) (x : aC) : jb B objs K (x.tw B) (x.tw K) := .cons (.flat rfl) (.cons (.flat rfl) (.cons (.flat rfl) (.cons (cL (fun x => ah.fin B K objs x) _) (.nil))))
theorem aC.len (lo : Nat) (l : List aC) : (l.map (aC.tw lo)).length = l.length := by simp
section
variable {G : World -> Prop}
theorem zi (hst : az G) (lo : Nat) (x : aC) (left : Int) (h : 0 <= left /\ left <= 1048576) (hb : x.small 9223372036854775807) : CtM Tryz.prog G 123 [.agg (x.tw lo), .int .i64 left] [] (fun y : Int => -1 <= y /\ y <= left /\ (0 <= y -> x.small 1048576)) (fun _ => []) (fun y => .int .i64 y) := by
 refine aw Tryz.func123 rfl Tryz.ntmps123 rfl rfl rfl fun w0 R gs objsR hG hR => ?_
 obtain rfl := hR.inv0
 clear hR
 unfold aC.small at hb
 skip
 unfold aC.tw
 repeat' (first | refine W_ ?_ | refine aM ?_ | ((with_reducible apply aJ); rfl; kernel_rfl; (repeat (first | exact aH.nil | ((with_reducible apply aH.cons); rfl))); exact hG; exact vW hst lo x.instrs _ (by omega) hb; exact .nil _; intro y1 hy1; refine bM ?_) | refine c_ (fun hc => ?_) (fun hc => ?_))
 all_goals first
   | exact av x_ rfl (-1) ⟨by omega, by omega, fun h => by omega⟩ rfl (.nil R) (.refl _) (.tmp _ _ rfl) rfl
   | (refine av x_ rfl _ ⟨?_, ?_, fun _ => ?_⟩ rfl (.nil R) (.refl _) (.tmp _ _ rfl) rfl
      ·omega
      ·omega
      ·exact hy1.2.2 (by omega))
theorem x1 (hst : az G) (lo : Nat) (l : List aC) (left : Int) (h : 0 <= left /\ left <= 1048576) (hb : l.length <= 9223372036854775807 /\ ∀ y ∈ l, aC.small 9223372036854775807 y) : CtM Tryz.prog G 46 [.sl lo 4 (l.map (aC.tw lo)), .int .i64 left] [] (fun y : Int => -1 <= y /\ y <= left /\ (0 <= y -> l.length <= 1048576 /\ ∀ y ∈ l, aC.small 1048576 y)) (fun _ => []) (fun y => .int .i64 y) := by
 refine aw Tryz.func46 rfl Tryz.ntmps46 rfl rfl rfl fun w0 R gs objsR hG hR => ?_
 obtain rfl := hR.inv0
 clear hR
 have hlen := aC.len lo l
 have hl1 := hb.1
 by_cases hn : left - l.length < 0
 ·repeat' refine W_ ?_
  exact av x_ rfl (-1) ⟨by omega, by omega, fun h => by omega⟩ rfl (.nil R) (.refl _) (.tmp _ _ rfl) rfl
 ·repeat' refine W_ ?_
  apply ak (X := Nat × Int) [0, 1000000] (fun x => [(5, .int .i64 (x.1 : Int)), (1, .int .i64 x.2)]) (fun _ => R) (fun x => x.1 <= l.length /\ 0 <= x.2 /\ x.2 <= left /\ ∀ y ∈ l.take x.1, aC.small 1048576 y) (fun x => l.length - x.1) (0, left - l.length) ⟨Nat.zero_le _, by dsimp only; omega, by dsimp only; omega, by simp⟩
  exact kp_; exact nw_
  ·exact .refl _
  rintro ⟨i, lf⟩ ⟨hi, h0, h1, hs⟩
  dsimp only at hi h0 h1 hs |-
  by_cases hlt : i < l.length
  ·have hrow : (l.map (aC.tw lo))[i]? = some (l[i].tw lo) := aK hlt
   have hbi := hb.2 _ (List.getElem_mem hlt)
   have hta := bg (p := aC.small 1048576) hlt hs
   generalize l[i] = x at hrow hbi hta
   have hct := zi hst lo x lf (by omega) hbi
   unfold aC.tw at hct
   rw [show x.tw lo = [.bool x.block, .int .i64 x.params, .int .i64 x.slots, .sl lo 4 (x.instrs.map (ah.tw lo))] from rfl] at hrow
   repeat' (first | refine W_ ?_ | ((with_reducible apply aJ); rfl; kernel_rfl; (repeat (first | exact aH.nil | ((with_reducible apply aH.cons); rfl))); exact hG; exact hct; exact .nil _; intro y hy; refine bM ?_) | refine c_ (fun hc => ?_) (fun hc => ?_))
   all_goals first
     | exact av x_ rfl (-1) ⟨by omega, by omega, fun h => by omega⟩ rfl (.nil R) (.refl _) (.tmp _ _ rfl) rfl
     | exact ag (i + 1, y) ⟨by dsimp only; omega, by dsimp only; omega, by dsimp only; omega, hta (hy.2.2 (by omega))⟩ (by dsimp only; omega) (.of _ nw_ od_ pk_)
  ·rw [List.take_of_length_le (by omega)] at hs
   repeat' refine W_ ?_
   exact av x_ rfl lf ⟨by omega, by omega, fun _ => ⟨by omega, hs⟩⟩ rfl (.nil R) (.refl _) (.tmp _ _ rfl) rfl
theorem aaR (hst : az G) (l1 l2 : Nat) (x : aC) (hb : x.small 1048576) : Ct Tryz.prog G 147 [.agg (x.tw l1), .agg (x.tw l2)] (fun _ => .bool true) := by
 refine aq Tryz.func147 rfl Tryz.ntmps147 rfl rfl fun w0 _ hG => ?_
 unfold aC.small at hb
 have hsinstrs := hb
 unfold aC.tw
 repeat' (first | refine W_ ?_ | refine aM ?_ | refine ad hG hst (uQ hst l1 l2 x.instrs hsinstrs) ?_ | refine c_ (fun hc => ?_) (fun hc => ?_))
 all_goals first
   | (exfalso; simp at hc; done)
   | (exact r1_)
theorem x8 (hst : az G) (l1 l2 : Nat) (l : List aC) (hb : l.length <= 1048576 /\ ∀ y ∈ l, aC.small 1048576 y) : Ct Tryz.prog G 63 [.sl l1 4 (l.map (aC.tw l1)), .sl l2 4 (l.map (aC.tw l2))] (fun _ => .bool true) := by
 refine aq Tryz.func63 rfl Tryz.ntmps63 rfl rfl fun w0 _ hG => ?_
 have hlen := aC.len l1 l
 have hlen2 := aC.len l2 l
 have hl1 := hb.1
 repeat' refine W_ ?_
 apply ak (X := Nat) [0, 1] (fun i => [(5, .int .i64 (i : Int))]) (fun _ => []) (fun i => i <= l.length) (fun i => l.length - i) 0 (Nat.zero_le _)
 exact kp_; exact nw_
 ·exact .refl _
 intro i hi
 try dsimp only
 by_cases hlt : i < l.length
 ·have hr1 : (l.map (aC.tw l1))[i]? = some (l[i].tw l1) := aK hlt
  have hr2 : (l.map (aC.tw l2))[i]? = some (l[i].tw l2) := aK hlt
  have hbi := hb.2 _ (List.getElem_mem hlt)
  generalize l[i] = x at hr1 hr2 hbi
  have hct := aaR hst l1 l2 x hbi
  unfold aC.tw at hct
  rw [show x.tw l1 = [.bool x.block, .int .i64 x.params, .int .i64 x.slots, .sl l1 4 (x.instrs.map (ah.tw l1))] from rfl] at hr1
  rw [show x.tw l2 = [.bool x.block, .int .i64 x.params, .int .i64 x.slots, .sl l2 4 (x.instrs.map (ah.tw l2))] from rfl] at hr2
  repeat' (first | refine V_ ?_ | refine ae hG hst (hct) ?_)
  exact ag (i + 1) (by omega) (by omega) (.of _ nw_ od_ pk_)
 ·repeat' refine W_ ?_
  exact r1_
end
def aA.tw (lo : Nat) (x : aA) : List TV := [.int .i64 x.owner, .bool x.class_, .str x.selector, .int .i64 x.code]
def aA.small (n : Nat) (x : aA) : Prop := (x.selector.size <= n)
def aA.tz : List TV := [.int .i64 0, .bool false, .str ⟨#[]⟩, .int .i64 0]
theorem aA.fin (B K : Nat) (objs : aG) (x : aA) : jb B objs K (x.tw B) (x.tw K) := .cons (.flat rfl) (.cons (.flat rfl) (.cons (.flat rfl) (.cons (.flat rfl) (.nil))))
theorem aA.len (lo : Nat) (l : List aA) : (l.map (aA.tw lo)).length = l.length := by simp
section
variable {G : World -> Prop}
theorem yt (hst : az G) (lo : Nat) (x : aA) (left : Int) (h : 0 <= left /\ left <= 1048576) (hb : x.small 9223372036854775807) : CtM Tryz.prog G 124 [.agg (x.tw lo), .int .i64 left] [] (fun y : Int => -1 <= y /\ y <= left /\ (0 <= y -> x.small 1048576)) (fun _ => []) (fun y => .int .i64 y) := by
 refine aw Tryz.func124 rfl Tryz.ntmps124 rfl rfl rfl fun w0 R gs objsR hG hR => ?_
 obtain rfl := hR.inv0
 clear hR
 unfold aA.small at hb
 have hb1 : x.selector.size <= 9223372036854775807 := hb
 unfold aA.tw
 repeat' (first | refine W_ ?_ | refine aM ?_ | refine c_ (fun hc => ?_) (fun hc => ?_))
 all_goals first
   | exact av x_ rfl (-1) ⟨by omega, by omega, fun h => by omega⟩ rfl (.nil R) (.refl _) (.tmp _ _ rfl) rfl
   | (refine av x_ rfl _ ⟨?_, ?_, fun _ => ?_⟩ rfl (.nil R) (.refl _) (.tmp _ _ rfl) rfl
      ·omega
      ·omega
      ·show _ <= _; omega)
theorem vd (hst : az G) (lo : Nat) (l : List aA) (left : Int) (h : 0 <= left /\ left <= 1048576) (hb : l.length <= 9223372036854775807 /\ ∀ y ∈ l, aA.small 9223372036854775807 y) : CtM Tryz.prog G 47 [.sl lo 4 (l.map (aA.tw lo)), .int .i64 left] [] (fun y : Int => -1 <= y /\ y <= left /\ (0 <= y -> l.length <= 1048576 /\ ∀ y ∈ l, aA.small 1048576 y)) (fun _ => []) (fun y => .int .i64 y) := by
 refine aw Tryz.func47 rfl Tryz.ntmps47 rfl rfl rfl fun w0 R gs objsR hG hR => ?_
 obtain rfl := hR.inv0
 clear hR
 have hlen := aA.len lo l
 have hl1 := hb.1
 by_cases hn : left - l.length < 0
 ·repeat' refine W_ ?_
  exact av x_ rfl (-1) ⟨by omega, by omega, fun h => by omega⟩ rfl (.nil R) (.refl _) (.tmp _ _ rfl) rfl
 ·repeat' refine W_ ?_
  apply ak (X := Nat × Int) [0, 1000000] (fun x => [(5, .int .i64 (x.1 : Int)), (1, .int .i64 x.2)]) (fun _ => R) (fun x => x.1 <= l.length /\ 0 <= x.2 /\ x.2 <= left /\ ∀ y ∈ l.take x.1, aA.small 1048576 y) (fun x => l.length - x.1) (0, left - l.length) ⟨Nat.zero_le _, by dsimp only; omega, by dsimp only; omega, by simp⟩
  exact kp_; exact nw_
  ·exact .refl _
  rintro ⟨i, lf⟩ ⟨hi, h0, h1, hs⟩
  dsimp only at hi h0 h1 hs |-
  by_cases hlt : i < l.length
  ·have hrow : (l.map (aA.tw lo))[i]? = some (l[i].tw lo) := aK hlt
   have hbi := hb.2 _ (List.getElem_mem hlt)
   have hta := bg (p := aA.small 1048576) hlt hs
   generalize l[i] = x at hrow hbi hta
   have hct := yt hst lo x lf (by omega) hbi
   unfold aA.tw at hct
   rw [show x.tw lo = [.int .i64 x.owner, .bool x.class_, .str x.selector, .int .i64 x.code] from rfl] at hrow
   repeat' (first | refine W_ ?_ | ((with_reducible apply aJ); rfl; kernel_rfl; (repeat (first | exact aH.nil | ((with_reducible apply aH.cons); rfl))); exact hG; exact hct; exact .nil _; intro y hy; refine bM ?_) | refine c_ (fun hc => ?_) (fun hc => ?_))
   all_goals first
     | exact av x_ rfl (-1) ⟨by omega, by omega, fun h => by omega⟩ rfl (.nil R) (.refl _) (.tmp _ _ rfl) rfl
     | exact ag (i + 1, y) ⟨by dsimp only; omega, by dsimp only; omega, by dsimp only; omega, hta (hy.2.2 (by omega))⟩ (by dsimp only; omega) (.of _ nw_ od_ pk_)
  ·rw [List.take_of_length_le (by omega)] at hs
   repeat' refine W_ ?_
   exact av x_ rfl lf ⟨by omega, by omega, fun _ => ⟨by omega, hs⟩⟩ rfl (.nil R) (.refl _) (.tmp _ _ rfl) rfl
theorem yB (hst : az G) (lo : Nat) (x : aA) (hb : x.small 1048576) : Ct Tryz.prog G 133 [.agg (x.tw lo)] (fun K => .agg (x.tw K)) := by
 refine aq Tryz.func133 rfl Tryz.ntmps133 rfl rfl fun w0 _ hG => ?_
 unfold aA.small at hb
 skip
 repeat' (first | refine W_ ?_ | refine aM ?_ | (refine am ?_; intro ss bb) | refine ac ?_)
 refine aI x_ rfl (.cell _ _ _ _ _ rfl mm_ (by kernel_rfl) (by kernel_rfl) (by kernel_rfl)) (fun _ => ?_)
 exact ln (aA.fin _ _ _ x)
theorem xN (hst : az G) (l1 l2 : Nat) (x : aA) (hb : x.small 1048576) : Ct Tryz.prog G 148 [.agg (x.tw l1), .agg (x.tw l2)] (fun _ => .bool true) := by
 refine aq Tryz.func148 rfl Tryz.ntmps148 rfl rfl fun w0 _ hG => ?_
 unfold aA.small at hb
 have hneselector : ¬ x.selector ≠ x.selector := fun h => h rfl
 unfold aA.tw
 repeat' (first | refine W_ ?_ | refine aM ?_ | refine c_ (fun hc => ?_) (fun hc => ?_))
 all_goals first
   | (exfalso; simp at hc; done)
   | (exact r1_)
theorem uU (hst : az G) (l1 l2 : Nat) (l : List aA) (hb : l.length <= 1048576 /\ ∀ y ∈ l, aA.small 1048576 y) : Ct Tryz.prog G 64 [.sl l1 4 (l.map (aA.tw l1)), .sl l2 4 (l.map (aA.tw l2))] (fun _ => .bool true) := by
 refine aq Tryz.func64 rfl Tryz.ntmps64 rfl rfl fun w0 _ hG => ?_
 have hlen := aA.len l1 l
 have hlen2 := aA.len l2 l
 have hl1 := hb.1
 repeat' refine W_ ?_
 apply ak (X := Nat) [0, 1] (fun i => [(5, .int .i64 (i : Int))]) (fun _ => []) (fun i => i <= l.length) (fun i => l.length - i) 0 (Nat.zero_le _)
 exact kp_; exact nw_
 ·exact .refl _
 intro i hi
 try dsimp only
 by_cases hlt : i < l.length
 ·have hr1 : (l.map (aA.tw l1))[i]? = some (l[i].tw l1) := aK hlt
  have hr2 : (l.map (aA.tw l2))[i]? = some (l[i].tw l2) := aK hlt
  have hbi := hb.2 _ (List.getElem_mem hlt)
  generalize l[i] = x at hr1 hr2 hbi
  have hct := xN hst l1 l2 x hbi
  unfold aA.tw at hct
  rw [show x.tw l1 = [.int .i64 x.owner, .bool x.class_, .str x.selector, .int .i64 x.code] from rfl] at hr1
  rw [show x.tw l2 = [.int .i64 x.owner, .bool x.class_, .str x.selector, .int .i64 x.code] from rfl] at hr2
  repeat' (first | refine V_ ?_ | refine ae hG hst (hct) ?_)
  exact ag (i + 1) (by omega) (by omega) (.of _ nw_ od_ pk_)
 ·repeat' refine W_ ?_
  exact r1_
end
def aa.tw (lo : Nat) (x : aa) : List TV := [.str x.name, .int .i64 x.parent, .sl lo 1 (bN x.fields)]
def aa.small (n : Nat) (x : aa) : Prop := (x.name.size <= n) /\ (x.fields.length <= n /\ ∀ y ∈ x.fields, ByteArray.size y <= n)
def aa.tz : List TV := [.str ⟨#[]⟩, .int .i64 0, .nils]
theorem aa.fin (B K : Nat) (objs : aG) (x : aa) : jb B objs K (x.tw B) (x.tw K) := .cons (.flat rfl) (.cons (.flat rfl) (.cons (cL (fun x => .cons (.flat rfl) .nil) _) (.nil)))
theorem aa.len (lo : Nat) (l : List aa) : (l.map (aa.tw lo)).length = l.length := by simp
section
variable {G : World -> Prop}
theorem pD (hst : az G) (lo : Nat) (x : aa) (left : Int) (h : 0 <= left /\ left <= 1048576) (hb : x.small 9223372036854775807) : CtM Tryz.prog G 122 [.agg (x.tw lo), .int .i64 left] [] (fun y : Int => -1 <= y /\ y <= left /\ (0 <= y -> x.small 1048576)) (fun _ => []) (fun y => .int .i64 y) := by
 refine aw Tryz.func122 rfl Tryz.ntmps122 rfl rfl rfl fun w0 R gs objsR hG hR => ?_
 obtain rfl := hR.inv0
 clear hR
 unfold aa.small at hb
 have hb1 : x.name.size <= 9223372036854775807 := hb.1
 unfold aa.tw
 repeat' (first | refine W_ ?_ | refine aM ?_ | ((with_reducible apply aJ); rfl; kernel_rfl; (repeat (first | exact aH.nil | ((with_reducible apply aH.cons); rfl))); exact hG; exact md lo x.fields _ (by omega) hb.2; exact .nil _; intro y2 hy2; refine bM ?_) | refine c_ (fun hc => ?_) (fun hc => ?_))
 all_goals first
   | exact av x_ rfl (-1) ⟨by omega, by omega, fun h => by omega⟩ rfl (.nil R) (.refl _) (.tmp _ _ rfl) rfl
   | (refine av x_ rfl _ ⟨?_, ?_, fun _ => ?_⟩ rfl (.nil R) (.refl _) (.tmp _ _ rfl) rfl
      ·omega
      ·omega
      ·exact ⟨by omega, hy2.2.2 (by omega)⟩)
theorem iN (hst : az G) (lo : Nat) (l : List aa) (left : Int) (h : 0 <= left /\ left <= 1048576) (hb : l.length <= 9223372036854775807 /\ ∀ y ∈ l, aa.small 9223372036854775807 y) : CtM Tryz.prog G 45 [.sl lo 3 (l.map (aa.tw lo)), .int .i64 left] [] (fun y : Int => -1 <= y /\ y <= left /\ (0 <= y -> l.length <= 1048576 /\ ∀ y ∈ l, aa.small 1048576 y)) (fun _ => []) (fun y => .int .i64 y) := by
 refine aw Tryz.func45 rfl Tryz.ntmps45 rfl rfl rfl fun w0 R gs objsR hG hR => ?_
 obtain rfl := hR.inv0
 clear hR
 have hlen := aa.len lo l
 have hl1 := hb.1
 by_cases hn : left - l.length < 0
 ·repeat' refine W_ ?_
  exact av x_ rfl (-1) ⟨by omega, by omega, fun h => by omega⟩ rfl (.nil R) (.refl _) (.tmp _ _ rfl) rfl
 ·repeat' refine W_ ?_
  apply ak (X := Nat × Int) [0, 1000000] (fun x => [(5, .int .i64 (x.1 : Int)), (1, .int .i64 x.2)]) (fun _ => R) (fun x => x.1 <= l.length /\ 0 <= x.2 /\ x.2 <= left /\ ∀ y ∈ l.take x.1, aa.small 1048576 y) (fun x => l.length - x.1) (0, left - l.length) ⟨Nat.zero_le _, by dsimp only; omega, by dsimp only; omega, by simp⟩
  exact kp_; exact nw_
  ·exact .refl _
  rintro ⟨i, lf⟩ ⟨hi, h0, h1, hs⟩
  dsimp only at hi h0 h1 hs |-
  by_cases hlt : i < l.length
  ·have hrow : (l.map (aa.tw lo))[i]? = some (l[i].tw lo) := aK hlt
   have hbi := hb.2 _ (List.getElem_mem hlt)
   have hta := bg (p := aa.small 1048576) hlt hs
   generalize l[i] = x at hrow hbi hta
   have hct := pD hst lo x lf (by omega) hbi
   unfold aa.tw at hct
   rw [show x.tw lo = [.str x.name, .int .i64 x.parent, .sl lo 1 (bN x.fields)] from rfl] at hrow
   repeat' (first | refine W_ ?_ | ((with_reducible apply aJ); rfl; kernel_rfl; (repeat (first | exact aH.nil | ((with_reducible apply aH.cons); rfl))); exact hG; exact hct; exact .nil _; intro y hy; refine bM ?_) | refine c_ (fun hc => ?_) (fun hc => ?_))
   all_goals first
     | exact av x_ rfl (-1) ⟨by omega, by omega, fun h => by omega⟩ rfl (.nil R) (.refl _) (.tmp _ _ rfl) rfl
     | exact ag (i + 1, y) ⟨by dsimp only; omega, by dsimp only; omega, by dsimp only; omega, hta (hy.2.2 (by omega))⟩ (by dsimp only; omega) (.of _ nw_ od_ pk_)
  ·rw [List.take_of_length_le (by omega)] at hs
   repeat' refine W_ ?_
   exact av x_ rfl lf ⟨by omega, by omega, fun _ => ⟨by omega, hs⟩⟩ rfl (.nil R) (.refl _) (.tmp _ _ rfl) rfl
theorem oP (hst : az G) (l1 l2 : Nat) (x : aa) (hb : x.small 1048576) : Ct Tryz.prog G 146 [.agg (x.tw l1), .agg (x.tw l2)] (fun _ => .bool true) := by
 refine aq Tryz.func146 rfl Tryz.ntmps146 rfl rfl fun w0 _ hG => ?_
 unfold aa.small at hb
 have hsfields := (hb.2).1
 have hnename : ¬ x.name ≠ x.name := fun h => h rfl
 unfold aa.tw
 repeat' (first | refine W_ ?_ | refine aM ?_ | refine ad hG hst (mr l1 l2 x.fields hsfields) ?_)
 all_goals first
   | (exfalso; simp at hc; done)
   | (exact r1_)
theorem je (hst : az G) (l1 l2 : Nat) (l : List aa) (hb : l.length <= 1048576 /\ ∀ y ∈ l, aa.small 1048576 y) : Ct Tryz.prog G 62 [.sl l1 3 (l.map (aa.tw l1)), .sl l2 3 (l.map (aa.tw l2))] (fun _ => .bool true) := by
 refine aq Tryz.func62 rfl Tryz.ntmps62 rfl rfl fun w0 _ hG => ?_
 have hlen := aa.len l1 l
 have hlen2 := aa.len l2 l
 have hl1 := hb.1
 repeat' refine W_ ?_
 apply ak (X := Nat) [0, 1] (fun i => [(5, .int .i64 (i : Int))]) (fun _ => []) (fun i => i <= l.length) (fun i => l.length - i) 0 (Nat.zero_le _)
 exact kp_; exact nw_
 ·exact .refl _
 intro i hi
 try dsimp only
 by_cases hlt : i < l.length
 ·have hr1 : (l.map (aa.tw l1))[i]? = some (l[i].tw l1) := aK hlt
  have hr2 : (l.map (aa.tw l2))[i]? = some (l[i].tw l2) := aK hlt
  have hbi := hb.2 _ (List.getElem_mem hlt)
  generalize l[i] = x at hr1 hr2 hbi
  have hct := oP hst l1 l2 x hbi
  unfold aa.tw at hct
  rw [show x.tw l1 = [.str x.name, .int .i64 x.parent, .sl l1 1 (bN x.fields)] from rfl] at hr1
  rw [show x.tw l2 = [.str x.name, .int .i64 x.parent, .sl l2 1 (bN x.fields)] from rfl] at hr2
  repeat' (first | refine V_ ?_ | refine ae hG hst (hct) ?_)
  exact ag (i + 1) (by omega) (by omega) (.of _ nw_ od_ pk_)
 ·repeat' refine W_ ?_
  exact r1_
end
def aD.tw (lo : Nat) (x : aD) : List TV := [.sl lo 3 (x.classes.map (aa.tw lo)), .sl lo 4 (x.codes.map (aC.tw lo)), .sl lo 4 (x.entries.map (aA.tw lo)), .int .i64 x.main]
def aD.small (n : Nat) (x : aD) : Prop := (x.classes.length <= n /\ ∀ y ∈ x.classes, aa.small n y) /\ (x.codes.length <= n /\ ∀ y ∈ x.codes, aC.small n y) /\ (x.entries.length <= n /\ ∀ y ∈ x.entries, aA.small n y)
def aD.tz : List TV := [.nils, .nils, .nils, .int .i64 0]
theorem aD.fin (B K : Nat) (objs : aG) (x : aD) : jb B objs K (x.tw B) (x.tw K) := .cons (cL (fun x => aa.fin B K objs x) _) (.cons (cL (fun x => aC.fin B K objs x) _) (.cons (cL (fun x => aA.fin B K objs x) _) (.cons (.flat rfl) (.nil))))
theorem aD.len (lo : Nat) (l : List aD) : (l.map (aD.tw lo)).length = l.length := by simp
section
variable {G : World -> Prop}
theorem qT (hst : az G) (lo : Nat) (x : aD) (left : Int) (h : 0 <= left /\ left <= 1048576) (hb : x.small 9223372036854775807) : CtM Tryz.prog G 12 [.agg (x.tw lo), .int .i64 left] [] (fun y : Int => -1 <= y /\ y <= left /\ (0 <= y -> x.small 1048576)) (fun _ => []) (fun y => .int .i64 y) := by
 refine aw Tryz.func12 rfl Tryz.ntmps12 rfl rfl rfl fun w0 R gs objsR hG hR => ?_
 obtain rfl := hR.inv0
 clear hR
 unfold aD.small at hb
 skip
 unfold aD.tw
 repeat' (first | refine W_ ?_ | refine aM ?_ | ((with_reducible apply aJ); rfl; kernel_rfl; (repeat (first | exact aH.nil | ((with_reducible apply aH.cons); rfl))); exact hG; exact iN hst lo x.classes _ (by omega) hb.1; exact .nil _; intro y1 hy1; refine bM ?_) | ((with_reducible apply aJ); rfl; kernel_rfl; (repeat (first | exact aH.nil | ((with_reducible apply aH.cons); rfl))); exact hG; exact x1 hst lo x.codes _ (by omega) hb.2.1; exact .nil _; intro y2 hy2; refine bM ?_) | ((with_reducible apply aJ); rfl; kernel_rfl; (repeat (first | exact aH.nil | ((with_reducible apply aH.cons); rfl))); exact hG; exact vd hst lo x.entries _ (by omega) hb.2.2; exact .nil _; intro y3 hy3; refine bM ?_) | refine c_ (fun hc => ?_) (fun hc => ?_))
 all_goals first
   | exact av x_ rfl (-1) ⟨by omega, by omega, fun h => by omega⟩ rfl (.nil R) (.refl _) (.tmp _ _ rfl) rfl
   | (refine av x_ rfl _ ⟨?_, ?_, fun _ => ?_⟩ rfl (.nil R) (.refl _) (.tmp _ _ rfl) rfl
      ·omega
      ·omega
      ·exact ⟨hy1.2.2 (by omega), hy2.2.2 (by omega), hy3.2.2 (by omega)⟩)
theorem rA (hst : az G) (l1 l2 : Nat) (x : aD) (hb : x.small 1048576) : Ct Tryz.prog G 17 [.agg (x.tw l1), .agg (x.tw l2)] (fun _ => .bool true) := by
 refine aq Tryz.func17 rfl Tryz.ntmps17 rfl rfl fun w0 _ hG => ?_
 unfold aD.small at hb
 have hsclasses := hb.1
 have hscodes := hb.2.1
 have hsentries := hb.2.2
 unfold aD.tw
 repeat' (first | refine W_ ?_ | refine aM ?_ | refine ad hG hst (je hst l1 l2 x.classes hsclasses) ?_ | refine ad hG hst (x8 hst l1 l2 x.codes hscodes) ?_ | refine ad hG hst (uU hst l1 l2 x.entries hsentries) ?_)
 all_goals first
   | (exfalso; simp at hc; done)
   | (exact r1_)
end
def fr.tw (lo : Nat) (x : fr) : List TV := [.int .i64 x.code, .int .i64 x.at_, .int .i64 x.kind]
def fr.small (n : Nat) (x : fr) : Prop := True
def fr.tz : List TV := [.int .i64 0, .int .i64 0, .int .i64 0]
theorem fr.fin (B K : Nat) (objs : aG) (x : fr) : jb B objs K (x.tw B) (x.tw K) := .cons (.flat rfl) (.cons (.flat rfl) (.cons (.flat rfl) (.nil)))
theorem fr.len (lo : Nat) (l : List fr) : (l.map (fr.tw lo)).length = l.length := by simp
section
variable {G : World -> Prop}
end
def nR {α : Type} (mk : α -> Nat × Nat -> List TV) (l : List α) (ps : List (Nat × Nat)) : List (List TV) := List.zipWith mk l ps
def nO {α : Type} (ob : α -> aW) (l : List α) (ps : List (Nat × Nat)) : aG := List.zipWith (fun x p => (p.1, p.2, ob x)) l ps
theorem pV {α : Type} (mk : α -> Nat × Nat -> List TV) {l : List α} {ps : List (Nat × Nat)} (h : ps.length = l.length) : (nR mk l ps).length = l.length := by simp [nR, h]
theorem dN {α : Type} {l : List α} {i : Nat} (h : i < l.length) : l.take (i + 1) = l.take i ++ [l[i]] := by rw [List.take_add_one, List.getElem?_eq_getElem h]; rfl
theorem lB {α : Type} (ob : α -> aW) {l : List α} {ps : List (Nat × Nat)} {i : Nat} (h : i < l.length) (hp : ps.length = i) (p : Nat × Nat) : nO ob (l.take (i + 1)) (ps ++ [p]) = nO ob (l.take i) ps ++ [(p.1, p.2, ob l[i])] := by
 unfold nO
 rw [dN h, List.zipWith_append (by simp; omega)]; rfl
theorem acw {α : Type} (mk : α -> Nat × Nat -> List TV) (z : List TV) {l : List α} {ps : List (Nat × Nat)} {i : Nat} (h : i < l.length) (hp : ps.length = i) (p : Nat × Nat) :
   (nR mk (l.take i) ps ++ List.replicate (l.length - i) z)[i]? = some z /\ (nR mk (l.take i) ps ++ List.replicate (l.length - i) z).set i (mk l[i] p) = nR mk (l.take (i + 1)) (ps ++ [p]) ++ List.replicate (l.length - (i + 1)) z := by
 have hl : (nR mk (l.take i) ps).length = i := by simp [nR]; omega
 have e : l.length - i = (l.length - (i + 1)) + 1 := by omega
 refine ⟨?_, ?_⟩
 ·rw [List.getElem?_append_right (by omega), hl, Nat.sub_self, e, List.replicate_succ]; rfl
 ·rw [List.set_append_right _ _ (by omega), hl, Nat.sub_self, e, List.replicate_succ, List.set_cons_zero]
  unfold nR
  rw [dN h, List.zipWith_append (by simp; omega), List.append_assoc]; rfl
theorem lc (a z : Nat × Nat × aW) (T R : aG) : cG (a :: ((T ++ [z]) ++ R)) (z :: a :: (T ++ R)) := .perm (by
 have h : ((T ++ [z]) ++ R).Perm (z :: (T ++ R)) := by rw [List.append_assoc]; exact List.perm_middle
 exact (h.cons a).trans (List.Perm.swap z a _))
def eM (x : aa) (p : Nat × Nat) : List TV := [.str x.name, .int .i64 x.parent, .ms p.1 p.2 0 x.fields.length]
def fK (x : aa) : aW := .row 1 (bN x.fields)
def eH (x : aC) (p : Nat × Nat) : List TV := [.bool x.block, .int .i64 x.params, .int .i64 x.slots, .ms p.1 p.2 0 x.instrs.length]
def fq (x : aC) : aW := .row 4 (x.instrs.map (ah.tw 0))
section
variable {G : World -> Prop}
theorem kI (hst : az G) (lo : Nat) (l : List ByteArray) (hn : l.length <= 1048576) : CtM Tryz.prog G 174 [.sl lo 1 (bN l)] [] (fun _ : Nat × Nat => True) (fun y => [(y.1, y.2, .row 1 (bN l))]) (fun y => .ms y.1 y.2 0 l.length) := by
 refine aw Tryz.func174 rfl Tryz.ntmps174 rfl rfl rfl fun w0 R gs objsR hG hR => ?_
 obtain rfl := hR.inv0
 clear hR
 have hlen := bT l
 have h0 := e9 (fun s : ByteArray => [TV.str s]) [.str ⟨#[]⟩] l
 repeat' (first | refine W_ ?_ | (refine gR ?_; intro ss bb))
 generalize ss = so; generalize bb = bo
 apply ak (X := Nat) [0, 3, 1000000] (fun i => [(4, .int .i64 (i : Int))]) (fun i => (so, bo, .row 1 (gH (fun s : ByteArray => [TV.str s]) [.str ⟨#[]⟩] l i)) :: R) (fun i => i <= l.length) (fun i => l.length - i) 0 (Nat.zero_le _)
 exact kp_; exact nw_
 ·rw [<- h0]; exact .refl _
 intro i hi
 try dsimp only
 by_cases hlt : i < l.length
 ·obtain ⟨hrow, hset⟩ := fN (fun s : ByteArray => [TV.str s]) [.str ⟨#[]⟩] hlt
  have hra := eF hlt
  generalize l[i] = x at hset hra
  try dsimp only at hset
  repeat' (first | refine W_ ?_ | refine bA ?_)
  refine ag (i + 1) (by omega) (by omega) (.of _ nw_ od_ (by rw [<- hset]; exact .refl _))
 ·obtain rfl : i = l.length := by omega
  rw [fb]
  repeat' refine W_ ?_
  exact av x_ rfl (so, bo) trivial rfl (.cons _ _ _ _ (.nil R)) pk_ (.tmp _ _ rfl) rfl
theorem tJ (hst : az G) (lo : Nat) (l : List ah) (hb : l.length <= 1048576 /\ ∀ y ∈ l, ah.small 1048576 y) : CtM Tryz.prog G 208 [.sl lo 4 (l.map (ah.tw lo))] [] (fun _ : Nat × Nat => True) (fun y => [(y.1, y.2, .row 4 (l.map (ah.tw 0)))]) (fun y => .ms y.1 y.2 0 l.length) := by
 refine aw Tryz.func208 rfl Tryz.ntmps208 rfl rfl rfl fun w0 R gs objsR hG hR => ?_
 obtain rfl := hR.inv0
 clear hR
 have hlen := ah.len lo l
 have hl1 := hb.1
 have h0 := e9 (ah.tw 0) ah.tz l
 repeat' (first | refine W_ ?_ | (refine gR ?_; intro ss bb))
 generalize ss = so; generalize bb = bo
 apply ak (X := Nat) [0, 3, 1000000] (fun i => [(4, .int .i64 (i : Int))]) (fun i => (so, bo, .row 4 (gH (ah.tw 0) ah.tz l i)) :: R) (fun i => i <= l.length) (fun i => l.length - i) 0 (Nat.zero_le _)
 exact kp_; exact nw_
 ·rw [<- h0]; exact .refl _
 intro i hi
 try dsimp only
 by_cases hlt : i < l.length
 ·obtain ⟨hrow, hset⟩ := fN (ah.tw 0) ah.tz hlt
  have hra : (l.map (ah.tw lo))[i]? = some (l[i].tw lo) := aK hlt
  have hbi := hb.2 _ (List.getElem_mem hlt)
  generalize l[i] = x at hset hra hbi
  have hct := x2 hst lo x hbi
  unfold ah.tw at hct
  rw [show x.tw lo = [.int .i64 x.op, .int .i64 x.a, .int .i64 x.b, .str x.text] from rfl] at hra
  replace hrow : (gH (ah.tw 0) ah.tz l i)[i]? = some [.int .i64 0, .int .i64 0, .int .i64 0, .str ⟨#[]⟩] := hrow
  repeat' (first | refine W_ ?_ | refine ad hG hst (hct) ?_ | refine bA ?_)
  refine ag (i + 1) (by omega) (by omega) (.of _ nw_ od_ (by rw [<- hset]; exact .refl _))
 ·obtain rfl : i = l.length := by omega
  rw [fb]
  repeat' refine W_ ?_
  exact av x_ rfl (so, bo) trivial rfl (.cons _ _ _ _ (.nil R)) pk_ (.tmp _ _ rfl) rfl
theorem tc (hst : az G) (lo : Nat) (l : List aA) (hb : l.length <= 1048576 /\ ∀ y ∈ l, aA.small 1048576 y) : CtM Tryz.prog G 53 [.sl lo 4 (l.map (aA.tw lo))] [] (fun _ : Nat × Nat => True) (fun y => [(y.1, y.2, .row 4 (l.map (aA.tw 0)))]) (fun y => .ms y.1 y.2 0 l.length) := by
 refine aw Tryz.func53 rfl Tryz.ntmps53 rfl rfl rfl fun w0 R gs objsR hG hR => ?_
 obtain rfl := hR.inv0
 clear hR
 have hlen := aA.len lo l
 have hl1 := hb.1
 have h0 := e9 (aA.tw 0) aA.tz l
 repeat' (first | refine W_ ?_ | (refine gR ?_; intro ss bb))
 generalize ss = so; generalize bb = bo
 apply ak (X := Nat) [0, 3, 1000000] (fun i => [(4, .int .i64 (i : Int))]) (fun i => (so, bo, .row 4 (gH (aA.tw 0) aA.tz l i)) :: R) (fun i => i <= l.length) (fun i => l.length - i) 0 (Nat.zero_le _)
 exact kp_; exact nw_
 ·rw [<- h0]; exact .refl _
 intro i hi
 try dsimp only
 by_cases hlt : i < l.length
 ·obtain ⟨hrow, hset⟩ := fN (aA.tw 0) aA.tz hlt
  have hra : (l.map (aA.tw lo))[i]? = some (l[i].tw lo) := aK hlt
  have hbi := hb.2 _ (List.getElem_mem hlt)
  generalize l[i] = x at hset hra hbi
  have hct := yB hst lo x hbi
  unfold aA.tw at hct
  rw [show x.tw lo = [.int .i64 x.owner, .bool x.class_, .str x.selector, .int .i64 x.code] from rfl] at hra
  replace hrow : (gH (aA.tw 0) aA.tz l i)[i]? = some [.int .i64 0, .bool false, .str ⟨#[]⟩, .int .i64 0] := hrow
  repeat' (first | refine W_ ?_ | refine ad hG hst (hct) ?_ | refine bA ?_)
  refine ag (i + 1) (by omega) (by omega) (.of _ nw_ od_ (by rw [<- hset]; exact .refl _))
 ·obtain rfl : i = l.length := by omega
  rw [fb]
  repeat' refine W_ ?_
  exact av x_ rfl (so, bo) trivial rfl (.cons _ _ _ _ (.nil R)) pk_ (.tmp _ _ rfl) rfl
theorem nK (hst : az G) (lo : Nat) (x : aa) (hb : x.small 1048576) : CtM Tryz.prog G 131 [.agg [.str x.name, .int .i64 x.parent, .sl lo 1 (bN x.fields)]] [] (fun _ : Nat × Nat => True) (fun y => [(y.1, y.2, .row 1 (bN x.fields))]) (fun y => .agg [.str x.name, .int .i64 x.parent, .ms y.1 y.2 0 x.fields.length]) := by
 refine aw Tryz.func131 rfl Tryz.ntmps131 rfl rfl rfl fun w0 R gs objsR hG hR => ?_
 obtain rfl := hR.inv0
 clear hR
 have hin := kI hst lo x.fields hb.2.1
 repeat' (first | refine W_ ?_ | refine aM ?_ | (refine am ?_; intro ss bb) | refine ac ?_ | ((with_reducible apply aJ); rfl; kernel_rfl; (repeat (first | exact aH.nil | ((with_reducible apply aH.cons); rfl))); exact hG; exact hin; exact .nil _; intro y hy; refine bI ?_))
 refine av x_ rfl y trivial rfl (.cons _ _ _ _ (.nil R)) pk_ (.cell _ _ _ _ _ rfl mm_ (by kernel_rfl) (by kernel_rfl) (by kernel_rfl)) rfl
theorem iG (hst : az G) (lo : Nat) (l : List aa) (hb : l.length <= 1048576 /\ ∀ y ∈ l, aa.small 1048576 y) : CtM Tryz.prog G 51 [.sl lo 3 (l.map (aa.tw lo))] [] (fun y : (Nat × Nat) × List (Nat × Nat) => y.2.length = l.length) (fun y => (y.1.1, y.1.2, .row 3 (nR eM l y.2)) :: nO fK l y.2) (fun y => .ms y.1.1 y.1.2 0 l.length) := by
 refine aw Tryz.func51 rfl Tryz.ntmps51 rfl rfl rfl fun w0 R gs objsR hG hR => ?_
 obtain rfl := hR.inv0
 clear hR
 have hlen := aa.len lo l
 have hl1 := hb.1
 have h0 : List.replicate l.length aa.tz = nR eM (l.take 0) [] ++ List.replicate (l.length - 0) aa.tz := by simp [nR]
 repeat' (first | refine W_ ?_ | (refine gR ?_; intro ss bb))
 generalize ss = so; generalize bb = bo
 apply ak (X := Nat × List (Nat × Nat)) [0, 3, 1000000] (fun x => [(4, .int .i64 (x.1 : Int))]) (fun x => (so, bo, .row 3 (nR eM (l.take x.1) x.2 ++ List.replicate (l.length - x.1) aa.tz)) :: (nO fK (l.take x.1) x.2 ++ R)) (fun x => x.1 <= l.length /\ x.2.length = x.1) (fun x => l.length - x.1) (0, []) ⟨Nat.zero_le _, rfl⟩
 exact kp_; exact nw_
 ·rw [<- h0]; exact .refl _
 rintro ⟨i, ps⟩ ⟨hi, hps⟩
 dsimp only at hi hps |-
 by_cases hlt : i < l.length
 ·have hrs := fun p => acw eM aa.tz hlt hps p
  have hos := fun p => lB fK hlt hps p
  have hra : (l.map (aa.tw lo))[i]? = some (l[i].tw lo) := aK hlt
  have hbi := hb.2 _ (List.getElem_mem hlt)
  generalize l[i] = x at hrs hos hra hbi
  have hct := nK hst lo x hbi
  rw [show x.tw lo = [.str x.name, .int .i64 x.parent, .sl lo 1 (bN x.fields)] from rfl] at hra
  have hrow : (nR eM (l.take i) ps ++ List.replicate (l.length - i) aa.tz)[i]? = some [.str ⟨#[]⟩, .int .i64 0, .nils] := (hrs (0, 0)).1
  generalize nO fK (l.take i) ps = T at hos |-
  repeat' (first | refine W_ ?_ | ((with_reducible apply aJ); rfl; kernel_rfl; (repeat (first | exact aH.nil | ((with_reducible apply aH.cons); rfl))); exact hG; exact hct; exact .nil _; intro y hy; refine bI ?_) | refine bA ?_)
  refine ag (i + 1, ps ++ [y]) ⟨by dsimp only; omega, by dsimp only; simp [hps]⟩ (by dsimp only; omega) (.of _ nw_ od_ ?_)
  dsimp only
  rw [hos y, <- (hrs y).2]
  exact lc _ _ T R
 ·obtain rfl : i = l.length := by omega
  rw [List.take_of_length_le (Nat.le_refl _), Nat.sub_self, List.replicate_zero, List.append_nil]
  repeat' refine W_ ?_
  exact av x_ rfl ((so, bo), ps) hps rfl (.cons _ _ _ _ (.app _ R)) (.refl _) (.tmp _ _ rfl) rfl
theorem yC (hst : az G) (lo : Nat) (x : aC) (hb : x.small 1048576) : CtM Tryz.prog G 132 [.agg [.bool x.block, .int .i64 x.params, .int .i64 x.slots, .sl lo 4 (x.instrs.map (ah.tw lo))]] [] (fun _ : Nat × Nat => True) (fun y => [(y.1, y.2, .row 4 (x.instrs.map (ah.tw 0)))]) (fun y => .agg [.bool x.block, .int .i64 x.params, .int .i64 x.slots, .ms y.1 y.2 0 x.instrs.length]) := by
 refine aw Tryz.func132 rfl Tryz.ntmps132 rfl rfl rfl fun w0 R gs objsR hG hR => ?_
 obtain rfl := hR.inv0
 clear hR
 have hin := tJ hst lo x.instrs hb
 repeat' (first | refine W_ ?_ | refine aM ?_ | (refine am ?_; intro ss bb) | refine ac ?_ | ((with_reducible apply aJ); rfl; kernel_rfl; (repeat (first | exact aH.nil | ((with_reducible apply aH.cons); rfl))); exact hG; exact hin; exact .nil _; intro y hy; refine bI ?_))
 refine av x_ rfl y trivial rfl (.cons _ _ _ _ (.nil R)) pk_ (.cell _ _ _ _ _ rfl mm_ (by kernel_rfl) (by kernel_rfl) (by kernel_rfl)) rfl
theorem uA (hst : az G) (lo : Nat) (l : List aC) (hb : l.length <= 1048576 /\ ∀ y ∈ l, aC.small 1048576 y) : CtM Tryz.prog G 52 [.sl lo 4 (l.map (aC.tw lo))] [] (fun y : (Nat × Nat) × List (Nat × Nat) => y.2.length = l.length) (fun y => (y.1.1, y.1.2, .row 4 (nR eH l y.2)) :: nO fq l y.2) (fun y => .ms y.1.1 y.1.2 0 l.length) := by
 refine aw Tryz.func52 rfl Tryz.ntmps52 rfl rfl rfl fun w0 R gs objsR hG hR => ?_
 obtain rfl := hR.inv0
 clear hR
 have hlen := aC.len lo l
 have hl1 := hb.1
 have h0 : List.replicate l.length aC.tz = nR eH (l.take 0) [] ++ List.replicate (l.length - 0) aC.tz := by simp [nR]
 repeat' (first | refine W_ ?_ | (refine gR ?_; intro ss bb))
 generalize ss = so; generalize bb = bo
 apply ak (X := Nat × List (Nat × Nat)) [0, 3, 1000000] (fun x => [(4, .int .i64 (x.1 : Int))]) (fun x => (so, bo, .row 4 (nR eH (l.take x.1) x.2 ++ List.replicate (l.length - x.1) aC.tz)) :: (nO fq (l.take x.1) x.2 ++ R)) (fun x => x.1 <= l.length /\ x.2.length = x.1) (fun x => l.length - x.1) (0, []) ⟨Nat.zero_le _, rfl⟩
 exact kp_; exact nw_
 ·rw [<- h0]; exact .refl _
 rintro ⟨i, ps⟩ ⟨hi, hps⟩
 dsimp only at hi hps |-
 by_cases hlt : i < l.length
 ·have hrs := fun p => acw eH aC.tz hlt hps p
  have hos := fun p => lB fq hlt hps p
  have hra : (l.map (aC.tw lo))[i]? = some (l[i].tw lo) := aK hlt
  have hbi := hb.2 _ (List.getElem_mem hlt)
  generalize l[i] = x at hrs hos hra hbi
  have hct := yC hst lo x hbi
  rw [show x.tw lo = [.bool x.block, .int .i64 x.params, .int .i64 x.slots, .sl lo 4 (x.instrs.map (ah.tw lo))] from rfl] at hra
  have hrow : (nR eH (l.take i) ps ++ List.replicate (l.length - i) aC.tz)[i]? = some [.bool false, .int .i64 0, .int .i64 0, .nils] := (hrs (0, 0)).1
  generalize nO fq (l.take i) ps = T at hos |-
  repeat' (first | refine W_ ?_ | ((with_reducible apply aJ); rfl; kernel_rfl; (repeat (first | exact aH.nil | ((with_reducible apply aH.cons); rfl))); exact hG; exact hct; exact .nil _; intro y hy; refine bI ?_) | refine bA ?_)
  refine ag (i + 1, ps ++ [y]) ⟨by dsimp only; omega, by dsimp only; simp [hps]⟩ (by dsimp only; omega) (.of _ nw_ od_ ?_)
  dsimp only
  rw [hos y, <- (hrs y).2]
  exact lc _ _ T R
 ·obtain rfl : i = l.length := by omega
  rw [List.take_of_length_le (Nat.le_refl _), Nat.sub_self, List.replicate_zero, List.append_nil]
  repeat' refine W_ ?_
  exact av x_ rfl ((so, bo), ps) hps rfl (.cons _ _ _ _ (.app _ R)) (.refl _) (.tmp _ _ rfl) rfl
end
def bK : List aa := [⟨⟨#[79, 98, 106, 101, 99, 116]⟩, -1, []⟩, ⟨⟨#[69, 120, 99, 101, 112, 116, 105, 111, 110]⟩, 0, [⟨#[116, 101, 120, 116]⟩]⟩, ⟨⟨#[69, 114, 114, 111, 114]⟩, 1, [⟨#[116, 101, 120, 116]⟩]⟩, ⟨⟨#[77, 101, 115, 115, 97, 103, 101, 78, 111, 116, 85, 110, 100, 101, 114, 115, 116, 111, 111, 100]⟩, 2, [⟨#[116, 101, 120, 116]⟩]⟩, ⟨⟨#[90, 101, 114, 111, 68, 105, 118, 105, 100, 101]⟩, 2, [⟨#[116, 101, 120, 116]⟩]⟩, ⟨⟨#[73, 110, 116, 101, 103, 101, 114]⟩, 0, []⟩, ⟨⟨#[66, 111, 111, 108, 101, 97, 110]⟩, 0, []⟩, ⟨⟨#[78, 105, 108]⟩, 0, []⟩, ⟨⟨#[83, 116, 114, 105, 110, 103]⟩, 0, []⟩, ⟨⟨#[83, 121, 109, 98, 111, 108]⟩, 0, []⟩, ⟨⟨#[65, 114, 114, 97, 121]⟩, 0, []⟩, ⟨⟨#[66, 108, 111, 99, 107]⟩, 0, []⟩, ⟨⟨#[83, 101, 109, 97, 112, 104, 111, 114, 101]⟩, 0, []⟩, ⟨⟨#[80, 114, 111, 99, 101, 115, 115]⟩, 0, []⟩, ⟨⟨#[84, 114, 97, 110, 115, 99, 114, 105, 112, 116]⟩, 0, []⟩, ⟨⟨#[67, 108, 97, 115, 115]⟩, 0, []⟩]
def cN : List ByteArray := [⟨#[79, 98, 106, 101, 99, 116]⟩, ⟨#[69, 120, 99, 101, 112, 116, 105, 111, 110]⟩, ⟨#[69, 114, 114, 111, 114]⟩, ⟨#[77, 101, 115, 115, 97, 103, 101, 78, 111, 116, 85, 110, 100, 101, 114, 115, 116, 111, 111, 100]⟩, ⟨#[90, 101, 114, 111, 68, 105, 118, 105, 100, 101]⟩, ⟨#[73, 110, 116, 101, 103, 101, 114]⟩, ⟨#[66, 111, 111, 108, 101, 97, 110]⟩, ⟨#[78, 105, 108]⟩, ⟨#[83, 116, 114, 105, 110, 103]⟩, ⟨#[83, 121, 109, 98, 111, 108]⟩, ⟨#[65, 114, 114, 97, 121]⟩, ⟨#[66, 108, 111, 99, 107]⟩, ⟨#[83, 101, 109, 97, 112, 104, 111, 114, 101]⟩, ⟨#[80, 114, 111, 99, 101, 115, 115]⟩, ⟨#[84, 114, 97, 110, 115, 99, 114, 105, 112, 116]⟩, ⟨#[67, 108, 97, 115, 115]⟩]
def gZ (k : Int) : List ByteArray := if k = 1 \/ k = 2 \/ k = 3 \/ k = 4 then [⟨#[116, 101, 120, 116]⟩] else []
def xz : List (List TV) := [[TV.int .i64 (-1)], [TV.int .i64 0], [TV.int .i64 1], [TV.int .i64 2], [TV.int .i64 2], [TV.int .i64 0], [TV.int .i64 0], [TV.int .i64 0], [TV.int .i64 0], [TV.int .i64 0], [TV.int .i64 0], [TV.int .i64 0], [TV.int .i64 0], [TV.int .i64 0], [TV.int .i64 0], [TV.int .i64 0]]
theorem fR : bK.length = 16 := rfl
theorem jx {i : Nat} (h : i < 16) : ∃ x, bK[i]? = some x /\ (bN cN)[i]? = some [.str x.name] /\ xz[i]? = some [.int .i64 x.parent] /\ gZ (i : Int) = x.fields /\ bK.take (i + 1) = bK.take i ++ [x] := by
 match i, h with
 | 0, _ => exact ⟨_, rfl, rfl, rfl, rfl, rfl⟩
 | 1, _ => exact ⟨_, rfl, rfl, rfl, rfl, rfl⟩
 | 2, _ => exact ⟨_, rfl, rfl, rfl, rfl, rfl⟩
 | 3, _ => exact ⟨_, rfl, rfl, rfl, rfl, rfl⟩
 | 4, _ => exact ⟨_, rfl, rfl, rfl, rfl, rfl⟩
 | 5, _ => exact ⟨_, rfl, rfl, rfl, rfl, rfl⟩
 | 6, _ => exact ⟨_, rfl, rfl, rfl, rfl, rfl⟩
 | 7, _ => exact ⟨_, rfl, rfl, rfl, rfl, rfl⟩
 | 8, _ => exact ⟨_, rfl, rfl, rfl, rfl, rfl⟩
 | 9, _ => exact ⟨_, rfl, rfl, rfl, rfl, rfl⟩
 | 10, _ => exact ⟨_, rfl, rfl, rfl, rfl, rfl⟩
 | 11, _ => exact ⟨_, rfl, rfl, rfl, rfl, rfl⟩
 | 12, _ => exact ⟨_, rfl, rfl, rfl, rfl, rfl⟩
 | 13, _ => exact ⟨_, rfl, rfl, rfl, rfl, rfl⟩
 | 14, _ => exact ⟨_, rfl, rfl, rfl, rfl, rfl⟩
 | 15, _ => exact ⟨_, rfl, rfl, rfl, rfl, rfl⟩
 | n + 16, h => omega
section
variable {G : World -> Prop}
theorem oY : Ct Tryz.prog G 252 [] (fun K => .sl K 1 (bN cN)) := by
 refine aq Tryz.func252 rfl Tryz.ntmps252 rfl rfl fun w0 _ hG => ?_
 repeat' (first | refine W_ ?_ | refine dS ?_)
 refine aI (r1 := .tmp 0) (t1 := .sl w0.heap.size 1 (bN cN)) (.inr rfl) rfl (.tmp _ _ rfl) (fun _ => ?_)
 exact cL (f := fun s : ByteArray => [TV.str s]) (f' := fun s : ByteArray => [TV.str s]) (fun x => .cons (.flat rfl) .nil) cN
theorem pC : Ct Tryz.prog G 263 [] (fun K => .sl K 1 (bN cN)) := by
 refine aq Tryz.func263 rfl Tryz.ntmps263 rfl rfl fun w0 _ hG => ?_
 repeat' (first | refine W_ ?_ | refine dS ?_)
 refine aI (r1 := .tmp 0) (t1 := .sl w0.heap.size 1 (bN cN)) (.inr rfl) rfl (.tmp _ _ rfl) (fun _ => ?_)
 exact cL (f := fun s : ByteArray => [TV.str s]) (f' := fun s : ByteArray => [TV.str s]) (fun x => .cons (.flat rfl) .nil) cN
theorem vX (tu : TV) (k : Int) (h : k < 16) : Ct Tryz.prog G 253 [tu, .int .i64 k] (fun K => .sl K 1 (bN (gZ k))) := by
 refine aq Tryz.func253 rfl Tryz.ntmps253 rfl rfl fun w0 _ hG => ?_
 by_cases hk : k = 1 \/ k = 2 \/ k = 3 \/ k = 4
 ·rw [show gZ k = [⟨#[116, 101, 120, 116]⟩] from if_pos hk]
  repeat' (first | refine W_ ?_ | refine dS ?_ | refine g_ (fun hg => ?_) (fun hg => ?_))
  all_goals first
    | (exfalso; omega)
    | (refine aI x_ rfl (.tmp _ _ rfl) (fun _ => ?_)
       exact cL (f := fun s : ByteArray => [TV.str s]) (f' := fun s : ByteArray => [TV.str s]) (fun x => .cons (.flat rfl) .nil) [⟨#[116, 101, 120, 116]⟩])
 ·rw [show gZ k = [] from if_neg hk]
  repeat' (first | refine W_ ?_ | refine dS ?_)
  all_goals first
    | (exfalso; omega)
    | (refine aI x_ rfl (.tmp _ _ rfl) (fun _ => ?_)
       exact cL (f := fun s : ByteArray => [TV.str s]) (f' := fun s : ByteArray => [TV.str s]) (fun x => .cons (.flat rfl) .nil) [])
theorem x4 (hst : az G) (rest : List TV) : Ct Tryz.prog G 199 [.cp 0 (.nils :: rest)] (fun K => .sl K 3 (bK.map (aa.tw K))) := by
 refine aq Tryz.func199 rfl Tryz.ntmps199 rfl rfl fun w0 _ hG => ?_
 repeat' (first | refine H_ 3 ?_ | refine ad hG hst (oY) ?_ | (refine la ?_; intro ss bb))
 refine ⟨?_⟩
 repeat' (first | refine W_ ?_ | refine dS ?_)
 apply ak (X := Nat × Nat) [0, 4, 5] (fun x => [(6, .int .i64 (x.1 : Int)), (3, .ms ss x.2 0 x.1)]) (fun x => [(ss, x.2, .row 3 ((bK.take x.1).map (aa.tw w0.heap.size)))]) (fun x => x.1 <= 16) (fun x => 16 - x.1) (0, bb) (Nat.zero_le _)
 exact kp_; exact nw_
 ·exact .refl _
 rintro ⟨i, b⟩ hi
 dsimp only at hi |-
 by_cases hlt : i < 16
 ·obtain ⟨x, hx, h1, h2, h3, h4⟩ := jx hlt
  unfold xz at h2
  have hle : ((bK.take i).map (aa.tw w0.heap.size)).length = i := by rw [List.length_map, List.length_take, fR]; omega
  repeat' (first | refine W_ ?_ | (with_reducible apply gq (id := 7) 14; kernel_rfl; kernel_rfl; kernel_rfl; (repeat (first | exact Cut.zero _ | apply Cut.succ))) | with_reducible refine fW (by kernel_rfl) (by kernel_rfl) ?_ | with_reducible refine iV ?_ | with_reducible refine f6 ?_ | with_reducible refine fU rfl ?_ | refine i5 rfl rfl rfl rr_ ?_ | refine fT rfl rfl rfl rr_ rfl rfl rfl ?_ | refine ep rfl rfl rfl rr_ rfl rfl ?_ | (refine oy rfl rfl rfl rr_ dd_ ?_) | (refine ox rfl rfl rfl rr_ dd_ ?_) | (refine dq rfl rfl rfl rr_ (fun hg => ?_) (fun hg => ?_)) | (refine cT rfl rfl rfl rr_ (fun hg => ?_) (fun hg => ?_)) | ((with_reducible apply d_y); exact y_; rfl) | ((with_reducible apply acc); rfl; kernel_rfl; (repeat (first | exact bV.nil | ((with_reducible apply bV.cons); rfl; exact .same _))); exact hG; exact hst; exact vX _ _ (by omega)) | refine abr ?_ | refine aeu ?_ | (refine sK ?_; intro bb))
  have hrow : (bK.take i).map (aa.tw w0.heap.size) ++ [[TV.str x.name, .int .i64 x.parent, .sl w0.heap.size 1 (bN (gZ i))]] = (bK.take (i + 1)).map (aa.tw w0.heap.size) := by
    rw [h4, h3, List.map_append]; rfl
  rw [hrow]
  exact ag (i + 1, bb) (by dsimp only; omega) (by dsimp only; omega) (.of _ nw_ od_ pk_)
 ·obtain rfl : i = 16 := by omega
  repeat' refine W_ ?_
  apply ak (X := Unit) [0, 3] (fun _ => [(7, .int .i64 0)]) (fun _ => [(ss, b, .row 3 (bK.map (aa.tw w0.heap.size)))]) (fun _ => True) (fun _ => 0) () trivial
  exact kp_; exact nw_
  ·exact .refl _
  rintro _ -
  repeat' refine W_ ?_
  refine aI x_ rfl (.tmp _ _ rfl) (fun _ => ?_)
  exact acg (fun x => aa.fin _ _ _ x) List.mem_cons_self
end
end Go.Proofs.YtiihihgjiklnoaaGreatDoor
