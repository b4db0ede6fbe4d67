/- Part 7 of the proof: the texts TvA, LwT, FiJ, IvA, NeA, JnA. -/
import Derived.Test.YtofnnnpahglfdaaGreatDoorFo3
import Derived.Test.YtofnnnpahglfdaaGreatDoorFo5
import Derived.Test.YtofnnnpahglfdaaGreatDoorFo2
import Derived.Test.YtofnnnpahglfdaaGreatDoorFo1
import Derived.Lib.Join
set_option linter.all false
set_option maxHeartbeats 2000000
set_option maxRecDepth 20000
namespace Go.Proofs.YtofnnnpahglfdaaGreatDoor
open Go Go.RowKit
mutual
def PT.tvs : PT -> List TV
 | .int k n => [.int k n]
 | .bool b => [.bool b]
 | .str s => [.str s]
 | .agg l => PT.tvsL l
 | .sl _ _ m l => [.sl 0 m (PT.rowsL l)]
def PT.tvsL : List PT -> List TV
 | [] => []
 | t :: r => PT.tvs t ++ PT.tvsL r
def PT.rowsL : List PT -> List (List TV)
 | [] => []
 | t :: r => PT.tvs t :: PT.rowsL r
end
theorem PT.rowsL_map (l : List PT) : PT.rowsL l = l.map PT.tvs := by
 induction l with
 | nil => rfl
 | cons t r ih => simp [PT.rowsL, ih]
theorem PT.rows_flat (l : List PT) : (PT.rowsL l).flatten = PT.tvsL l := by
 induction l with
 | nil => rfl
 | cons t r ih => simp [PT.rowsL, PT.tvsL, ih]
def acq (w : World) (ts : List TV) (vs : List Value) : Prop := ts.length = vs.length /\ (∀ t ∈ ts, t.isCell = true) /\ ∀ (i : Nat) (t : TV) (v : Value), ts[i]? = some t -> vs[i]? = some v -> Rep w [] t v
theorem acq.append {w : World} {a b : List TV} {x y : List Value} (h : acq w a x) (k : acq w b y) : acq w (a ++ b) (x ++ y) := by
 refine ⟨by simp [h.1, k.1], fun t ht => ?_, fun i t v ht hv => ?_⟩
 ·rcases List.mem_append.1 ht with ht | ht
  ·exact h.2.1 t ht
  ·exact k.2.1 t ht
 ·by_cases hi : i < a.length
  ·rw [List.getElem?_append_left hi] at ht
   rw [List.getElem?_append_left (by rw [<- h.1]; exact hi)] at hv
   exact h.2.2 i t v ht hv
  ·rw [List.getElem?_append_right (by omega)] at ht
   rw [List.getElem?_append_right (by rw [<- h.1]; omega)] at hv
   rw [<- h.1] at hv
   exact k.2.2 _ t v ht hv
theorem acq.one {w : World} {t : TV} {v : Value} (h : Rep w [] t v) (hc : t.isCell = true) : acq w [t] [v] := ⟨rfl, by simpa using hc, fun i u x hu hx => by
 cases i with
 | zero => simp at hu hx; subst hu; subst hx; exact h
 | succ i => simp at hu⟩
mutual
theorem ab7 (w : World) (S : Nat -> Prop) : ∀ t : PT, dM w S t -> acq w t.tvs t.cells
 | .int k n, _ => .one (.int k n) rfl
 | .bool b, _ => .one (.bool b) rfl
 | .str s, _ => .one (.str s) rfl
 | .agg l, h => by
   simp only [PT.tvs, PT.cells]
   simp only [dM] at h
   exact zS w S l h
 | .sl A c m l, h => by
   simp only [PT.tvs, PT.cells]
   simp only [dM] at h
   obtain ⟨h1, h2, h3, h4, h5⟩ := h
   have h6 := zS w S l h5
   have hlen : (PT.rowsL l).length = l.length := by rw [PT.rowsL_map]; simp
   refine .one ?_ rfl
   have key : ∀ j, ∃ u, ∀ t, (PT.tvsL l)[j]? = some t -> ∃ b o, A = some ⟨b, o, none⟩ /\ w.cell? ⟨b, o + j, none⟩ = some u /\ Rep w [] t u := fun j => by
     cases hj : (PT.cellsL l)[j]? with
     | none =>
       refine ⟨undef, fun t ht => ?_⟩
       have : j < (PT.tvsL l).length := (List.getElem?_eq_some_iff.1 ht).1
       rw [h6.1] at this
       rw [List.getElem?_eq_getElem this] at hj; cases hj
     | some u =>
       refine ⟨u, fun t ht => ?_⟩
       obtain ⟨b, o, e1, _, e2⟩ := h3 j u hj
       exact ⟨b, o, e1, e2, h6.2.2 j t u ht hj⟩
   have hr := Rep.sl (w := w) (objs := []) 0 m (PT.rowsL l) A c (by omega) h2 (fun r hr => by
       rw [PT.rowsL_map] at hr
       obtain ⟨t, ht, rfl⟩ := List.mem_map.1 hr
       rw [<- h4 t ht]
       exact (tf w S l h5 t ht).1) (fun t ht => by rw [PT.rows_flat] at ht; exact h6.2.1 t ht) (fun j => Classical.choose (key j))
     (fun j t hj => by
       rw [PT.rows_flat] at hj
       obtain ⟨b, o, e1, e2, _⟩ := Classical.choose_spec (key j) t hj
       exact ⟨b, o, e1, w7 b, e2⟩)
     (fun j t hj => by
       rw [PT.rows_flat] at hj
       obtain ⟨b, o, _, _, e3⟩ := Classical.choose_spec (key j) t hj
       exact e3)
   rw [hlen] at hr
   exact hr
theorem zS (w : World) (S : Nat -> Prop) : ∀ l : List PT, ch w S l -> acq w (PT.tvsL l) (PT.cellsL l)
 | [], _ => ⟨rfl, by simp [PT.tvsL], by simp [PT.tvsL]⟩
 | t :: r, h => by
   simp only [PT.tvsL, PT.cellsL]
   simp only [ch] at h
   exact (ab7 w S t h.1).append (zS w S r h.2)
theorem tf (w : World) (S : Nat -> Prop) : ∀ l : List PT, ch w S l -> ∀ t ∈ l, acq w t.tvs t.cells
 | [], _, t, ht => by simp at ht
 | x :: r, h, t, ht => by
   simp only [ch] at h
   rcases List.mem_cons.1 ht with e | ht
   ·rw [e]; exact ab7 w S x h.1
   ·exact tf w S r h.2 t ht
end
theorem aV {α : Type} {p : α -> Prop} {l : List α} {i : Nat} (h : i < l.length) (ha : ∀ y ∈ l.take i, p y) (hx : p l[i]) : ∀ y ∈ l.take (i + 1), p y := fun y hy => by
 rw [List.take_add_one, List.getElem?_eq_getElem h] at hy
 rcases List.mem_append.1 hy with hy | hy
 ·exact ha y hy
 ·simp at hy; subst hy; exact hx
def fZ {α : Type} (tw : α -> List TV) (z : List TV) (l : List α) (i : Nat) : List (List TV) := (l.take i).map tw ++ List.replicate (l.length - i) z
theorem em {α : Type} (tw : α -> List TV) (z : List TV) (l : List α) : List.replicate l.length z = fZ tw z l 0 := by simp [fZ]
theorem er {α : Type} (tw : α -> List TV) (z : List TV) (l : List α) : fZ tw z l l.length = l.map tw := by simp [fZ]
theorem fk {α : Type} (tw : α -> List TV) (z : List TV) {l : List α} {i : Nat} (h : i < l.length) : (fZ tw z l i)[i]? = some z /\ (fZ tw z l i).set i (tw l[i]) = fZ tw z l (i + 1) := by
 have e : l.length - i = (l.length - (i + 1)) + 1 := by omega
 have hl : ((l.take i).map tw).length = i := by simp; omega
 unfold fZ
 refine ⟨?_, ?_⟩
 ·rw [List.getElem?_append_right (by omega), hl, Nat.sub_self, e, List.replicate_succ]; rfl
 ·rw [List.set_append_right _ _ (by omega), hl, Nat.sub_self, e, List.replicate_succ, List.set_cons_zero, show l.take (i + 1) = l.take i ++ [l[i]] from by rw [List.take_add_one, List.getElem?_eq_getElem h]; rfl, List.map_append, List.append_assoc]
  rfl
def iM (B : Nat) (objs : aH) (K : Nat) (l l' : List TV) : Prop := l'.length = l.length /\ ∀ (j : Nat) (t t' : TV), l[j]? = some t -> l'[j]? = some t' -> Fin B objs K t t'
theorem iM.nil {B : Nat} {objs : aH} {K : Nat} : iM B objs K [] [] := ⟨rfl, by simp⟩
theorem iM.cons {B : Nat} {objs : aH} {K : Nat} {t t' : TV} {l l' : List TV} (h : Fin B objs K t t') (hr : iM B objs K l l') : iM B objs K (t :: l) (t' :: l') := ⟨by simp [hr.1], fun j u u' h1 h2 => by
 cases j with
 | zero => simp at h1 h2; subst h1; subst h2; exact h
 | succ j => exact hr.2 j u u' (by simpa using h1) (by simpa using h2)⟩
theorem iM.append {B : Nat} {objs : aH} {K : Nat} {a a' b b' : List TV} (h : iM B objs K a a') (k : iM B objs K b b') : iM B objs K (a ++ b) (a' ++ b') := ⟨by simp [h.1, k.1], fun j u u' h1 h2 => by
 by_cases hj : j < a.length
 ·rw [List.getElem?_append_left hj] at h1
  rw [List.getElem?_append_left (by rw [h.1]; exact hj)] at h2
  exact h.2 j u u' h1 h2
 ·rw [List.getElem?_append_right (by omega)] at h1
  rw [List.getElem?_append_right (by rw [h.1]; omega)] at h2
  rw [h.1] at h2
  exact k.2 _ u u' h1 h2⟩
theorem iM.rows {α : Type} {B : Nat} {objs : aH} {K : Nat} {f f' : α -> List TV} (h : ∀ x, iM B objs K (f x) (f' x)) : ∀ l : List α, iM B objs K (l.map f).flatten (l.map f').flatten
 | [] => .nil
 | x :: r => by simpa using (h x).append (iM.rows h r)
theorem iM.lens {α : Type} {f f' : α -> List TV} (h : ∀ x, (f' x).length = (f x).length) (l : List α) : (l.map f').map List.length = (l.map f).map List.length := by
 induction l with
 | nil => rfl
 | cons x r ih => simpa [h x] using ih
theorem cj {α : Type} {B : Nat} {objs : aH} {K m : Nat} {f f' : α -> List TV} (h : ∀ x, iM B objs K (f x) (f' x)) (l : List α) : Fin B objs K (.sl B m (l.map f)) (.sl K m (l.map f')) :=
 .sl B m _ _ (Nat.le_refl _) (iM.lens (fun x => (h x).1) l) (iM.rows h l).2
theorem xu {α : Type} {B : Nat} {objs : aH} {K s b m : Nat} {f f' : α -> List TV} (h : ∀ x, iM B objs K (f x) (f' x)) {l : List α} (hm : (s, b, bj.row m (l.map f)) ∈ objs) : Fin B objs K (.ms s b 0 l.length) (.sl K m (l.map f')) :=
 .ms s b 0 l.length m _ (l.map f) _ hm (by simp) (by rw [List.drop_zero, List.take_of_length_le (by simp)]) (iM.lens (fun x => (h x).1) l) (iM.rows h l).2
theorem gR {B : Nat} {objs : aH} {K : Nat} {l l' : List TV} (h : iM B objs K l l') : Fin B objs K (.agg l) (.agg l') := .agg l l' h.1 h.2
theorem dH {l : List ByteArray} {i : Nat} (h : i < l.length) : (a8 l)[i]? = some [.str l[i]] := aM h
theorem aZ (l : List ByteArray) : (a8 l).length = l.length := by simp [a8]
section
variable {G : World -> Prop}
theorem lN (lo : Nat) (l : List ByteArray) (left : Int) (h : 0 <= left /\ left <= 1048576) (hb : l.length <= 9223372036854775807 /\ ∀ y ∈ l, ByteArray.size y <= 9223372036854775807) : CtM Tryz.prog G 93 [.sl lo 1 (a8 l), .int .i64 left] [] (fun y : Int => -1 <= y /\ y <= left /\ (0 <= y -> l.length <= 1048576 /\ ∀ y ∈ l, ByteArray.size y <= 1048576)) (fun _ => []) (fun y => .int .i64 y) := by
 refine aC Tryz.func93 rfl Tryz.ntmps93 rfl rfl rfl fun w0 R gs objsR hG hR => ?_
 obtain rfl := hR.inv0
 clear hR
 have hlen := aZ l
 have hl1 := hb.1
 by_cases hn : left - l.length < 0
 ·repeat' refine W_ ?_
  exact av x_ rfl (-1) ⟨by omega, by omega, fun h => by omega⟩ rfl (.nil R) (.refl _) (.tmp _ _ rfl) rfl
 ·repeat' refine W_ ?_
  apply ak (X := Nat × Int) [0, 1000000] (fun x => [(5, .int .i64 (x.1 : Int)), (1, .int .i64 x.2)]) (fun _ => R) (fun x => x.1 <= l.length /\ 0 <= x.2 /\ x.2 <= left /\ ∀ y ∈ l.take x.1, ByteArray.size y <= 1048576) (fun x => l.length - x.1) (0, left - l.length) ⟨Nat.zero_le _, by dsimp only; omega, by dsimp only; omega, by simp⟩
  exact kp_; exact nw_
  ·exact .refl _
  rintro ⟨i, lf⟩ ⟨hi, h0, h1, hs⟩
  dsimp only at hi h0 h1 hs |-
  by_cases hlt : i < l.length
  ·have hrow := dH hlt
   have hbi := hb.2 _ (List.getElem_mem hlt)
   have hta := aV (p := fun y => ByteArray.size y <= 1048576) hlt hs
   generalize l[i] = x at hrow hbi hta
   repeat' (first | refine W_ ?_ | refine c_ (fun hc => ?_) (fun hc => ?_))
   all_goals first
     | exact av x_ rfl (-1) ⟨by omega, by omega, fun h => by omega⟩ rfl (.nil R) (.refl _) (.tmp _ _ rfl) rfl
     | exact ag (i + 1, lf - x.size) ⟨by dsimp only; omega, by dsimp only; omega, by dsimp only; omega, hta (by omega)⟩ (by dsimp only; omega) (.of _ nw_ od_ pk_)
  ·rw [List.take_of_length_le (by omega)] at hs
   repeat' refine W_ ?_
   exact av x_ rfl lf ⟨by omega, by omega, fun _ => ⟨by omega, hs⟩⟩ rfl (.nil R) (.refl _) (.tmp _ _ rfl) rfl
theorem kD (l1 l2 : Nat) (l : List ByteArray) (hn : l.length <= 1099600000000) : Ct Tryz.prog G 18 [.sl l1 1 (a8 l), .sl l2 1 (a8 l)] (fun _ => .bool true) := by
 refine am Tryz.func18 rfl Tryz.ntmps18 rfl rfl fun w0 _ hG => ?_
 have hlen := aZ l
 repeat' refine W_ ?_
 apply ak (X := Nat) [0, 1] (fun i => [(5, .int .i64 (i : Int))]) (fun _ => []) (fun i => i <= l.length) (fun i => l.length - i) 0 (Nat.zero_le _)
 exact kp_; exact nw_
 ·exact .refl _
 intro i hi
 try dsimp only
 by_cases hlt : i < l.length
 ·have hrow := dH hlt
  generalize l[i] = x at hrow
  have hx : ¬ x ≠ x := fun h => h rfl
  repeat' refine V_ ?_
  exact ag (i + 1) (by omega) (by omega) (.of _ nw_ od_ pk_)
 ·repeat' refine W_ ?_
  exact r1_
theorem im (l1 l2 : Nat) (l : List ByteArray) (hn : l.length <= 1048576) : Ct Tryz.prog G 18 [.sl l1 1 (a8 l), .sl l2 1 (a8 l)] (fun _ => .bool true) := kD l1 l2 l (by omega)
end
def ah.tw (lo : Nat) (x : ah) : List TV := [.int .i64 x.op, .int .i64 x.a, .int .i64 x.b, .str x.text]
def ah.small (n : Nat) (x : ah) : Prop := (x.text.size <= n)
def ah.tz : List TV := [.int .i64 0, .int .i64 0, .int .i64 0, .str ⟨#[]⟩]
theorem ah.fin (B K : Nat) (objs : aH) (x : ah) : iM B objs K (x.tw B) (x.tw K) := .cons (.flat rfl) (.cons (.flat rfl) (.cons (.flat rfl) (.cons (.flat rfl) (.nil))))
theorem ah.len (lo : Nat) (l : List ah) : (l.map (ah.tw lo)).length = l.length := by simp
section
variable {G : World -> Prop}
theorem yu (hst : aB G) (lo : Nat) (x : ah) (left : Int) (h : 0 <= left /\ left <= 1048576) (hb : x.small 9223372036854775807) : CtM Tryz.prog G 288 [.agg (x.tw lo), .int .i64 left] [] (fun y : Int => -1 <= y /\ y <= left /\ (0 <= y -> x.small 1048576)) (fun _ => []) (fun y => .int .i64 y) := by
 refine aC Tryz.func288 rfl Tryz.ntmps288 rfl rfl rfl fun w0 R gs objsR hG hR => ?_
 obtain rfl := hR.inv0
 clear hR
 unfold ah.small at hb
 have hb1 : x.text.size <= 9223372036854775807 := hb
 unfold ah.tw
 repeat' (first | refine W_ ?_ | refine aD ?_ | refine c_ (fun hc => ?_) (fun hc => ?_))
 all_goals first
   | exact av x_ rfl (-1) ⟨by omega, by omega, fun h => by omega⟩ rfl (.nil R) (.refl _) (.tmp _ _ rfl) rfl
   | (refine av x_ rfl _ ⟨?_, ?_, fun _ => ?_⟩ rfl (.nil R) (.refl _) (.tmp _ _ rfl) rfl
      ·omega
      ·omega
      ·show _ <= _; omega)
theorem vJ (hst : aB G) (lo : Nat) (l : List ah) (left : Int) (h : 0 <= left /\ left <= 1048576) (hb : l.length <= 9223372036854775807 /\ ∀ y ∈ l, ah.small 9223372036854775807 y) : CtM Tryz.prog G 239 [.sl lo 4 (l.map (ah.tw lo)), .int .i64 left] [] (fun y : Int => -1 <= y /\ y <= left /\ (0 <= y -> l.length <= 1048576 /\ ∀ y ∈ l, ah.small 1048576 y)) (fun _ => []) (fun y => .int .i64 y) := by
 refine aC Tryz.func239 rfl Tryz.ntmps239 rfl rfl rfl fun w0 R gs objsR hG hR => ?_
 obtain rfl := hR.inv0
 clear hR
 have hlen := ah.len lo l
 have hl1 := hb.1
 by_cases hn : left - l.length < 0
 ·repeat' refine W_ ?_
  exact av x_ rfl (-1) ⟨by omega, by omega, fun h => by omega⟩ rfl (.nil R) (.refl _) (.tmp _ _ rfl) rfl
 ·repeat' refine W_ ?_
  apply ak (X := Nat × Int) [0, 1000000] (fun x => [(5, .int .i64 (x.1 : Int)), (1, .int .i64 x.2)]) (fun _ => R) (fun x => x.1 <= l.length /\ 0 <= x.2 /\ x.2 <= left /\ ∀ y ∈ l.take x.1, ah.small 1048576 y) (fun x => l.length - x.1) (0, left - l.length) ⟨Nat.zero_le _, by dsimp only; omega, by dsimp only; omega, by simp⟩
  exact kp_; exact nw_
  ·exact .refl _
  rintro ⟨i, lf⟩ ⟨hi, h0, h1, hs⟩
  dsimp only at hi h0 h1 hs |-
  by_cases hlt : i < l.length
  ·have hrow : (l.map (ah.tw lo))[i]? = some (l[i].tw lo) := aM hlt
   have hbi := hb.2 _ (List.getElem_mem hlt)
   have hta := aV (p := ah.small 1048576) hlt hs
   generalize l[i] = x at hrow hbi hta
   have hct := yu hst lo x lf (by omega) hbi
   unfold ah.tw at hct
   rw [show x.tw lo = [.int .i64 x.op, .int .i64 x.a, .int .i64 x.b, .str x.text] from rfl] at hrow
   repeat' (first | refine W_ ?_ | ((with_reducible apply aG); rfl; kernel_rfl; (repeat (first | exact aF.nil | ((with_reducible apply aF.cons); rfl))); exact hG; exact hct; exact .nil _; intro y hy; refine bD ?_) | refine c_ (fun hc => ?_) (fun hc => ?_))
   all_goals first
     | exact av x_ rfl (-1) ⟨by omega, by omega, fun h => by omega⟩ rfl (.nil R) (.refl _) (.tmp _ _ rfl) rfl
     | exact ag (i + 1, y) ⟨by dsimp only; omega, by dsimp only; omega, by dsimp only; omega, hta (hy.2.2 (by omega))⟩ (by dsimp only; omega) (.of _ nw_ od_ pk_)
  ·rw [List.take_of_length_le (by omega)] at hs
   repeat' refine W_ ?_
   exact av x_ rfl lf ⟨by omega, by omega, fun _ => ⟨by omega, hs⟩⟩ rfl (.nil R) (.refl _) (.tmp _ _ rfl) rfl
theorem zj (hst : aB G) (lo : Nat) (x : ah) (hb : x.small 1048576) : Ct Tryz.prog G 297 [.agg (x.tw lo)] (fun K => .agg (x.tw K)) := by
 refine am Tryz.func297 rfl Tryz.ntmps297 rfl rfl fun w0 _ hG => ?_
 unfold ah.small at hb
 skip
 repeat' (first | refine W_ ?_ | refine aD ?_ | (refine aj ?_; intro ss bb) | refine ac ?_)
 refine aE x_ rfl (.cell _ _ _ _ _ rfl mm_ (by kernel_rfl) (by kernel_rfl) (by kernel_rfl)) (fun _ => ?_)
 exact gR (ah.fin _ _ _ x)
theorem zl (hst : aB G) (l1 l2 : Nat) (x : ah) (hb : x.small 1048576) : Ct Tryz.prog G 309 [.agg (x.tw l1), .agg (x.tw l2)] (fun _ => .bool true) := by
 refine am Tryz.func309 rfl Tryz.ntmps309 rfl rfl fun w0 _ hG => ?_
 unfold ah.small at hb
 have hnetext : ¬ x.text ≠ x.text := fun h => h rfl
 unfold ah.tw
 repeat' (first | refine W_ ?_ | refine aD ?_)
 all_goals first
   | (exfalso; simp at hc; done)
   | (exact r1_)
theorem vV (hst : aB G) (l1 l2 : Nat) (l : List ah) (hb : l.length <= 1048576 /\ ∀ y ∈ l, ah.small 1048576 y) : Ct Tryz.prog G 272 [.sl l1 4 (l.map (ah.tw l1)), .sl l2 4 (l.map (ah.tw l2))] (fun _ => .bool true) := by
 refine am Tryz.func272 rfl Tryz.ntmps272 rfl rfl fun w0 _ hG => ?_
 have hlen := ah.len l1 l
 have hlen2 := ah.len l2 l
 have hl1 := hb.1
 repeat' refine W_ ?_
 apply ak (X := Nat) [0, 1] (fun i => [(5, .int .i64 (i : Int))]) (fun _ => []) (fun i => i <= l.length) (fun i => l.length - i) 0 (Nat.zero_le _)
 exact kp_; exact nw_
 ·exact .refl _
 intro i hi
 try dsimp only
 by_cases hlt : i < l.length
 ·have hr1 : (l.map (ah.tw l1))[i]? = some (l[i].tw l1) := aM hlt
  have hr2 : (l.map (ah.tw l2))[i]? = some (l[i].tw l2) := aM hlt
  have hbi := hb.2 _ (List.getElem_mem hlt)
  generalize l[i] = x at hr1 hr2 hbi
  have hct := zl hst l1 l2 x hbi
  unfold ah.tw at hct
  rw [show x.tw l1 = [.int .i64 x.op, .int .i64 x.a, .int .i64 x.b, .str x.text] from rfl] at hr1
  rw [show x.tw l2 = [.int .i64 x.op, .int .i64 x.a, .int .i64 x.b, .str x.text] from rfl] at hr2
  repeat' (first | refine V_ ?_ | refine ae hG hst (hct) ?_)
  exact ag (i + 1) (by omega) (by omega) (.of _ nw_ od_ pk_)
 ·repeat' refine W_ ?_
  exact r1_
end
def aA.tw (lo : Nat) (x : aA) : List TV := [.bool x.block, .int .i64 x.params, .int .i64 x.slots, .sl lo 4 (x.instrs.map (ah.tw lo))]
def aA.small (n : Nat) (x : aA) : Prop := (x.instrs.length <= n /\ ∀ y ∈ x.instrs, ah.small n y)
def aA.tz : List TV := [.bool false, .int .i64 0, .int .i64 0, .nils]
theorem aA.fin (B K : Nat) (objs : aH) (x : aA) : iM B objs K (x.tw B) (x.tw K) := .cons (.flat rfl) (.cons (.flat rfl) (.cons (.flat rfl) (.cons (cj (fun x => ah.fin B K objs x) _) (.nil))))
theorem aA.len (lo : Nat) (l : List aA) : (l.map (aA.tw lo)).length = l.length := by simp
section
variable {G : World -> Prop}
theorem aaj (hst : aB G) (lo : Nat) (x : aA) (left : Int) (h : 0 <= left /\ left <= 1048576) (hb : x.small 9223372036854775807) : CtM Tryz.prog G 173 [.agg (x.tw lo), .int .i64 left] [] (fun y : Int => -1 <= y /\ y <= left /\ (0 <= y -> x.small 1048576)) (fun _ => []) (fun y => .int .i64 y) := by
 refine aC Tryz.func173 rfl Tryz.ntmps173 rfl rfl rfl fun w0 R gs objsR hG hR => ?_
 obtain rfl := hR.inv0
 clear hR
 unfold aA.small at hb
 skip
 unfold aA.tw
 repeat' (first | refine W_ ?_ | refine aD ?_ | ((with_reducible apply aG); rfl; kernel_rfl; (repeat (first | exact aF.nil | ((with_reducible apply aF.cons); rfl))); exact hG; exact vJ hst lo x.instrs _ (by omega) hb; exact .nil _; intro y1 hy1; refine bD ?_) | refine c_ (fun hc => ?_) (fun hc => ?_))
 all_goals first
   | exact av x_ rfl (-1) ⟨by omega, by omega, fun h => by omega⟩ rfl (.nil R) (.refl _) (.tmp _ _ rfl) rfl
   | (refine av x_ rfl _ ⟨?_, ?_, fun _ => ?_⟩ rfl (.nil R) (.refl _) (.tmp _ _ rfl) rfl
      ·omega
      ·omega
      ·exact hy1.2.2 (by omega))
theorem x9 (hst : aB G) (lo : Nat) (l : List aA) (left : Int) (h : 0 <= left /\ left <= 1048576) (hb : l.length <= 9223372036854775807 /\ ∀ y ∈ l, aA.small 9223372036854775807 y) : CtM Tryz.prog G 90 [.sl lo 4 (l.map (aA.tw lo)), .int .i64 left] [] (fun y : Int => -1 <= y /\ y <= left /\ (0 <= y -> l.length <= 1048576 /\ ∀ y ∈ l, aA.small 1048576 y)) (fun _ => []) (fun y => .int .i64 y) := by
 refine aC Tryz.func90 rfl Tryz.ntmps90 rfl rfl rfl fun w0 R gs objsR hG hR => ?_
 obtain rfl := hR.inv0
 clear hR
 have hlen := aA.len lo l
 have hl1 := hb.1
 by_cases hn : left - l.length < 0
 ·repeat' refine W_ ?_
  exact av x_ rfl (-1) ⟨by omega, by omega, fun h => by omega⟩ rfl (.nil R) (.refl _) (.tmp _ _ rfl) rfl
 ·repeat' refine W_ ?_
  apply ak (X := Nat × Int) [0, 1000000] (fun x => [(5, .int .i64 (x.1 : Int)), (1, .int .i64 x.2)]) (fun _ => R) (fun x => x.1 <= l.length /\ 0 <= x.2 /\ x.2 <= left /\ ∀ y ∈ l.take x.1, aA.small 1048576 y) (fun x => l.length - x.1) (0, left - l.length) ⟨Nat.zero_le _, by dsimp only; omega, by dsimp only; omega, by simp⟩
  exact kp_; exact nw_
  ·exact .refl _
  rintro ⟨i, lf⟩ ⟨hi, h0, h1, hs⟩
  dsimp only at hi h0 h1 hs |-
  by_cases hlt : i < l.length
  ·have hrow : (l.map (aA.tw lo))[i]? = some (l[i].tw lo) := aM hlt
   have hbi := hb.2 _ (List.getElem_mem hlt)
   have hta := aV (p := aA.small 1048576) hlt hs
   generalize l[i] = x at hrow hbi hta
   have hct := aaj hst lo x lf (by omega) hbi
   unfold aA.tw at hct
   rw [show x.tw lo = [.bool x.block, .int .i64 x.params, .int .i64 x.slots, .sl lo 4 (x.instrs.map (ah.tw lo))] from rfl] at hrow
   repeat' (first | refine W_ ?_ | ((with_reducible apply aG); rfl; kernel_rfl; (repeat (first | exact aF.nil | ((with_reducible apply aF.cons); rfl))); exact hG; exact hct; exact .nil _; intro y hy; refine bD ?_) | refine c_ (fun hc => ?_) (fun hc => ?_))
   all_goals first
     | exact av x_ rfl (-1) ⟨by omega, by omega, fun h => by omega⟩ rfl (.nil R) (.refl _) (.tmp _ _ rfl) rfl
     | exact ag (i + 1, y) ⟨by dsimp only; omega, by dsimp only; omega, by dsimp only; omega, hta (hy.2.2 (by omega))⟩ (by dsimp only; omega) (.of _ nw_ od_ pk_)
  ·rw [List.take_of_length_le (by omega)] at hs
   repeat' refine W_ ?_
   exact av x_ rfl lf ⟨by omega, by omega, fun _ => ⟨by omega, hs⟩⟩ rfl (.nil R) (.refl _) (.tmp _ _ rfl) rfl
theorem abi (hst : aB G) (l1 l2 : Nat) (x : aA) (hb : x.small 1048576) : Ct Tryz.prog G 207 [.agg (x.tw l1), .agg (x.tw l2)] (fun _ => .bool true) := by
 refine am Tryz.func207 rfl Tryz.ntmps207 rfl rfl fun w0 _ hG => ?_
 unfold aA.small at hb
 have hsinstrs := hb
 unfold aA.tw
 repeat' (first | refine W_ ?_ | refine aD ?_ | refine ab hG hst (vV hst l1 l2 x.instrs hsinstrs) ?_ | refine c_ (fun hc => ?_) (fun hc => ?_))
 all_goals first
   | (exfalso; simp at hc; done)
   | (exact r1_)
theorem yx (hst : aB G) (l1 l2 : Nat) (l : List aA) (hb : l.length <= 1048576 /\ ∀ y ∈ l, aA.small 1048576 y) : Ct Tryz.prog G 125 [.sl l1 4 (l.map (aA.tw l1)), .sl l2 4 (l.map (aA.tw l2))] (fun _ => .bool true) := by
 refine am Tryz.func125 rfl Tryz.ntmps125 rfl rfl fun w0 _ hG => ?_
 have hlen := aA.len l1 l
 have hlen2 := aA.len l2 l
 have hl1 := hb.1
 repeat' refine W_ ?_
 apply ak (X := Nat) [0, 1] (fun i => [(5, .int .i64 (i : Int))]) (fun _ => []) (fun i => i <= l.length) (fun i => l.length - i) 0 (Nat.zero_le _)
 exact kp_; exact nw_
 ·exact .refl _
 intro i hi
 try dsimp only
 by_cases hlt : i < l.length
 ·have hr1 : (l.map (aA.tw l1))[i]? = some (l[i].tw l1) := aM hlt
  have hr2 : (l.map (aA.tw l2))[i]? = some (l[i].tw l2) := aM hlt
  have hbi := hb.2 _ (List.getElem_mem hlt)
  generalize l[i] = x at hr1 hr2 hbi
  have hct := abi hst l1 l2 x hbi
  unfold aA.tw at hct
  rw [show x.tw l1 = [.bool x.block, .int .i64 x.params, .int .i64 x.slots, .sl l1 4 (x.instrs.map (ah.tw l1))] from rfl] at hr1
  rw [show x.tw l2 = [.bool x.block, .int .i64 x.params, .int .i64 x.slots, .sl l2 4 (x.instrs.map (ah.tw l2))] from rfl] at hr2
  repeat' (first | refine V_ ?_ | refine ae hG hst (hct) ?_)
  exact ag (i + 1) (by omega) (by omega) (.of _ nw_ od_ pk_)
 ·repeat' refine W_ ?_
  exact r1_
end
def az.tw (lo : Nat) (x : az) : List TV := [.int .i64 x.owner, .bool x.class_, .str x.selector, .int .i64 x.code]
def az.small (n : Nat) (x : az) : Prop := (x.selector.size <= n)
def az.tz : List TV := [.int .i64 0, .bool false, .str ⟨#[]⟩, .int .i64 0]
theorem az.fin (B K : Nat) (objs : aH) (x : az) : iM B objs K (x.tw B) (x.tw K) := .cons (.flat rfl) (.cons (.flat rfl) (.cons (.flat rfl) (.cons (.flat rfl) (.nil))))
theorem az.len (lo : Nat) (l : List az) : (l.map (az.tw lo)).length = l.length := by simp
section
variable {G : World -> Prop}
theorem yU (hst : aB G) (lo : Nat) (x : az) (left : Int) (h : 0 <= left /\ left <= 1048576) (hb : x.small 9223372036854775807) : CtM Tryz.prog G 174 [.agg (x.tw lo), .int .i64 left] [] (fun y : Int => -1 <= y /\ y <= left /\ (0 <= y -> x.small 1048576)) (fun _ => []) (fun y => .int .i64 y) := by
 refine aC Tryz.func174 rfl Tryz.ntmps174 rfl rfl rfl fun w0 R gs objsR hG hR => ?_
 obtain rfl := hR.inv0
 clear hR
 unfold az.small at hb
 have hb1 : x.selector.size <= 9223372036854775807 := hb
 unfold az.tw
 repeat' (first | refine W_ ?_ | refine aD ?_ | refine c_ (fun hc => ?_) (fun hc => ?_))
 all_goals first
   | exact av x_ rfl (-1) ⟨by omega, by omega, fun h => by omega⟩ rfl (.nil R) (.refl _) (.tmp _ _ rfl) rfl
   | (refine av x_ rfl _ ⟨?_, ?_, fun _ => ?_⟩ rfl (.nil R) (.refl _) (.tmp _ _ rfl) rfl
      ·omega
      ·omega
      ·show _ <= _; omega)
theorem vd (hst : aB G) (lo : Nat) (l : List az) (left : Int) (h : 0 <= left /\ left <= 1048576) (hb : l.length <= 9223372036854775807 /\ ∀ y ∈ l, az.small 9223372036854775807 y) : CtM Tryz.prog G 91 [.sl lo 4 (l.map (az.tw lo)), .int .i64 left] [] (fun y : Int => -1 <= y /\ y <= left /\ (0 <= y -> l.length <= 1048576 /\ ∀ y ∈ l, az.small 1048576 y)) (fun _ => []) (fun y => .int .i64 y) := by
 refine aC Tryz.func91 rfl Tryz.ntmps91 rfl rfl rfl fun w0 R gs objsR hG hR => ?_
 obtain rfl := hR.inv0
 clear hR
 have hlen := az.len lo l
 have hl1 := hb.1
 by_cases hn : left - l.length < 0
 ·repeat' refine W_ ?_
  exact av x_ rfl (-1) ⟨by omega, by omega, fun h => by omega⟩ rfl (.nil R) (.refl _) (.tmp _ _ rfl) rfl
 ·repeat' refine W_ ?_
  apply ak (X := Nat × Int) [0, 1000000] (fun x => [(5, .int .i64 (x.1 : Int)), (1, .int .i64 x.2)]) (fun _ => R) (fun x => x.1 <= l.length /\ 0 <= x.2 /\ x.2 <= left /\ ∀ y ∈ l.take x.1, az.small 1048576 y) (fun x => l.length - x.1) (0, left - l.length) ⟨Nat.zero_le _, by dsimp only; omega, by dsimp only; omega, by simp⟩
  exact kp_; exact nw_
  ·exact .refl _
  rintro ⟨i, lf⟩ ⟨hi, h0, h1, hs⟩
  dsimp only at hi h0 h1 hs |-
  by_cases hlt : i < l.length
  ·have hrow : (l.map (az.tw lo))[i]? = some (l[i].tw lo) := aM hlt
   have hbi := hb.2 _ (List.getElem_mem hlt)
   have hta := aV (p := az.small 1048576) hlt hs
   generalize l[i] = x at hrow hbi hta
   have hct := yU hst lo x lf (by omega) hbi
   unfold az.tw at hct
   rw [show x.tw lo = [.int .i64 x.owner, .bool x.class_, .str x.selector, .int .i64 x.code] from rfl] at hrow
   repeat' (first | refine W_ ?_ | ((with_reducible apply aG); rfl; kernel_rfl; (repeat (first | exact aF.nil | ((with_reducible apply aF.cons); rfl))); exact hG; exact hct; exact .nil _; intro y hy; refine bD ?_) | refine c_ (fun hc => ?_) (fun hc => ?_))
   all_goals first
     | exact av x_ rfl (-1) ⟨by omega, by omega, fun h => by omega⟩ rfl (.nil R) (.refl _) (.tmp _ _ rfl) rfl
     | exact ag (i + 1, y) ⟨by dsimp only; omega, by dsimp only; omega, by dsimp only; omega, hta (hy.2.2 (by omega))⟩ (by dsimp only; omega) (.of _ nw_ od_ pk_)
  ·rw [List.take_of_length_le (by omega)] at hs
   repeat' refine W_ ?_
   exact av x_ rfl lf ⟨by omega, by omega, fun _ => ⟨by omega, hs⟩⟩ rfl (.nil R) (.refl _) (.tmp _ _ rfl) rfl
theorem yT (hst : aB G) (lo : Nat) (x : az) (hb : x.small 1048576) : Ct Tryz.prog G 190 [.agg (x.tw lo)] (fun K => .agg (x.tw K)) := by
 refine am Tryz.func190 rfl Tryz.ntmps190 rfl rfl fun w0 _ hG => ?_
 unfold az.small at hb
 skip
 repeat' (first | refine W_ ?_ | refine aD ?_ | (refine aj ?_; intro ss bb) | refine ac ?_)
 refine aE x_ rfl (.cell _ _ _ _ _ rfl mm_ (by kernel_rfl) (by kernel_rfl) (by kernel_rfl)) (fun _ => ?_)
 exact gR (az.fin _ _ _ x)
theorem zk (hst : aB G) (l1 l2 : Nat) (x : az) (hb : x.small 1048576) : Ct Tryz.prog G 208 [.agg (x.tw l1), .agg (x.tw l2)] (fun _ => .bool true) := by
 refine am Tryz.func208 rfl Tryz.ntmps208 rfl rfl fun w0 _ hG => ?_
 unfold az.small at hb
 have hneselector : ¬ x.selector ≠ x.selector := fun h => h rfl
 unfold az.tw
 repeat' (first | refine W_ ?_ | refine aD ?_ | refine c_ (fun hc => ?_) (fun hc => ?_))
 all_goals first
   | (exfalso; simp at hc; done)
   | (exact r1_)
theorem wh (hst : aB G) (l1 l2 : Nat) (l : List az) (hb : l.length <= 1048576 /\ ∀ y ∈ l, az.small 1048576 y) : Ct Tryz.prog G 126 [.sl l1 4 (l.map (az.tw l1)), .sl l2 4 (l.map (az.tw l2))] (fun _ => .bool true) := by
 refine am Tryz.func126 rfl Tryz.ntmps126 rfl rfl fun w0 _ hG => ?_
 have hlen := az.len l1 l
 have hlen2 := az.len l2 l
 have hl1 := hb.1
 repeat' refine W_ ?_
 apply ak (X := Nat) [0, 1] (fun i => [(5, .int .i64 (i : Int))]) (fun _ => []) (fun i => i <= l.length) (fun i => l.length - i) 0 (Nat.zero_le _)
 exact kp_; exact nw_
 ·exact .refl _
 intro i hi
 try dsimp only
 by_cases hlt : i < l.length
 ·have hr1 : (l.map (az.tw l1))[i]? = some (l[i].tw l1) := aM hlt
  have hr2 : (l.map (az.tw l2))[i]? = some (l[i].tw l2) := aM hlt
  have hbi := hb.2 _ (List.getElem_mem hlt)
  generalize l[i] = x at hr1 hr2 hbi
  have hct := zk hst l1 l2 x hbi
  unfold az.tw at hct
  rw [show x.tw l1 = [.int .i64 x.owner, .bool x.class_, .str x.selector, .int .i64 x.code] from rfl] at hr1
  rw [show x.tw l2 = [.int .i64 x.owner, .bool x.class_, .str x.selector, .int .i64 x.code] from rfl] at hr2
  repeat' (first | refine V_ ?_ | refine ae hG hst (hct) ?_)
  exact ag (i + 1) (by omega) (by omega) (.of _ nw_ od_ pk_)
 ·repeat' refine W_ ?_
  exact r1_
end
def aa.tw (lo : Nat) (x : aa) : List TV := [.str x.name, .int .i64 x.parent, .sl lo 1 (a8 x.fields)]
def aa.small (n : Nat) (x : aa) : Prop := (x.name.size <= n) /\ (x.fields.length <= n /\ ∀ y ∈ x.fields, ByteArray.size y <= n)
def aa.tz : List TV := [.str ⟨#[]⟩, .int .i64 0, .nils]
theorem aa.fin (B K : Nat) (objs : aH) (x : aa) : iM B objs K (x.tw B) (x.tw K) := .cons (.flat rfl) (.cons (.flat rfl) (.cons (cj (fun x => .cons (.flat rfl) .nil) _) (.nil)))
theorem aa.len (lo : Nat) (l : List aa) : (l.map (aa.tw lo)).length = l.length := by simp
section
variable {G : World -> Prop}
theorem pB (hst : aB G) (lo : Nat) (x : aa) (left : Int) (h : 0 <= left /\ left <= 1048576) (hb : x.small 9223372036854775807) : CtM Tryz.prog G 172 [.agg (x.tw lo), .int .i64 left] [] (fun y : Int => -1 <= y /\ y <= left /\ (0 <= y -> x.small 1048576)) (fun _ => []) (fun y => .int .i64 y) := by
 refine aC Tryz.func172 rfl Tryz.ntmps172 rfl rfl rfl fun w0 R gs objsR hG hR => ?_
 obtain rfl := hR.inv0
 clear hR
 unfold aa.small at hb
 have hb1 : x.name.size <= 9223372036854775807 := hb.1
 unfold aa.tw
 repeat' (first | refine W_ ?_ | refine aD ?_ | ((with_reducible apply aG); rfl; kernel_rfl; (repeat (first | exact aF.nil | ((with_reducible apply aF.cons); rfl))); exact hG; exact lN lo x.fields _ (by omega) hb.2; exact .nil _; intro y2 hy2; refine bD ?_) | refine c_ (fun hc => ?_) (fun hc => ?_))
 all_goals first
   | exact av x_ rfl (-1) ⟨by omega, by omega, fun h => by omega⟩ rfl (.nil R) (.refl _) (.tmp _ _ rfl) rfl
   | (refine av x_ rfl _ ⟨?_, ?_, fun _ => ?_⟩ rfl (.nil R) (.refl _) (.tmp _ _ rfl) rfl
      ·omega
      ·omega
      ·exact ⟨by omega, hy2.2.2 (by omega)⟩)
theorem io (hst : aB G) (lo : Nat) (l : List aa) (left : Int) (h : 0 <= left /\ left <= 1048576) (hb : l.length <= 9223372036854775807 /\ ∀ y ∈ l, aa.small 9223372036854775807 y) : CtM Tryz.prog G 89 [.sl lo 3 (l.map (aa.tw lo)), .int .i64 left] [] (fun y : Int => -1 <= y /\ y <= left /\ (0 <= y -> l.length <= 1048576 /\ ∀ y ∈ l, aa.small 1048576 y)) (fun _ => []) (fun y => .int .i64 y) := by
 refine aC Tryz.func89 rfl Tryz.ntmps89 rfl rfl rfl fun w0 R gs objsR hG hR => ?_
 obtain rfl := hR.inv0
 clear hR
 have hlen := aa.len lo l
 have hl1 := hb.1
 by_cases hn : left - l.length < 0
 ·repeat' refine W_ ?_
  exact av x_ rfl (-1) ⟨by omega, by omega, fun h => by omega⟩ rfl (.nil R) (.refl _) (.tmp _ _ rfl) rfl
 ·repeat' refine W_ ?_
  apply ak (X := Nat × Int) [0, 1000000] (fun x => [(5, .int .i64 (x.1 : Int)), (1, .int .i64 x.2)]) (fun _ => R) (fun x => x.1 <= l.length /\ 0 <= x.2 /\ x.2 <= left /\ ∀ y ∈ l.take x.1, aa.small 1048576 y) (fun x => l.length - x.1) (0, left - l.length) ⟨Nat.zero_le _, by dsimp only; omega, by dsimp only; omega, by simp⟩
  exact kp_; exact nw_
  ·exact .refl _
  rintro ⟨i, lf⟩ ⟨hi, h0, h1, hs⟩
  dsimp only at hi h0 h1 hs |-
  by_cases hlt : i < l.length
  ·have hrow : (l.map (aa.tw lo))[i]? = some (l[i].tw lo) := aM hlt
   have hbi := hb.2 _ (List.getElem_mem hlt)
   have hta := aV (p := aa.small 1048576) hlt hs
   generalize l[i] = x at hrow hbi hta
   have hct := pB hst lo x lf (by omega) hbi
   unfold aa.tw at hct
   rw [show x.tw lo = [.str x.name, .int .i64 x.parent, .sl lo 1 (a8 x.fields)] from rfl] at hrow
   repeat' (first | refine W_ ?_ | ((with_reducible apply aG); rfl; kernel_rfl; (repeat (first | exact aF.nil | ((with_reducible apply aF.cons); rfl))); exact hG; exact hct; exact .nil _; intro y hy; refine bD ?_) | refine c_ (fun hc => ?_) (fun hc => ?_))
   all_goals first
     | exact av x_ rfl (-1) ⟨by omega, by omega, fun h => by omega⟩ rfl (.nil R) (.refl _) (.tmp _ _ rfl) rfl
     | exact ag (i + 1, y) ⟨by dsimp only; omega, by dsimp only; omega, by dsimp only; omega, hta (hy.2.2 (by omega))⟩ (by dsimp only; omega) (.of _ nw_ od_ pk_)
  ·rw [List.take_of_length_le (by omega)] at hs
   repeat' refine W_ ?_
   exact av x_ rfl lf ⟨by omega, by omega, fun _ => ⟨by omega, hs⟩⟩ rfl (.nil R) (.refl _) (.tmp _ _ rfl) rfl
theorem pA (hst : aB G) (l1 l2 : Nat) (x : aa) (hb : x.small 1048576) : Ct Tryz.prog G 206 [.agg (x.tw l1), .agg (x.tw l2)] (fun _ => .bool true) := by
 refine am Tryz.func206 rfl Tryz.ntmps206 rfl rfl fun w0 _ hG => ?_
 unfold aa.small at hb
 have hsfields := (hb.2).1
 have hnename : ¬ x.name ≠ x.name := fun h => h rfl
 unfold aa.tw
 repeat' (first | refine W_ ?_ | refine aD ?_ | refine ab hG hst (im l1 l2 x.fields hsfields) ?_)
 all_goals first
   | (exfalso; simp at hc; done)
   | (exact r1_)
theorem ix (hst : aB G) (l1 l2 : Nat) (l : List aa) (hb : l.length <= 1048576 /\ ∀ y ∈ l, aa.small 1048576 y) : Ct Tryz.prog G 124 [.sl l1 3 (l.map (aa.tw l1)), .sl l2 3 (l.map (aa.tw l2))] (fun _ => .bool true) := by
 refine am Tryz.func124 rfl Tryz.ntmps124 rfl rfl fun w0 _ hG => ?_
 have hlen := aa.len l1 l
 have hlen2 := aa.len l2 l
 have hl1 := hb.1
 repeat' refine W_ ?_
 apply ak (X := Nat) [0, 1] (fun i => [(5, .int .i64 (i : Int))]) (fun _ => []) (fun i => i <= l.length) (fun i => l.length - i) 0 (Nat.zero_le _)
 exact kp_; exact nw_
 ·exact .refl _
 intro i hi
 try dsimp only
 by_cases hlt : i < l.length
 ·have hr1 : (l.map (aa.tw l1))[i]? = some (l[i].tw l1) := aM hlt
  have hr2 : (l.map (aa.tw l2))[i]? = some (l[i].tw l2) := aM hlt
  have hbi := hb.2 _ (List.getElem_mem hlt)
  generalize l[i] = x at hr1 hr2 hbi
  have hct := pA hst l1 l2 x hbi
  unfold aa.tw at hct
  rw [show x.tw l1 = [.str x.name, .int .i64 x.parent, .sl l1 1 (a8 x.fields)] from rfl] at hr1
  rw [show x.tw l2 = [.str x.name, .int .i64 x.parent, .sl l2 1 (a8 x.fields)] from rfl] at hr2
  repeat' (first | refine V_ ?_ | refine ae hG hst (hct) ?_)
  exact ag (i + 1) (by omega) (by omega) (.of _ nw_ od_ pk_)
 ·repeat' refine W_ ?_
  exact r1_
end
def aw.tw (lo : Nat) (x : aw) : List TV := [.sl lo 3 (x.classes.map (aa.tw lo)), .sl lo 4 (x.codes.map (aA.tw lo)), .sl lo 4 (x.entries.map (az.tw lo)), .int .i64 x.main]
def aw.small (n : Nat) (x : aw) : Prop := (x.classes.length <= n /\ ∀ y ∈ x.classes, aa.small n y) /\ (x.codes.length <= n /\ ∀ y ∈ x.codes, aA.small n y) /\ (x.entries.length <= n /\ ∀ y ∈ x.entries, az.small n y)
def aw.tz : List TV := [.nils, .nils, .nils, .int .i64 0]
theorem aw.fin (B K : Nat) (objs : aH) (x : aw) : iM B objs K (x.tw B) (x.tw K) := .cons (cj (fun x => aa.fin B K objs x) _) (.cons (cj (fun x => aA.fin B K objs x) _) (.cons (cj (fun x => az.fin B K objs x) _) (.cons (.flat rfl) (.nil))))
theorem aw.len (lo : Nat) (l : List aw) : (l.map (aw.tw lo)).length = l.length := by simp
section
variable {G : World -> Prop}
theorem sb (hst : aB G) (lo : Nat) (x : aw) (left : Int) (h : 0 <= left /\ left <= 1048576) (hb : x.small 9223372036854775807) : CtM Tryz.prog G 28 [.agg (x.tw lo), .int .i64 left] [] (fun y : Int => -1 <= y /\ y <= left /\ (0 <= y -> x.small 1048576)) (fun _ => []) (fun y => .int .i64 y) := by
 refine aC Tryz.func28 rfl Tryz.ntmps28 rfl rfl rfl fun w0 R gs objsR hG hR => ?_
 obtain rfl := hR.inv0
 clear hR
 unfold aw.small at hb
 skip
 unfold aw.tw
 repeat' (first | refine W_ ?_ | refine aD ?_ | ((with_reducible apply aG); rfl; kernel_rfl; (repeat (first | exact aF.nil | ((with_reducible apply aF.cons); rfl))); exact hG; exact io hst lo x.classes _ (by omega) hb.1; exact .nil _; intro y1 hy1; refine bD ?_) | ((with_reducible apply aG); rfl; kernel_rfl; (repeat (first | exact aF.nil | ((with_reducible apply aF.cons); rfl))); exact hG; exact x9 hst lo x.codes _ (by omega) hb.2.1; exact .nil _; intro y2 hy2; refine bD ?_) | ((with_reducible apply aG); rfl; kernel_rfl; (repeat (first | exact aF.nil | ((with_reducible apply aF.cons); rfl))); exact hG; exact vd hst lo x.entries _ (by omega) hb.2.2; exact .nil _; intro y3 hy3; refine bD ?_) | refine c_ (fun hc => ?_) (fun hc => ?_))
 all_goals first
   | exact av x_ rfl (-1) ⟨by omega, by omega, fun h => by omega⟩ rfl (.nil R) (.refl _) (.tmp _ _ rfl) rfl
   | (refine av x_ rfl _ ⟨?_, ?_, fun _ => ?_⟩ rfl (.nil R) (.refl _) (.tmp _ _ rfl) rfl
      ·omega
      ·omega
      ·exact ⟨hy1.2.2 (by omega), hy2.2.2 (by omega), hy3.2.2 (by omega)⟩)
theorem rA (hst : aB G) (l1 l2 : Nat) (x : aw) (hb : x.small 1048576) : Ct Tryz.prog G 44 [.agg (x.tw l1), .agg (x.tw l2)] (fun _ => .bool true) := by
 refine am Tryz.func44 rfl Tryz.ntmps44 rfl rfl fun w0 _ hG => ?_
 unfold aw.small at hb
 have hsclasses := hb.1
 have hscodes := hb.2.1
 have hsentries := hb.2.2
 unfold aw.tw
 repeat' (first | refine W_ ?_ | refine aD ?_ | refine ab hG hst (ix hst l1 l2 x.classes hsclasses) ?_ | refine ab hG hst (yx hst l1 l2 x.codes hscodes) ?_ | refine ab hG hst (wh hst l1 l2 x.entries hsentries) ?_)
 all_goals first
   | (exfalso; simp at hc; done)
   | (exact r1_)
end
def eJ.tw (lo : Nat) (x : eJ) : List TV := [.int .i64 x.code, .int .i64 x.at_, .int .i64 x.kind]
def eJ.small (n : Nat) (x : eJ) : Prop := True
def eJ.tz : List TV := [.int .i64 0, .int .i64 0, .int .i64 0]
theorem eJ.fin (B K : Nat) (objs : aH) (x : eJ) : iM B objs K (x.tw B) (x.tw K) := .cons (.flat rfl) (.cons (.flat rfl) (.cons (.flat rfl) (.nil)))
theorem eJ.len (lo : Nat) (l : List eJ) : (l.map (eJ.tw lo)).length = l.length := by simp
section
variable {G : World -> Prop}
end
def spB : ByteArray := ⟨#[32]⟩
def lnB (w : ByteArray) (xs : List ByteArray) : ByteArray := xs.foldl (fun a x => a ++ spB ++ x) w
theorem kO {α β : Type} {f : α -> β} {l : List α} {k : Nat} (h : k < l.length) : (l.take (k + 1)).map f = (l.take k).map f ++ [f l[k]] := by
 rw [List.take_add_one, List.getElem?_eq_getElem h, Option.toList_some, List.map_append]; rfl
section
variable {G : World -> Prop}
end
def bA : List aa := [⟨⟨#[79, 98, 106, 101, 99, 116]⟩, -1, []⟩, ⟨⟨#[69, 120, 99, 101, 112, 116, 105, 111, 110]⟩, 0, [⟨#[116, 101, 120, 116]⟩]⟩, ⟨⟨#[69, 114, 114, 111, 114]⟩, 1, [⟨#[116, 101, 120, 116]⟩]⟩, ⟨⟨#[77, 101, 115, 115, 97, 103, 101, 78, 111, 116, 85, 110, 100, 101, 114, 115, 116, 111, 111, 100]⟩, 2, [⟨#[116, 101, 120, 116]⟩]⟩, ⟨⟨#[90, 101, 114, 111, 68, 105, 118, 105, 100, 101]⟩, 2, [⟨#[116, 101, 120, 116]⟩]⟩, ⟨⟨#[73, 110, 116, 101, 103, 101, 114]⟩, 0, []⟩, ⟨⟨#[66, 111, 111, 108, 101, 97, 110]⟩, 0, []⟩, ⟨⟨#[78, 105, 108]⟩, 0, []⟩, ⟨⟨#[83, 116, 114, 105, 110, 103]⟩, 0, []⟩, ⟨⟨#[83, 121, 109, 98, 111, 108]⟩, 0, []⟩, ⟨⟨#[65, 114, 114, 97, 121]⟩, 0, []⟩, ⟨⟨#[66, 108, 111, 99, 107]⟩, 0, []⟩, ⟨⟨#[83, 101, 109, 97, 112, 104, 111, 114, 101]⟩, 0, []⟩, ⟨⟨#[80, 114, 111, 99, 101, 115, 115]⟩, 0, []⟩, ⟨⟨#[84, 114, 97, 110, 115, 99, 114, 105, 112, 116]⟩, 0, []⟩, ⟨⟨#[67, 108, 97, 115, 115]⟩, 0, []⟩]
def cn : List ByteArray := [⟨#[79, 98, 106, 101, 99, 116]⟩, ⟨#[69, 120, 99, 101, 112, 116, 105, 111, 110]⟩, ⟨#[69, 114, 114, 111, 114]⟩, ⟨#[77, 101, 115, 115, 97, 103, 101, 78, 111, 116, 85, 110, 100, 101, 114, 115, 116, 111, 111, 100]⟩, ⟨#[90, 101, 114, 111, 68, 105, 118, 105, 100, 101]⟩, ⟨#[73, 110, 116, 101, 103, 101, 114]⟩, ⟨#[66, 111, 111, 108, 101, 97, 110]⟩, ⟨#[78, 105, 108]⟩, ⟨#[83, 116, 114, 105, 110, 103]⟩, ⟨#[83, 121, 109, 98, 111, 108]⟩, ⟨#[65, 114, 114, 97, 121]⟩, ⟨#[66, 108, 111, 99, 107]⟩, ⟨#[83, 101, 109, 97, 112, 104, 111, 114, 101]⟩, ⟨#[80, 114, 111, 99, 101, 115, 115]⟩, ⟨#[84, 114, 97, 110, 115, 99, 114, 105, 112, 116]⟩, ⟨#[67, 108, 97, 115, 115]⟩]
def gQ (k : Int) : List ByteArray := if k = 1 \/ k = 2 \/ k = 3 \/ k = 4 then [⟨#[116, 101, 120, 116]⟩] else []
def xU : List (List TV) := [[TV.int .i64 (-1)], [TV.int .i64 0], [TV.int .i64 1], [TV.int .i64 2], [TV.int .i64 2], [TV.int .i64 0], [TV.int .i64 0], [TV.int .i64 0], [TV.int .i64 0], [TV.int .i64 0], [TV.int .i64 0], [TV.int .i64 0], [TV.int .i64 0], [TV.int .i64 0], [TV.int .i64 0], [TV.int .i64 0]]
theorem fw : bA.length = 16 := rfl
theorem jd {i : Nat} (h : i < 16) : ∃ x, bA[i]? = some x /\ (a8 cn)[i]? = some [.str x.name] /\ xU[i]? = some [.int .i64 x.parent] /\ gQ (i : Int) = x.fields /\ bA.take (i + 1) = bA.take i ++ [x] := by
 match i, h with
 | 0, _ => exact ⟨_, rfl, rfl, rfl, rfl, rfl⟩
 | 1, _ => exact ⟨_, rfl, rfl, rfl, rfl, rfl⟩
 | 2, _ => exact ⟨_, rfl, rfl, rfl, rfl, rfl⟩
 | 3, _ => exact ⟨_, rfl, rfl, rfl, rfl, rfl⟩
 | 4, _ => exact ⟨_, rfl, rfl, rfl, rfl, rfl⟩
 | 5, _ => exact ⟨_, rfl, rfl, rfl, rfl, rfl⟩
 | 6, _ => exact ⟨_, rfl, rfl, rfl, rfl, rfl⟩
 | 7, _ => exact ⟨_, rfl, rfl, rfl, rfl, rfl⟩
 | 8, _ => exact ⟨_, rfl, rfl, rfl, rfl, rfl⟩
 | 9, _ => exact ⟨_, rfl, rfl, rfl, rfl, rfl⟩
 | 10, _ => exact ⟨_, rfl, rfl, rfl, rfl, rfl⟩
 | 11, _ => exact ⟨_, rfl, rfl, rfl, rfl, rfl⟩
 | 12, _ => exact ⟨_, rfl, rfl, rfl, rfl, rfl⟩
 | 13, _ => exact ⟨_, rfl, rfl, rfl, rfl, rfl⟩
 | 14, _ => exact ⟨_, rfl, rfl, rfl, rfl, rfl⟩
 | 15, _ => exact ⟨_, rfl, rfl, rfl, rfl, rfl⟩
 | n + 16, h => omega
section
variable {G : World -> Prop}
theorem pz : Ct Tryz.prog G 289 [] (fun K => .sl K 1 (a8 cn)) := by
 refine am Tryz.func289 rfl Tryz.ntmps289 rfl rfl fun w0 _ hG => ?_
 repeat' (first | refine W_ ?_ | refine cH ?_)
 refine aE (r1 := .tmp 0) (t1 := .sl w0.heap.size 1 (a8 cn)) (.inr rfl) rfl (.tmp _ _ rfl) (fun _ => ?_)
 exact cj (f := fun s : ByteArray => [TV.str s]) (f' := fun s : ByteArray => [TV.str s]) (fun x => .cons (.flat rfl) .nil) cn
theorem oP : Ct Tryz.prog G 298 [] (fun K => .sl K 1 (a8 cn)) := by
 refine am Tryz.func298 rfl Tryz.ntmps298 rfl rfl fun w0 _ hG => ?_
 repeat' (first | refine W_ ?_ | refine cH ?_)
 refine aE (r1 := .tmp 0) (t1 := .sl w0.heap.size 1 (a8 cn)) (.inr rfl) rfl (.tmp _ _ rfl) (fun _ => ?_)
 exact cj (f := fun s : ByteArray => [TV.str s]) (f' := fun s : ByteArray => [TV.str s]) (fun x => .cons (.flat rfl) .nil) cn
theorem wn (tu : TV) (k : Int) (h : k < 16) : Ct Tryz.prog G 290 [tu, .int .i64 k] (fun K => .sl K 1 (a8 (gQ k))) := by
 refine am Tryz.func290 rfl Tryz.ntmps290 rfl rfl fun w0 _ hG => ?_
 by_cases hk : k = 1 \/ k = 2 \/ k = 3 \/ k = 4
 ·rw [show gQ k = [⟨#[116, 101, 120, 116]⟩] from if_pos hk]
  repeat' (first | refine W_ ?_ | refine cH ?_ | refine g_ (fun hg => ?_) (fun hg => ?_))
  all_goals first
    | (exfalso; omega)
    | (refine aE x_ rfl (.tmp _ _ rfl) (fun _ => ?_)
       exact cj (f := fun s : ByteArray => [TV.str s]) (f' := fun s : ByteArray => [TV.str s]) (fun x => .cons (.flat rfl) .nil) [⟨#[116, 101, 120, 116]⟩])
 ·rw [show gQ k = [] from if_neg hk]
  repeat' (first | refine W_ ?_ | refine cH ?_)
  all_goals first
    | (exfalso; omega)
    | (refine aE x_ rfl (.tmp _ _ rfl) (fun _ => ?_)
       exact cj (f := fun s : ByteArray => [TV.str s]) (f' := fun s : ByteArray => [TV.str s]) (fun x => .cons (.flat rfl) .nil) [])
theorem x4 (hst : aB G) (rest : List TV) : Ct Tryz.prog G 240 [.cp 0 (.nils :: rest)] (fun K => .sl K 3 (bA.map (aa.tw K))) := by
 refine am Tryz.func240 rfl Tryz.ntmps240 rfl rfl fun w0 _ hG => ?_
 repeat' (first | refine H_ 3 ?_ | refine ab hG hst (pz) ?_ | (refine kQ ?_; intro ss bb))
 refine ⟨?_⟩
 repeat' (first | refine W_ ?_ | refine cH ?_)
 apply ak (X := Nat × Nat) [0, 4, 5] (fun x => [(6, .int .i64 (x.1 : Int)), (3, .ms ss x.2 0 x.1)]) (fun x => [(ss, x.2, .row 3 ((bA.take x.1).map (aa.tw w0.heap.size)))]) (fun x => x.1 <= 16) (fun x => 16 - x.1) (0, bb) (Nat.zero_le _)
 exact kp_; exact nw_
 ·exact .refl _
 rintro ⟨i, b⟩ hi
 dsimp only at hi |-
 by_cases hlt : i < 16
 ·obtain ⟨x, hx, h1, h2, h3, h4⟩ := jd hlt
  unfold xU at h2
  have hle : ((bA.take i).map (aa.tw w0.heap.size)).length = i := by rw [List.length_map, List.length_take, fw]; omega
  repeat' (first | refine W_ ?_ | (with_reducible apply iU (id := 7) 14; kernel_rfl; kernel_rfl; kernel_rfl; (repeat (first | exact Cut.zero _ | apply Cut.succ))) | with_reducible refine fQ (by kernel_rfl) (by kernel_rfl) ?_ | with_reducible refine jz ?_ | with_reducible refine fV ?_ | with_reducible refine fS rfl ?_ | refine jB rfl rfl rfl rr_ ?_ | refine fU rfl rfl rfl rr_ rfl rfl rfl ?_ | refine eG rfl rfl rfl rr_ rfl rfl ?_ | (refine o8 rfl rfl rfl rr_ dd_ ?_) | (refine oU rfl rfl rfl rr_ dd_ ?_) | (refine dh rfl rfl rfl rr_ (fun hg => ?_) (fun hg => ?_)) | (refine cN rfl rfl rfl rr_ (fun hg => ?_) (fun hg => ?_)) | ((with_reducible apply d_y); exact y_; rfl) | ((with_reducible apply acQ); rfl; kernel_rfl; (repeat (first | exact ca.nil | ((with_reducible apply ca.cons); rfl; exact .same _))); exact hG; exact hst; exact wn _ _ (by omega)) | refine ab4 ?_ | refine aaO ?_ | (refine uA ?_; intro bb))
  have hrow : (bA.take i).map (aa.tw w0.heap.size) ++ [[TV.str x.name, .int .i64 x.parent, .sl w0.heap.size 1 (a8 (gQ i))]] = (bA.take (i + 1)).map (aa.tw w0.heap.size) := by
    rw [h4, h3, List.map_append]; rfl
  rw [hrow]
  exact ag (i + 1, bb) (by dsimp only; omega) (by dsimp only; omega) (.of _ nw_ od_ pk_)
 ·obtain rfl : i = 16 := by omega
  repeat' refine W_ ?_
  apply ak (X := Unit) [0, 3] (fun _ => [(7, .int .i64 0)]) (fun _ => [(ss, b, .row 3 (bA.map (aa.tw w0.heap.size)))]) (fun _ => True) (fun _ => 0) () trivial
  exact kp_; exact nw_
  ·exact .refl _
  rintro _ -
  repeat' refine W_ ?_
  refine aE x_ rfl (.tmp _ _ rfl) (fun _ => ?_)
  exact xu (fun x => aa.fin _ _ _ x) List.mem_cons_self
end
def nR {α : Type} (mk : α -> Nat × Nat -> List TV) (l : List α) (ps : List (Nat × Nat)) : List (List TV) := List.zipWith mk l ps
def nO {α : Type} (ob : α -> bj) (l : List α) (ps : List (Nat × Nat)) : aH := List.zipWith (fun x p => (p.1, p.2, ob x)) l ps
theorem acL {α : Type} (mk : α -> Nat × Nat -> List TV) {l : List α} {ps : List (Nat × Nat)} (h : ps.length = l.length) : (nR mk l ps).length = l.length := by simp [nR, h]
theorem ed {α : Type} {l : List α} {i : Nat} (h : i < l.length) : l.take (i + 1) = l.take i ++ [l[i]] := by rw [List.take_add_one, List.getElem?_eq_getElem h]; rfl
theorem zD {α : Type} (ob : α -> bj) {l : List α} {ps : List (Nat × Nat)} {i : Nat} (h : i < l.length) (hp : ps.length = i) (p : Nat × Nat) : nO ob (l.take (i + 1)) (ps ++ [p]) = nO ob (l.take i) ps ++ [(p.1, p.2, ob l[i])] := by
 unfold nO
 rw [ed h, List.zipWith_append (by simp; omega)]; rfl
theorem acW {α : Type} (mk : α -> Nat × Nat -> List TV) (z : List TV) {l : List α} {ps : List (Nat × Nat)} {i : Nat} (h : i < l.length) (hp : ps.length = i) (p : Nat × Nat) :
   (nR mk (l.take i) ps ++ List.replicate (l.length - i) z)[i]? = some z /\ (nR mk (l.take i) ps ++ List.replicate (l.length - i) z).set i (mk l[i] p) = nR mk (l.take (i + 1)) (ps ++ [p]) ++ List.replicate (l.length - (i + 1)) z := by
 have hl : (nR mk (l.take i) ps).length = i := by simp [nR]; omega
 have e : l.length - i = (l.length - (i + 1)) + 1 := by omega
 refine ⟨?_, ?_⟩
 ·rw [List.getElem?_append_right (by omega), hl, Nat.sub_self, e, List.replicate_succ]; rfl
 ·rw [List.set_append_right _ _ (by omega), hl, Nat.sub_self, e, List.replicate_succ, List.set_cons_zero]
  unfold nR
  rw [ed h, List.zipWith_append (by simp; omega), List.append_assoc]; rfl
theorem tU (a z : Nat × Nat × bj) (T R : aH) : de (a :: ((T ++ [z]) ++ R)) (z :: a :: (T ++ R)) := .perm (by
 have h : ((T ++ [z]) ++ R).Perm (z :: (T ++ R)) := by rw [List.append_assoc]; exact List.perm_middle
 exact (h.cons a).trans (List.Perm.swap z a _))
def jp (x : aa) (p : Nat × Nat) : List TV := [.str x.name, .int .i64 x.parent, .ms p.1 p.2 0 x.fields.length]
def lx (x : aa) : bj := .row 1 (a8 x.fields)
def jl (x : aA) (p : Nat × Nat) : List TV := [.bool x.block, .int .i64 x.params, .int .i64 x.slots, .ms p.1 p.2 0 x.instrs.length]
def lB (x : aA) : bj := .row 4 (x.instrs.map (ah.tw 0))
section
variable {G : World -> Prop}
theorem kz (hst : aB G) (lo : Nat) (l : List ByteArray) (hn : l.length <= 1048576) : CtM Tryz.prog G 112 [.sl lo 1 (a8 l)] [] (fun _ : Nat × Nat => True) (fun y => [(y.1, y.2, .row 1 (a8 l))]) (fun y => .ms y.1 y.2 0 l.length) := by
 refine aC Tryz.func112 rfl Tryz.ntmps112 rfl rfl rfl fun w0 R gs objsR hG hR => ?_
 obtain rfl := hR.inv0
 clear hR
 have hlen := aZ l
 have h0 := em (fun s : ByteArray => [TV.str s]) [.str ⟨#[]⟩] l
 repeat' (first | refine W_ ?_ | (refine f9 ?_; intro ss bb))
 generalize ss = so; generalize bb = bo
 apply ak (X := Nat) [0, 3, 1000000] (fun i => [(4, .int .i64 (i : Int))]) (fun i => (so, bo, .row 1 (fZ (fun s : ByteArray => [TV.str s]) [.str ⟨#[]⟩] l i)) :: R) (fun i => i <= l.length) (fun i => l.length - i) 0 (Nat.zero_le _)
 exact kp_; exact nw_
 ·rw [<- h0]; exact .refl _
 intro i hi
 try dsimp only
 by_cases hlt : i < l.length
 ·obtain ⟨hrow, hset⟩ := fk (fun s : ByteArray => [TV.str s]) [.str ⟨#[]⟩] hlt
  have hra := dH hlt
  generalize l[i] = x at hset hra
  try dsimp only at hset
  repeat' (first | refine W_ ?_ | refine bE ?_)
  refine ag (i + 1) (by omega) (by omega) (.of _ nw_ od_ (by rw [<- hset]; exact .refl _))
 ·obtain rfl : i = l.length := by omega
  rw [er]
  repeat' refine W_ ?_
  exact av x_ rfl (so, bo) trivial rfl (.cons _ _ _ _ (.nil R)) pk_ (.tmp _ _ rfl) rfl
theorem uo (hst : aB G) (lo : Nat) (l : List ah) (hb : l.length <= 1048576 /\ ∀ y ∈ l, ah.small 1048576 y) : CtM Tryz.prog G 251 [.sl lo 4 (l.map (ah.tw lo))] [] (fun _ : Nat × Nat => True) (fun y => [(y.1, y.2, .row 4 (l.map (ah.tw 0)))]) (fun y => .ms y.1 y.2 0 l.length) := by
 refine aC Tryz.func251 rfl Tryz.ntmps251 rfl rfl rfl fun w0 R gs objsR hG hR => ?_
 obtain rfl := hR.inv0
 clear hR
 have hlen := ah.len lo l
 have hl1 := hb.1
 have h0 := em (ah.tw 0) ah.tz l
 repeat' (first | refine W_ ?_ | (refine f9 ?_; intro ss bb))
 generalize ss = so; generalize bb = bo
 apply ak (X := Nat) [0, 3, 1000000] (fun i => [(4, .int .i64 (i : Int))]) (fun i => (so, bo, .row 4 (fZ (ah.tw 0) ah.tz l i)) :: R) (fun i => i <= l.length) (fun i => l.length - i) 0 (Nat.zero_le _)
 exact kp_; exact nw_
 ·rw [<- h0]; exact .refl _
 intro i hi
 try dsimp only
 by_cases hlt : i < l.length
 ·obtain ⟨hrow, hset⟩ := fk (ah.tw 0) ah.tz hlt
  have hra : (l.map (ah.tw lo))[i]? = some (l[i].tw lo) := aM hlt
  have hbi := hb.2 _ (List.getElem_mem hlt)
  generalize l[i] = x at hset hra hbi
  have hct := zj hst lo x hbi
  unfold ah.tw at hct
  rw [show x.tw lo = [.int .i64 x.op, .int .i64 x.a, .int .i64 x.b, .str x.text] from rfl] at hra
  replace hrow : (fZ (ah.tw 0) ah.tz l i)[i]? = some [.int .i64 0, .int .i64 0, .int .i64 0, .str ⟨#[]⟩] := hrow
  repeat' (first | refine W_ ?_ | refine ab hG hst (hct) ?_ | refine bE ?_)
  refine ag (i + 1) (by omega) (by omega) (.of _ nw_ od_ (by rw [<- hset]; exact .refl _))
 ·obtain rfl : i = l.length := by omega
  rw [er]
  repeat' refine W_ ?_
  exact av x_ rfl (so, bo) trivial rfl (.cons _ _ _ _ (.nil R)) pk_ (.tmp _ _ rfl) rfl
theorem sY (hst : aB G) (lo : Nat) (l : List az) (hb : l.length <= 1048576 /\ ∀ y ∈ l, az.small 1048576 y) : CtM Tryz.prog G 110 [.sl lo 4 (l.map (az.tw lo))] [] (fun _ : Nat × Nat => True) (fun y => [(y.1, y.2, .row 4 (l.map (az.tw 0)))]) (fun y => .ms y.1 y.2 0 l.length) := by
 refine aC Tryz.func110 rfl Tryz.ntmps110 rfl rfl rfl fun w0 R gs objsR hG hR => ?_
 obtain rfl := hR.inv0
 clear hR
 have hlen := az.len lo l
 have hl1 := hb.1
 have h0 := em (az.tw 0) az.tz l
 repeat' (first | refine W_ ?_ | (refine f9 ?_; intro ss bb))
 generalize ss = so; generalize bb = bo
 apply ak (X := Nat) [0, 3, 1000000] (fun i => [(4, .int .i64 (i : Int))]) (fun i => (so, bo, .row 4 (fZ (az.tw 0) az.tz l i)) :: R) (fun i => i <= l.length) (fun i => l.length - i) 0 (Nat.zero_le _)
 exact kp_; exact nw_
 ·rw [<- h0]; exact .refl _
 intro i hi
 try dsimp only
 by_cases hlt : i < l.length
 ·obtain ⟨hrow, hset⟩ := fk (az.tw 0) az.tz hlt
  have hra : (l.map (az.tw lo))[i]? = some (l[i].tw lo) := aM hlt
  have hbi := hb.2 _ (List.getElem_mem hlt)
  generalize l[i] = x at hset hra hbi
  have hct := yT hst lo x hbi
  unfold az.tw at hct
  rw [show x.tw lo = [.int .i64 x.owner, .bool x.class_, .str x.selector, .int .i64 x.code] from rfl] at hra
  replace hrow : (fZ (az.tw 0) az.tz l i)[i]? = some [.int .i64 0, .bool false, .str ⟨#[]⟩, .int .i64 0] := hrow
  repeat' (first | refine W_ ?_ | refine ab hG hst (hct) ?_ | refine bE ?_)
  refine ag (i + 1) (by omega) (by omega) (.of _ nw_ od_ (by rw [<- hset]; exact .refl _))
 ·obtain rfl : i = l.length := by omega
  rw [er]
  repeat' refine W_ ?_
  exact av x_ rfl (so, bo) trivial rfl (.cons _ _ _ _ (.nil R)) pk_ (.tmp _ _ rfl) rfl
theorem nq (hst : aB G) (lo : Nat) (x : aa) (hb : x.small 1048576) : CtM Tryz.prog G 188 [.agg [.str x.name, .int .i64 x.parent, .sl lo 1 (a8 x.fields)]] [] (fun _ : Nat × Nat => True) (fun y => [(y.1, y.2, .row 1 (a8 x.fields))]) (fun y => .agg [.str x.name, .int .i64 x.parent, .ms y.1 y.2 0 x.fields.length]) := by
 refine aC Tryz.func188 rfl Tryz.ntmps188 rfl rfl rfl fun w0 R gs objsR hG hR => ?_
 obtain rfl := hR.inv0
 clear hR
 have hin := kz hst lo x.fields hb.2.1
 repeat' (first | refine W_ ?_ | refine aD ?_ | (refine aj ?_; intro ss bb) | refine ac ?_ | ((with_reducible apply aG); rfl; kernel_rfl; (repeat (first | exact aF.nil | ((with_reducible apply aF.cons); rfl))); exact hG; exact hin; exact .nil _; intro y hy; refine bm ?_))
 refine av x_ rfl y trivial rfl (.cons _ _ _ _ (.nil R)) pk_ (.cell _ _ _ _ _ rfl mm_ (by kernel_rfl) (by kernel_rfl) (by kernel_rfl)) rfl
theorem gY (hst : aB G) (lo : Nat) (l : List aa) (hb : l.length <= 1048576 /\ ∀ y ∈ l, aa.small 1048576 y) : CtM Tryz.prog G 108 [.sl lo 3 (l.map (aa.tw lo))] [] (fun y : (Nat × Nat) × List (Nat × Nat) => y.2.length = l.length) (fun y => (y.1.1, y.1.2, .row 3 (nR jp l y.2)) :: nO lx l y.2) (fun y => .ms y.1.1 y.1.2 0 l.length) := by
 refine aC Tryz.func108 rfl Tryz.ntmps108 rfl rfl rfl fun w0 R gs objsR hG hR => ?_
 obtain rfl := hR.inv0
 clear hR
 have hlen := aa.len lo l
 have hl1 := hb.1
 have h0 : List.replicate l.length aa.tz = nR jp (l.take 0) [] ++ List.replicate (l.length - 0) aa.tz := by simp [nR]
 repeat' (first | refine W_ ?_ | (refine f9 ?_; intro ss bb))
 generalize ss = so; generalize bb = bo
 apply ak (X := Nat × List (Nat × Nat)) [0, 3, 1000000] (fun x => [(4, .int .i64 (x.1 : Int))]) (fun x => (so, bo, .row 3 (nR jp (l.take x.1) x.2 ++ List.replicate (l.length - x.1) aa.tz)) :: (nO lx (l.take x.1) x.2 ++ R)) (fun x => x.1 <= l.length /\ x.2.length = x.1) (fun x => l.length - x.1) (0, []) ⟨Nat.zero_le _, rfl⟩
 exact kp_; exact nw_
 ·rw [<- h0]; exact .refl _
 rintro ⟨i, ps⟩ ⟨hi, hps⟩
 dsimp only at hi hps |-
 by_cases hlt : i < l.length
 ·have hrs := fun p => acW jp aa.tz hlt hps p
  have hos := fun p => zD lx hlt hps p
  have hra : (l.map (aa.tw lo))[i]? = some (l[i].tw lo) := aM hlt
  have hbi := hb.2 _ (List.getElem_mem hlt)
  generalize l[i] = x at hrs hos hra hbi
  have hct := nq hst lo x hbi
  rw [show x.tw lo = [.str x.name, .int .i64 x.parent, .sl lo 1 (a8 x.fields)] from rfl] at hra
  have hrow : (nR jp (l.take i) ps ++ List.replicate (l.length - i) aa.tz)[i]? = some [.str ⟨#[]⟩, .int .i64 0, .nils] := (hrs (0, 0)).1
  generalize nO lx (l.take i) ps = T at hos |-
  repeat' (first | refine W_ ?_ | ((with_reducible apply aG); rfl; kernel_rfl; (repeat (first | exact aF.nil | ((with_reducible apply aF.cons); rfl))); exact hG; exact hct; exact .nil _; intro y hy; refine bm ?_) | refine bE ?_)
  refine ag (i + 1, ps ++ [y]) ⟨by dsimp only; omega, by dsimp only; simp [hps]⟩ (by dsimp only; omega) (.of _ nw_ od_ ?_)
  dsimp only
  rw [hos y, <- (hrs y).2]
  exact tU _ _ T R
 ·obtain rfl : i = l.length := by omega
  rw [List.take_of_length_le (Nat.le_refl _), Nat.sub_self, List.replicate_zero, List.append_nil]
  repeat' refine W_ ?_
  exact av x_ rfl ((so, bo), ps) hps rfl (.cons _ _ _ _ (.app _ R)) (.refl _) (.tmp _ _ rfl) rfl
theorem ze (hst : aB G) (lo : Nat) (x : aA) (hb : x.small 1048576) : CtM Tryz.prog G 189 [.agg [.bool x.block, .int .i64 x.params, .int .i64 x.slots, .sl lo 4 (x.instrs.map (ah.tw lo))]] [] (fun _ : Nat × Nat => True) (fun y => [(y.1, y.2, .row 4 (x.instrs.map (ah.tw 0)))]) (fun y => .agg [.bool x.block, .int .i64 x.params, .int .i64 x.slots, .ms y.1 y.2 0 x.instrs.length]) := by
 refine aC Tryz.func189 rfl Tryz.ntmps189 rfl rfl rfl fun w0 R gs objsR hG hR => ?_
 obtain rfl := hR.inv0
 clear hR
 have hin := uo hst lo x.instrs hb
 repeat' (first | refine W_ ?_ | refine aD ?_ | (refine aj ?_; intro ss bb) | refine ac ?_ | ((with_reducible apply aG); rfl; kernel_rfl; (repeat (first | exact aF.nil | ((with_reducible apply aF.cons); rfl))); exact hG; exact hin; exact .nil _; intro y hy; refine bm ?_))
 refine av x_ rfl y trivial rfl (.cons _ _ _ _ (.nil R)) pk_ (.cell _ _ _ _ _ rfl mm_ (by kernel_rfl) (by kernel_rfl) (by kernel_rfl)) rfl
theorem uR (hst : aB G) (lo : Nat) (l : List aA) (hb : l.length <= 1048576 /\ ∀ y ∈ l, aA.small 1048576 y) : CtM Tryz.prog G 109 [.sl lo 4 (l.map (aA.tw lo))] [] (fun y : (Nat × Nat) × List (Nat × Nat) => y.2.length = l.length) (fun y => (y.1.1, y.1.2, .row 4 (nR jl l y.2)) :: nO lB l y.2) (fun y => .ms y.1.1 y.1.2 0 l.length) := by
 refine aC Tryz.func109 rfl Tryz.ntmps109 rfl rfl rfl fun w0 R gs objsR hG hR => ?_
 obtain rfl := hR.inv0
 clear hR
 have hlen := aA.len lo l
 have hl1 := hb.1
 have h0 : List.replicate l.length aA.tz = nR jl (l.take 0) [] ++ List.replicate (l.length - 0) aA.tz := by simp [nR]
 repeat' (first | refine W_ ?_ | (refine f9 ?_; intro ss bb))
 generalize ss = so; generalize bb = bo
 apply ak (X := Nat × List (Nat × Nat)) [0, 3, 1000000] (fun x => [(4, .int .i64 (x.1 : Int))]) (fun x => (so, bo, .row 4 (nR jl (l.take x.1) x.2 ++ List.replicate (l.length - x.1) aA.tz)) :: (nO lB (l.take x.1) x.2 ++ R)) (fun x => x.1 <= l.length /\ x.2.length = x.1) (fun x => l.length - x.1) (0, []) ⟨Nat.zero_le _, rfl⟩
 exact kp_; exact nw_
 ·rw [<- h0]; exact .refl _
 rintro ⟨i, ps⟩ ⟨hi, hps⟩
 dsimp only at hi hps |-
 by_cases hlt : i < l.length
 ·have hrs := fun p => acW jl aA.tz hlt hps p
  have hos := fun p => zD lB hlt hps p
  have hra : (l.map (aA.tw lo))[i]? = some (l[i].tw lo) := aM hlt
  have hbi := hb.2 _ (List.getElem_mem hlt)
  generalize l[i] = x at hrs hos hra hbi
  have hct := ze hst lo x hbi
  rw [show x.tw lo = [.bool x.block, .int .i64 x.params, .int .i64 x.slots, .sl lo 4 (x.instrs.map (ah.tw lo))] from rfl] at hra
  have hrow : (nR jl (l.take i) ps ++ List.replicate (l.length - i) aA.tz)[i]? = some [.bool false, .int .i64 0, .int .i64 0, .nils] := (hrs (0, 0)).1
  generalize nO lB (l.take i) ps = T at hos |-
  repeat' (first | refine W_ ?_ | ((with_reducible apply aG); rfl; kernel_rfl; (repeat (first | exact aF.nil | ((with_reducible apply aF.cons); rfl))); exact hG; exact hct; exact .nil _; intro y hy; refine bm ?_) | refine bE ?_)
  refine ag (i + 1, ps ++ [y]) ⟨by dsimp only; omega, by dsimp only; simp [hps]⟩ (by dsimp only; omega) (.of _ nw_ od_ ?_)
  dsimp only
  rw [hos y, <- (hrs y).2]
  exact tU _ _ T R
 ·obtain rfl : i = l.length := by omega
  rw [List.take_of_length_le (Nat.le_refl _), Nat.sub_self, List.replicate_zero, List.append_nil]
  repeat' refine W_ ?_
  exact av x_ rfl ((so, bo), ps) hps rfl (.cons _ _ _ _ (.app _ R)) (.refl _) (.tmp _ _ rfl) rfl
end
def jH (xs : List ByteArray) (sep : ByteArray) : ByteArray := ⟨(Lib.join (xs.map (·.data.toList)) sep.data.toList).toArray⟩
theorem adn {G : World -> Prop} (xs : List ByteArray) (sep : ByteArray) (hx : 0 < xs.length) (hN : xs.length <= 1048576) (hlen : (Lib.join (xs.map (·.data.toList)) sep.data.toList).length <= 140737488355328) : Ct Tryz.prog G 144 [.sl 0 1 (a8 xs), .str sep] (fun _ => .str (jH xs sep)) := fun w vs hp hG hsz hr => by
 obtain ⟨v, u, rfl, h1, h2⟩ := adM hsz hr
 rw [h2.str_inv]
 obtain ⟨A, c, rfl, g1, g2, g3, g4, g5⟩ := iC h1
 have hsl := aZ xs
 have hfl : ∀ j, (a8 xs).flatten[j]? = (xs[j]?).map TV.str := fun j => by rw [lU, List.getElem?_map]
 obtain ⟨b, q, u0, e1, _, e3, _⟩ := g5 0 (.str xs[0]) (by rw [hfl, List.getElem?_eq_getElem hx]; rfl)
 subst e1
 rw [hsl]
 refine (Tryz.strings_Join b q c xs sep w (fun j x hj => ?_) (li e3) (by omega) (by omega) hlen).mono ?_
 ·obtain ⟨b', q', u', e4, _, e5, e6⟩ := g5 j (.str x) (by rw [hfl, hj]; rfl)
  simp only [Option.some.injEq, Addr.mk.injEq, and_true] at e4
  obtain ⟨rfl, rfl⟩ := e4
  rw [e6.str_inv] at e5
  exact e5
 ·rintro e w' ⟨rfl, hb⟩
  exact ⟨_, rfl, hb, fun _ _ => .str _⟩
def fR (xs : List ByteArray) (sep : ByteArray) (k : Nat) : List UInt8 := Lib.join ((xs.take k).map (·.data.toList)) sep.data.toList
theorem pE (xs : List ByteArray) (sep : ByteArray) : fR xs sep 0 = [] := rfl
theorem tL {xs : List ByteArray} (sep : ByteArray) (h : 0 < xs.length) : fR xs sep 1 = xs[0].data.toList := by
 unfold fR
 rw [List.take_add_one, List.getElem?_eq_getElem h]
 simp [Lib.join_one]
theorem qg {xs : List ByteArray} {sep : ByteArray} {k : Nat} (h : k < xs.length) (hk : 0 < k) : fR xs sep (k + 1) = fR xs sep k ++ sep.data.toList ++ xs[k].data.toList := by
 unfold fR
 rw [List.take_add_one, List.getElem?_eq_getElem h]
 obtain ⟨x, r, hx⟩ : ∃ x r, xs.take k = x :: r := by
   cases hx : xs.take k with
   | nil => have h2 := congrArg List.length hx; rw [List.length_take] at h2; simp only [List.length_nil] at h2; omega
   | cons x r => exact ⟨x, r, rfl⟩
 rw [hx]
 simp [Lib.join_cons, Lib.joinTail, List.append_assoc]
theorem vF {G : World -> Prop} (xs : List ByteArray) (sep : ByteArray) (hs : sep.size <= 10) (hn : xs.length <= 1000) (hb : ∀ k, k <= xs.length -> (fR xs sep k).length <= 100000) (hx : ∀ x ∈ xs, ByteArray.size x <= 1000) : Ct Tryz.prog G 139 [.sl 0 1 (a8 xs), .str sep] (fun _ => .str (jH xs sep)) := by
 refine am Tryz.func139 rfl Tryz.ntmps139 rfl rfl fun w0 _ hG => ?_
 have hsl := aZ xs
 repeat' (first | refine W_ ?_ | (refine kQ ?_; intro ss bb) | refine c_ (fun hc => ?_) (fun hc => ?_) | refine g_ (fun hg => ?_) (fun hg => ?_))
 generalize ss = sa; generalize bb = b0
 apply ak (X := Nat × Nat) [0, 1] (fun x => [(5, .ms sa x.2 0 (fR xs sep x.1).length), (6, .int .i64 (x.1 : Int))]) (fun x => [(sa, x.2, .row 1 (jy (fR xs sep x.1)))]) (fun x => x.1 <= xs.length) (fun x => xs.length - x.1) (0, b0) (Nat.zero_le _)
 exact kp_; exact nw_
 ·exact .refl _
 rintro ⟨k, b1⟩ hk
 dsimp only at hk |-
 have hbk := hb k hk
 by_cases hlt : k < xs.length
 ·have hrow := dH hlt
  have hbn := hb (k + 1) (by omega)
  have hxk := hx _ (List.getElem_mem hlt)
  by_cases h0 : k = 0
  ·subst h0
   have hone := tL sep hlt
   generalize xs[0] = x at hrow hone hxk
   have hxl := aP x
   rw [pE]
   simp only [List.length_nil]
   rw [show (0 + 1 : Nat) = 1 from rfl, hone] at hbn
   repeat' (first | refine W_ ?_ | (refine acM ?_; intro bb) | refine c_ (fun hc => ?_) (fun hc => ?_) | refine g_ (fun hg => ?_) (fun hg => ?_))
   have hz : ([] : List UInt8) ++ x.data.toList = fR xs sep 1 := hone.symm
   have hzl : 0 + x.size = (fR xs sep 1).length := by rw [<- hz]; simp [hxl]
   rw [hz]
   exact ag (1, bb) (by dsimp only; omega) (by dsimp only; omega) (.of _ (dg.envCons (yI rfl hzl) (dg.envCons rfl dg.envNil)) od_ pk_)
  ·have hone := qg (sep := sep) hlt (by omega)
   generalize xs[k] = x at hrow hone hxk
   have hxl := aP x
   have hsl2 := aP sep
   have hlen : (fR xs sep k ++ sep.data.toList).length = (fR xs sep k).length + sep.size := by rw [List.length_append, hsl2]
   have hlen3 : (fR xs sep k).length + sep.size + x.size = (fR xs sep (k + 1)).length := by rw [hone]; simp only [List.length_append]; omega
   repeat' (first | refine W_ ?_ | (refine acM ?_; intro bb) | refine c_ (fun hc => ?_) (fun hc => ?_) | refine g_ (fun hg => ?_) (fun hg => ?_))
   rw [<- hone]
   exact ag (k + 1, bb) (by dsimp only; omega) (by dsimp only; omega) (.of _ (dg.envCons (yI rfl hlen3) (dg.envCons rfl dg.envNil)) od_ pk_)
 ·obtain rfl : k = xs.length := by omega
  have hfull : jH xs sep = ⟨(fR xs sep xs.length).toArray⟩ := by unfold jH fR; rw [List.take_of_length_le (Nat.le_refl _)]
  rw [hfull]
  repeat' (first | refine W_ ?_ | refine aej ?_ | refine c_ (fun hc => ?_) (fun hc => ?_) | refine g_ (fun hg => ?_) (fun hg => ?_))
  exact r1_
end Go.Proofs.YtofnnnpahglfdaaGreatDoor
