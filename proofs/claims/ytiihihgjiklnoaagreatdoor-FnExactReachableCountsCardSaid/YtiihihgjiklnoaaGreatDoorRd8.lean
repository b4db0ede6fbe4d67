/- Part 8 of the proof. -/
import Derived.Test.YtiihihgjiklnoaaGreatDoorRd3
import Derived.Test.YtiihihgjiklnoaaGreatDoorRd4
import Derived.Test.YtiihihgjiklnoaaGreatDoorRd2
set_option maxHeartbeats 2000000
set_option maxRecDepth 20000
namespace Go.Proofs.YtiihihgjiklnoaaGreatDoor
open Go Go.RowKit
mutual
def PT.tvs : PT -> List TV
 | .int k n => [.int k n]
 | .bool b => [.bool b]
 | .str s => [.str s]
 | .agg l => PT.tvsL l
 | .sl _ _ m l => [.sl 0 m (PT.rowsL l)]
def PT.tvsL : List PT -> List TV
 | [] => []
 | t :: r => PT.tvs t ++ PT.tvsL r
def PT.rowsL : List PT -> List (List TV)
 | [] => []
 | t :: r => PT.tvs t :: PT.rowsL r
end
theorem PT.rowsL_map (l : List PT) : PT.rowsL l = l.map PT.tvs := by
 induction l with
 | nil => rfl
 | cons t r ih => simp [PT.rowsL, ih]
theorem PT.rows_flat (l : List PT) : (PT.rowsL l).flatten = PT.tvsL l := by
 induction l with
 | nil => rfl
 | cons t r ih => simp [PT.rowsL, PT.tvsL, ih]
def xE (w : World) (ts : List TV) (vs : List Value) : Prop := ts.length = vs.length /\ (∀ t ∈ ts, t.isCell = true) /\ ∀ (i : Nat) (t : TV) (v : Value), ts[i]? = some t -> vs[i]? = some v -> Rep w [] t v
theorem xE.append {w : World} {a b : List TV} {x y : List Value} (h : xE w a x) (k : xE w b y) : xE w (a ++ b) (x ++ y) := by
 refine ⟨by simp [h.1, k.1], fun t ht => ?_, fun i t v ht hv => ?_⟩
 ·rcases List.mem_append.1 ht with ht | ht
  ·exact h.2.1 t ht
  ·exact k.2.1 t ht
 ·by_cases hi : i < a.length
  ·rw [List.getElem?_append_left hi] at ht
   rw [List.getElem?_append_left (by rw [<- h.1]; exact hi)] at hv
   exact h.2.2 i t v ht hv
  ·rw [List.getElem?_append_right (by omega)] at ht
   rw [List.getElem?_append_right (by rw [<- h.1]; omega)] at hv
   rw [<- h.1] at hv
   exact k.2.2 _ t v ht hv
theorem xE.one {w : World} {t : TV} {v : Value} (h : Rep w [] t v) (hc : t.isCell = true) : xE w [t] [v] := ⟨rfl, by simpa using hc, fun i u x hu hx => by
 cases i with
 | zero => simp at hu hx; subst hu; subst hx; exact h
 | succ i => simp at hu⟩
mutual
theorem aar (w : World) (S : Nat -> Prop) : ∀ t : PT, de w S t -> xE w t.tvs t.cells
 | .int k n, _ => .one (.int k n) rfl
 | .bool b, _ => .one (.bool b) rfl
 | .str s, _ => .one (.str s) rfl
 | .agg l, h => by
   simp only [PT.tvs, PT.cells]
   simp only [de] at h
   exact vL w S l h
 | .sl A c m l, h => by
   simp only [PT.tvs, PT.cells]
   simp only [de] at h
   obtain ⟨h1, h2, h3, h4, h5⟩ := h
   have h6 := vL w S l h5
   have hlen : (PT.rowsL l).length = l.length := by rw [PT.rowsL_map]; simp
   refine .one ?_ rfl
   have key : ∀ j, ∃ u, ∀ t, (PT.tvsL l)[j]? = some t -> ∃ b o, A = some ⟨b, o, none⟩ /\ w.cell? ⟨b, o + j, none⟩ = some u /\ Rep w [] t u := fun j => by
     cases hj : (PT.cellsL l)[j]? with
     | none =>
       refine ⟨undef, fun t ht => ?_⟩
       have : j < (PT.tvsL l).length := (List.getElem?_eq_some_iff.1 ht).1
       rw [h6.1] at this
       rw [List.getElem?_eq_getElem this] at hj; cases hj
     | some u =>
       refine ⟨u, fun t ht => ?_⟩
       obtain ⟨b, o, e1, _, e2⟩ := h3 j u hj
       exact ⟨b, o, e1, e2, h6.2.2 j t u ht hj⟩
   have hr := Rep.sl (w := w) (objs := []) 0 m (PT.rowsL l) A c (by omega) h2 (fun r hr => by
       rw [PT.rowsL_map] at hr
       obtain ⟨t, ht, rfl⟩ := List.mem_map.1 hr
       rw [<- h4 t ht]
       exact (qH w S l h5 t ht).1) (fun t ht => by rw [PT.rows_flat] at ht; exact h6.2.1 t ht) (fun j => Classical.choose (key j))
     (fun j t hj => by
       rw [PT.rows_flat] at hj
       obtain ⟨b, o, e1, e2, _⟩ := Classical.choose_spec (key j) t hj
       exact ⟨b, o, e1, p9 b, e2⟩)
     (fun j t hj => by
       rw [PT.rows_flat] at hj
       obtain ⟨b, o, _, _, e3⟩ := Classical.choose_spec (key j) t hj
       exact e3)
   rw [hlen] at hr
   exact hr
theorem vL (w : World) (S : Nat -> Prop) : ∀ l : List PT, bU w S l -> xE w (PT.tvsL l) (PT.cellsL l)
 | [], _ => ⟨rfl, by simp [PT.tvsL], by simp [PT.tvsL]⟩
 | t :: r, h => by
   simp only [PT.tvsL, PT.cellsL]
   simp only [bU] at h
   exact (aar w S t h.1).append (vL w S r h.2)
theorem qH (w : World) (S : Nat -> Prop) : ∀ l : List PT, bU w S l -> ∀ t ∈ l, xE w t.tvs t.cells
 | [], _, t, ht => by simp at ht
 | x :: r, h, t, ht => by
   simp only [bU] at h
   rcases List.mem_cons.1 ht with e | ht
   ·rw [e]; exact aar w S x h.1
   ·exact qH w S r h.2 t ht
end
theorem aP {α : Type} {p : α -> Prop} {l : List α} {i : Nat} (h : i < l.length) (ha : ∀ y ∈ l.take i, p y) (hx : p l[i]) : ∀ y ∈ l.take (i + 1), p y := fun y hy => by
 rw [List.take_add_one, List.getElem?_eq_getElem h] at hy
 rcases List.mem_append.1 hy with hy | hy
 ·exact ha y hy
 ·simp at hy; subst hy; exact hx
def dD {α : Type} (tw : α -> List TV) (z : List TV) (l : List α) (i : Nat) : List (List TV) := (l.take i).map tw ++ List.replicate (l.length - i) z
theorem ci {α : Type} (tw : α -> List TV) (z : List TV) (l : List α) : List.replicate l.length z = dD tw z l 0 := by simp [dD]
theorem cj {α : Type} (tw : α -> List TV) (z : List TV) (l : List α) : dD tw z l l.length = l.map tw := by simp [dD]
theorem cN {α : Type} (tw : α -> List TV) (z : List TV) {l : List α} {i : Nat} (h : i < l.length) : (dD tw z l i)[i]? = some z /\ (dD tw z l i).set i (tw l[i]) = dD tw z l (i + 1) := by
 have e : l.length - i = (l.length - (i + 1)) + 1 := by omega
 have hl : ((l.take i).map tw).length = i := by simp; omega
 unfold dD
 refine ⟨?_, ?_⟩
 ·rw [List.getElem?_append_right (by omega), hl, Nat.sub_self, e, List.replicate_succ]; rfl
 ·rw [List.set_append_right _ _ (by omega), hl, Nat.sub_self, e, List.replicate_succ, List.set_cons_zero, show l.take (i + 1) = l.take i ++ [l[i]] from by rw [List.take_add_one, List.getElem?_eq_getElem h]; rfl, List.map_append, List.append_assoc]
  rfl
def gA (B : Nat) (objs : aK) (K : Nat) (l l' : List TV) : Prop := l'.length = l.length /\ ∀ (j : Nat) (t t' : TV), l[j]? = some t -> l'[j]? = some t' -> Fin B objs K t t'
theorem gA.nil {B : Nat} {objs : aK} {K : Nat} : gA B objs K [] [] := ⟨rfl, by simp⟩
theorem gA.cons {B : Nat} {objs : aK} {K : Nat} {t t' : TV} {l l' : List TV} (h : Fin B objs K t t') (hr : gA B objs K l l') : gA B objs K (t :: l) (t' :: l') := ⟨by simp [hr.1], fun j u u' h1 h2 => by
 cases j with
 | zero => simp at h1 h2; subst h1; subst h2; exact h
 | succ j => exact hr.2 j u u' (by simpa using h1) (by simpa using h2)⟩
theorem gA.append {B : Nat} {objs : aK} {K : Nat} {a a' b b' : List TV} (h : gA B objs K a a') (k : gA B objs K b b') : gA B objs K (a ++ b) (a' ++ b') := ⟨by simp [h.1, k.1], fun j u u' h1 h2 => by
 by_cases hj : j < a.length
 ·rw [List.getElem?_append_left hj] at h1
  rw [List.getElem?_append_left (by rw [h.1]; exact hj)] at h2
  exact h.2 j u u' h1 h2
 ·rw [List.getElem?_append_right (by omega)] at h1
  rw [List.getElem?_append_right (by rw [h.1]; omega)] at h2
  rw [h.1] at h2
  exact k.2 _ u u' h1 h2⟩
theorem gA.rows {α : Type} {B : Nat} {objs : aK} {K : Nat} {f f' : α -> List TV} (h : ∀ x, gA B objs K (f x) (f' x)) : ∀ l : List α, gA B objs K (l.map f).flatten (l.map f').flatten
 | [] => .nil
 | x :: r => by simpa using (h x).append (gA.rows h r)
theorem gA.lens {α : Type} {f f' : α -> List TV} (h : ∀ x, (f' x).length = (f x).length) (l : List α) : (l.map f').map List.length = (l.map f).map List.length := by
 induction l with
 | nil => rfl
 | cons x r ih => simpa [h x] using ih
theorem bW {α : Type} {B : Nat} {objs : aK} {K m : Nat} {f f' : α -> List TV} (h : ∀ x, gA B objs K (f x) (f' x)) (l : List α) : Fin B objs K (.sl B m (l.map f)) (.sl K m (l.map f')) :=
 .sl B m _ _ (Nat.le_refl _) (gA.lens (fun x => (h x).1) l) (gA.rows h l).2
theorem fg {α : Type} {B : Nat} {objs : aK} {K s b m : Nat} {f f' : α -> List TV} (h : ∀ x, gA B objs K (f x) (f' x)) {l : List α} (hm : (s, b, bj.row m (l.map f)) ∈ objs) : Fin B objs K (.ms s b 0 l.length) (.sl K m (l.map f')) :=
 .ms s b 0 l.length m _ (l.map f) _ hm (by simp) (by rw [List.drop_zero, List.take_of_length_le (by simp)]) (gA.lens (fun x => (h x).1) l) (gA.rows h l).2
theorem dK {B : Nat} {objs : aK} {K : Nat} {l l' : List TV} (h : gA B objs K l l') : Fin B objs K (.agg l) (.agg l') := .agg l l' h.1 h.2
theorem dz {l : List ByteArray} {i : Nat} (h : i < l.length) : (cL l)[i]? = some [.str l[i]] := aE h
theorem bL (l : List ByteArray) : (cL l).length = l.length := by simp [cL]
section
variable {G : World -> Prop}
theorem j3 (lo : Nat) (l : List ByteArray) (left : Int) (h : 0 <= left /\ left <= 1048576) (hb : l.length <= 9223372036854775807 /\ ∀ y ∈ l, ByteArray.size y <= 9223372036854775807) : CtM Tryz.prog G 158 [.sl lo 1 (cL l), .int .i64 left] [] (fun y : Int => -1 <= y /\ y <= left /\ (0 <= y -> l.length <= 1048576 /\ ∀ y ∈ l, ByteArray.size y <= 1048576)) (fun _ => []) (fun y => .int .i64 y) := by
 refine aJ Tryz.func158 rfl Tryz.ntmps158 rfl rfl rfl fun w0 R gs objsR hG hR => ?_
 obtain rfl := hR.inv0
 clear hR
 have hlen := bL l
 have hl1 := hb.1
 by_cases hn : left - l.length < 0
 ·repeat' refine W_ ?_
  exact aG x_ rfl (-1) ⟨by omega, by omega, fun h => by omega⟩ rfl (.nil R) (.refl _) (.tmp _ _ rfl) rfl
 ·repeat' refine W_ ?_
  apply am (X := Nat × Int) [0, 1000000] (fun x => [(5, .int .i64 (x.1 : Int)), (1, .int .i64 x.2)]) (fun _ => R) (fun x => x.1 <= l.length /\ 0 <= x.2 /\ x.2 <= left /\ ∀ y ∈ l.take x.1, ByteArray.size y <= 1048576) (fun x => l.length - x.1) (0, left - l.length) ⟨Nat.zero_le _, by dsimp only; omega, by dsimp only; omega, by simp⟩
  exact kp_; exact nw_
  ·exact .refl _
  rintro ⟨i, lf⟩ ⟨hi, h0, h1, hs⟩
  dsimp only at hi h0 h1 hs |-
  by_cases hlt : i < l.length
  ·have hrow := dz hlt
   have hbi := hb.2 _ (List.getElem_mem hlt)
   have hta := aP (p := fun y => ByteArray.size y <= 1048576) hlt hs
   generalize l[i] = x at hrow hbi hta
   repeat' (first | refine W_ ?_ | refine c_ (fun hc => ?_) (fun hc => ?_))
   all_goals first
     | exact aG x_ rfl (-1) ⟨by omega, by omega, fun h => by omega⟩ rfl (.nil R) (.refl _) (.tmp _ _ rfl) rfl
     | exact ah (i + 1, lf - x.size) ⟨by dsimp only; omega, by dsimp only; omega, by dsimp only; omega, hta (by omega)⟩ (by dsimp only; omega) (.of _ nw_ od_ pk_)
  ·rw [List.take_of_length_le (by omega)] at hs
   repeat' refine W_ ?_
   exact aG x_ rfl lf ⟨by omega, by omega, fun _ => ⟨by omega, hs⟩⟩ rfl (.nil R) (.refl _) (.tmp _ _ rfl) rfl
theorem j1 (_hst : ay G) (lo : Nat) (l : List ByteArray) (hn : l.length <= 1048576) : Ct Tryz.prog G 174 [.sl lo 1 (cL l)] (fun K => .sl K 1 (cL l)) := by
 refine ak Tryz.func174 rfl Tryz.ntmps174 rfl rfl fun w0 _ hG => ?_
 have hlen := bL l
 have h0 := ci (fun s : ByteArray => [TV.str s]) [.str ⟨#[]⟩] l
 repeat' (first | refine W_ ?_ | (refine fh ?_; intro ss bb))
 apply am (X := Nat) [0, 3] (fun i => [(4, .int .i64 (i : Int))]) (fun i => [(ss, bb, .row 1 (dD (fun s : ByteArray => [TV.str s]) [.str ⟨#[]⟩] l i))]) (fun i => i <= l.length) (fun i => l.length - i) 0 (Nat.zero_le _)
 exact kp_; exact nw_
 ·rw [<- h0]; exact .refl _
 intro i hi
 try dsimp only
 by_cases hlt : i < l.length
 ·obtain ⟨hrow, hset⟩ := cN (fun s : ByteArray => [TV.str s]) [.str ⟨#[]⟩] hlt
  have hra := dz hlt
  generalize l[i] = x at hset hra
  try dsimp only at hset
  repeat' (first | refine W_ ?_ | refine bE ?_)
  refine ah (i + 1) (by omega) (by omega) (.of _ nw_ od_ (by rw [<- hset]; exact .refl _))
 ·obtain rfl : i = l.length := by omega
  rw [cj]
  repeat' refine W_ ?_
  refine aA x_ rfl (.tmp _ _ rfl) (fun _ => ?_)
  exact fg (fun x => .cons (.flat rfl) .nil) List.mem_cons_self
theorem jZ (l1 l2 : Nat) (l : List ByteArray) (hn : l.length <= 1048576) : Ct Tryz.prog G 27 [.sl l1 1 (cL l), .sl l2 1 (cL l)] (fun _ => .bool true) := by
 refine ak Tryz.func27 rfl Tryz.ntmps27 rfl rfl fun w0 _ hG => ?_
 have hlen := bL l
 repeat' refine W_ ?_
 apply am (X := Nat) [0, 1] (fun i => [(5, .int .i64 (i : Int))]) (fun _ => []) (fun i => i <= l.length) (fun i => l.length - i) 0 (Nat.zero_le _)
 exact kp_; exact nw_
 ·exact .refl _
 intro i hi
 try dsimp only
 by_cases hlt : i < l.length
 ·have hrow := dz hlt
  generalize l[i] = x at hrow
  have hx : ¬ x ≠ x := fun h => h rfl
  repeat' refine V_ ?_
  exact ah (i + 1) (by omega) (by omega) (.of _ nw_ od_ pk_)
 ·repeat' refine W_ ?_
  exact r1_
end
def ai.tw (_lo : Nat) (x : ai) : List TV := [.int .i64 x.op, .int .i64 x.a, .int .i64 x.b, .str x.text]
def ai.small (n : Nat) (x : ai) : Prop := (x.text.size <= n)
def ai.tz : List TV := [.int .i64 0, .int .i64 0, .int .i64 0, .str ⟨#[]⟩]
theorem ai.fin (B K : Nat) (objs : aK) (x : ai) : gA B objs K (x.tw B) (x.tw K) := .cons (.flat rfl) (.cons (.flat rfl) (.cons (.flat rfl) (.cons (.flat rfl) (.nil))))
theorem ai.len (lo : Nat) (l : List ai) : (l.map (ai.tw lo)).length = l.length := by simp
section
variable {G : World -> Prop}
theorem uu (_hst : ay G) (lo : Nat) (x : ai) (left : Int) (h : 0 <= left /\ left <= 1048576) (hb : x.small 9223372036854775807) : CtM Tryz.prog G 251 [.agg (x.tw lo), .int .i64 left] [] (fun y : Int => -1 <= y /\ y <= left /\ (0 <= y -> x.small 1048576)) (fun _ => []) (fun y => .int .i64 y) := by
 refine aJ Tryz.func251 rfl Tryz.ntmps251 rfl rfl rfl fun w0 R gs objsR hG hR => ?_
 obtain rfl := hR.inv0
 clear hR
 unfold ai.small at hb
 have hb1 : x.text.size <= 9223372036854775807 := hb
 unfold ai.tw
 repeat' (first | refine W_ ?_ | refine aF ?_ | refine c_ (fun hc => ?_) (fun hc => ?_))
 all_goals first
   | exact aG x_ rfl (-1) ⟨by omega, by omega, fun h => by omega⟩ rfl (.nil R) (.refl _) (.tmp _ _ rfl) rfl
   | (refine aG x_ rfl _ ⟨?_, ?_, fun _ => ?_⟩ rfl (.nil R) (.refl _) (.tmp _ _ rfl) rfl
      ·omega
      ·omega
      ·show _ <= _; omega)
theorem rW (hst : ay G) (lo : Nat) (l : List ai) (left : Int) (h : 0 <= left /\ left <= 1048576) (hb : l.length <= 9223372036854775807 /\ ∀ y ∈ l, ai.small 9223372036854775807 y) : CtM Tryz.prog G 198 [.sl lo 4 (l.map (ai.tw lo)), .int .i64 left] [] (fun y : Int => -1 <= y /\ y <= left /\ (0 <= y -> l.length <= 1048576 /\ ∀ y ∈ l, ai.small 1048576 y)) (fun _ => []) (fun y => .int .i64 y) := by
 refine aJ Tryz.func198 rfl Tryz.ntmps198 rfl rfl rfl fun w0 R gs objsR hG hR => ?_
 obtain rfl := hR.inv0
 clear hR
 have hlen := ai.len lo l
 have hl1 := hb.1
 by_cases hn : left - l.length < 0
 ·repeat' refine W_ ?_
  exact aG x_ rfl (-1) ⟨by omega, by omega, fun h => by omega⟩ rfl (.nil R) (.refl _) (.tmp _ _ rfl) rfl
 ·repeat' refine W_ ?_
  apply am (X := Nat × Int) [0, 1000000] (fun x => [(5, .int .i64 (x.1 : Int)), (1, .int .i64 x.2)]) (fun _ => R) (fun x => x.1 <= l.length /\ 0 <= x.2 /\ x.2 <= left /\ ∀ y ∈ l.take x.1, ai.small 1048576 y) (fun x => l.length - x.1) (0, left - l.length) ⟨Nat.zero_le _, by dsimp only; omega, by dsimp only; omega, by simp⟩
  exact kp_; exact nw_
  ·exact .refl _
  rintro ⟨i, lf⟩ ⟨hi, h0, h1, hs⟩
  dsimp only at hi h0 h1 hs |-
  by_cases hlt : i < l.length
  ·have hrow : (l.map (ai.tw lo))[i]? = some (l[i].tw lo) := aE hlt
   have hbi := hb.2 _ (List.getElem_mem hlt)
   have hta := aP (p := ai.small 1048576) hlt hs
   generalize l[i] = x at hrow hbi hta
   have hct := uu hst lo x lf (by omega) hbi
   unfold ai.tw at hct
   rw [show x.tw lo = [.int .i64 x.op, .int .i64 x.a, .int .i64 x.b, .str x.text] from rfl] at hrow
   repeat' (first | refine W_ ?_ | ((with_reducible apply az); rfl; kernel_rfl; (repeat (first | exact aw.nil | ((with_reducible apply aw.cons); rfl))); exact hG; exact hct; exact .nil _; intro y hy; refine bv ?_) | refine c_ (fun hc => ?_) (fun hc => ?_))
   all_goals first
     | exact aG x_ rfl (-1) ⟨by omega, by omega, fun h => by omega⟩ rfl (.nil R) (.refl _) (.tmp _ _ rfl) rfl
     | exact ah (i + 1, y) ⟨by dsimp only; omega, by dsimp only; omega, by dsimp only; omega, hta (hy.2.2 (by omega))⟩ (by dsimp only; omega) (.of _ nw_ od_ pk_)
  ·rw [List.take_of_length_le (by omega)] at hs
   repeat' refine W_ ?_
   exact aG x_ rfl lf ⟨by omega, by omega, fun _ => ⟨by omega, hs⟩⟩ rfl (.nil R) (.refl _) (.tmp _ _ rfl) rfl
theorem uS (_hst : ay G) (lo : Nat) (x : ai) (_hb : x.small 1048576) : Ct Tryz.prog G 262 [.agg (x.tw lo)] (fun K => .agg (x.tw K)) := by
 refine ak Tryz.func262 rfl Tryz.ntmps262 rfl rfl fun w0 _ hG => ?_
 unfold ai.small at _hb
 skip
 repeat' (first | refine W_ ?_ | refine aF ?_ | (refine aj ?_; intro ss bb) | refine ad ?_)
 refine aA x_ rfl (.cell _ _ _ _ _ rfl mm_ (by kernel_rfl) (by kernel_rfl) (by kernel_rfl)) (fun _ => ?_)
 exact dK (ai.fin _ _ _ x)
theorem re (hst : ay G) (lo : Nat) (l : List ai) (hb : l.length <= 1048576 /\ ∀ y ∈ l, ai.small 1048576 y) : Ct Tryz.prog G 208 [.sl lo 4 (l.map (ai.tw lo))] (fun K => .sl K 4 (l.map (ai.tw K))) := by
 refine ak Tryz.func208 rfl Tryz.ntmps208 rfl rfl fun w0 _ hG => ?_
 have hlen := ai.len lo l
 have hl1 := hb.1
 have h0 := ci (ai.tw w0.heap.size) ai.tz l
 repeat' (first | refine W_ ?_ | (refine fh ?_; intro ss bb))
 apply am (X := Nat) [0, 3] (fun i => [(4, .int .i64 (i : Int))]) (fun i => [(ss, bb, .row 4 (dD (ai.tw w0.heap.size) ai.tz l i))]) (fun i => i <= l.length) (fun i => l.length - i) 0 (Nat.zero_le _)
 exact kp_; exact nw_
 ·rw [<- h0]; exact .refl _
 intro i hi
 try dsimp only
 by_cases hlt : i < l.length
 ·obtain ⟨hrow, hset⟩ := cN (ai.tw w0.heap.size) ai.tz hlt
  have hra : (l.map (ai.tw lo))[i]? = some (l[i].tw lo) := aE hlt
  have hbi := hb.2 _ (List.getElem_mem hlt)
  generalize l[i] = x at hset hra hbi
  have hct := uS hst lo x hbi
  unfold ai.tw at hct
  rw [show x.tw lo = [.int .i64 x.op, .int .i64 x.a, .int .i64 x.b, .str x.text] from rfl] at hra
  replace hrow : (dD (ai.tw w0.heap.size) ai.tz l i)[i]? = some [.int .i64 0, .int .i64 0, .int .i64 0, .str ⟨#[]⟩] := hrow
  repeat' (first | refine W_ ?_ | refine ac hG hst (hct) ?_ | refine bE ?_)
  refine ah (i + 1) (by omega) (by omega) (.of _ nw_ od_ (by rw [<- hset]; exact .refl _))
 ·obtain rfl : i = l.length := by omega
  rw [cj]
  repeat' refine W_ ?_
  refine aA x_ rfl (.tmp _ _ rfl) (fun _ => ?_)
  exact fg (fun x => ai.fin _ _ _ x) List.mem_cons_self
theorem tO (_hst : ay G) (l1 l2 : Nat) (x : ai) (_hb : x.small 1048576) : Ct Tryz.prog G 272 [.agg (x.tw l1), .agg (x.tw l2)] (fun _ => .bool true) := by
 refine ak Tryz.func272 rfl Tryz.ntmps272 rfl rfl fun w0 _ hG => ?_
 unfold ai.small at _hb
 have hnetext : ¬ x.text ≠ x.text := fun h => h rfl
 unfold ai.tw
 repeat' (first | refine W_ ?_ | refine aF ?_)
 all_goals first
   | (exfalso; simp at hc; done)
   | (exact r1_)
theorem sj (hst : ay G) (l1 l2 : Nat) (l : List ai) (hb : l.length <= 1048576 /\ ∀ y ∈ l, ai.small 1048576 y) : Ct Tryz.prog G 225 [.sl l1 4 (l.map (ai.tw l1)), .sl l2 4 (l.map (ai.tw l2))] (fun _ => .bool true) := by
 refine ak Tryz.func225 rfl Tryz.ntmps225 rfl rfl fun w0 _ hG => ?_
 have hlen := ai.len l1 l
 have hlen2 := ai.len l2 l
 have hl1 := hb.1
 repeat' refine W_ ?_
 apply am (X := Nat) [0, 1] (fun i => [(5, .int .i64 (i : Int))]) (fun _ => []) (fun i => i <= l.length) (fun i => l.length - i) 0 (Nat.zero_le _)
 exact kp_; exact nw_
 ·exact .refl _
 intro i hi
 try dsimp only
 by_cases hlt : i < l.length
 ·have hr1 : (l.map (ai.tw l1))[i]? = some (l[i].tw l1) := aE hlt
  have hr2 : (l.map (ai.tw l2))[i]? = some (l[i].tw l2) := aE hlt
  have hbi := hb.2 _ (List.getElem_mem hlt)
  generalize l[i] = x at hr1 hr2 hbi
  have hct := tO hst l1 l2 x hbi
  unfold ai.tw at hct
  rw [show x.tw l1 = [.int .i64 x.op, .int .i64 x.a, .int .i64 x.b, .str x.text] from rfl] at hr1
  rw [show x.tw l2 = [.int .i64 x.op, .int .i64 x.a, .int .i64 x.b, .str x.text] from rfl] at hr2
  repeat' (first | refine V_ ?_ | refine ae hG hst (hct) ?_)
  exact ah (i + 1) (by omega) (by omega) (.of _ nw_ od_ pk_)
 ·repeat' refine W_ ?_
  exact r1_
end
def au.tw (lo : Nat) (x : au) : List TV := [.bool x.block, .int .i64 x.params, .int .i64 x.slots, .sl lo 4 (x.instrs.map (ai.tw lo))]
def au.small (n : Nat) (x : au) : Prop := (x.instrs.length <= n /\ ∀ y ∈ x.instrs, ai.small n y)
def au.tz : List TV := [.bool false, .int .i64 0, .int .i64 0, .nils]
theorem au.fin (B K : Nat) (objs : aK) (x : au) : gA B objs K (x.tw B) (x.tw K) := .cons (.flat rfl) (.cons (.flat rfl) (.cons (.flat rfl) (.cons (bW (fun x => ai.fin B K objs x) _) (.nil))))
theorem au.len (lo : Nat) (l : List au) : (l.map (au.tw lo)).length = l.length := by simp
section
variable {G : World -> Prop}
theorem xg (hst : ay G) (lo : Nat) (x : au) (left : Int) (h : 0 <= left /\ left <= 1048576) (hb : x.small 9223372036854775807) : CtM Tryz.prog G 123 [.agg (x.tw lo), .int .i64 left] [] (fun y : Int => -1 <= y /\ y <= left /\ (0 <= y -> x.small 1048576)) (fun _ => []) (fun y => .int .i64 y) := by
 refine aJ Tryz.func123 rfl Tryz.ntmps123 rfl rfl rfl fun w0 R gs objsR hG hR => ?_
 obtain rfl := hR.inv0
 clear hR
 unfold au.small at hb
 skip
 unfold au.tw
 repeat' (first | refine W_ ?_ | refine aF ?_ | ((with_reducible apply az); rfl; kernel_rfl; (repeat (first | exact aw.nil | ((with_reducible apply aw.cons); rfl))); exact hG; exact rW hst lo x.instrs _ (by omega) hb; exact .nil _; intro y1 hy1; refine bv ?_) | refine c_ (fun hc => ?_) (fun hc => ?_))
 all_goals first
   | exact aG x_ rfl (-1) ⟨by omega, by omega, fun h => by omega⟩ rfl (.nil R) (.refl _) (.tmp _ _ rfl) rfl
   | (refine aG x_ rfl _ ⟨?_, ?_, fun _ => ?_⟩ rfl (.nil R) (.refl _) (.tmp _ _ rfl) rfl
      ·omega
      ·omega
      ·exact hy1.2.2 (by omega))
theorem uY (hst : ay G) (lo : Nat) (l : List au) (left : Int) (h : 0 <= left /\ left <= 1048576) (hb : l.length <= 9223372036854775807 /\ ∀ y ∈ l, au.small 9223372036854775807 y) : CtM Tryz.prog G 46 [.sl lo 4 (l.map (au.tw lo)), .int .i64 left] [] (fun y : Int => -1 <= y /\ y <= left /\ (0 <= y -> l.length <= 1048576 /\ ∀ y ∈ l, au.small 1048576 y)) (fun _ => []) (fun y => .int .i64 y) := by
 refine aJ Tryz.func46 rfl Tryz.ntmps46 rfl rfl rfl fun w0 R gs objsR hG hR => ?_
 obtain rfl := hR.inv0
 clear hR
 have hlen := au.len lo l
 have hl1 := hb.1
 by_cases hn : left - l.length < 0
 ·repeat' refine W_ ?_
  exact aG x_ rfl (-1) ⟨by omega, by omega, fun h => by omega⟩ rfl (.nil R) (.refl _) (.tmp _ _ rfl) rfl
 ·repeat' refine W_ ?_
  apply am (X := Nat × Int) [0, 1000000] (fun x => [(5, .int .i64 (x.1 : Int)), (1, .int .i64 x.2)]) (fun _ => R) (fun x => x.1 <= l.length /\ 0 <= x.2 /\ x.2 <= left /\ ∀ y ∈ l.take x.1, au.small 1048576 y) (fun x => l.length - x.1) (0, left - l.length) ⟨Nat.zero_le _, by dsimp only; omega, by dsimp only; omega, by simp⟩
  exact kp_; exact nw_
  ·exact .refl _
  rintro ⟨i, lf⟩ ⟨hi, h0, h1, hs⟩
  dsimp only at hi h0 h1 hs |-
  by_cases hlt : i < l.length
  ·have hrow : (l.map (au.tw lo))[i]? = some (l[i].tw lo) := aE hlt
   have hbi := hb.2 _ (List.getElem_mem hlt)
   have hta := aP (p := au.small 1048576) hlt hs
   generalize l[i] = x at hrow hbi hta
   have hct := xg hst lo x lf (by omega) hbi
   unfold au.tw at hct
   rw [show x.tw lo = [.bool x.block, .int .i64 x.params, .int .i64 x.slots, .sl lo 4 (x.instrs.map (ai.tw lo))] from rfl] at hrow
   repeat' (first | refine W_ ?_ | ((with_reducible apply az); rfl; kernel_rfl; (repeat (first | exact aw.nil | ((with_reducible apply aw.cons); rfl))); exact hG; exact hct; exact .nil _; intro y hy; refine bv ?_) | refine c_ (fun hc => ?_) (fun hc => ?_))
   all_goals first
     | exact aG x_ rfl (-1) ⟨by omega, by omega, fun h => by omega⟩ rfl (.nil R) (.refl _) (.tmp _ _ rfl) rfl
     | exact ah (i + 1, y) ⟨by dsimp only; omega, by dsimp only; omega, by dsimp only; omega, hta (hy.2.2 (by omega))⟩ (by dsimp only; omega) (.of _ nw_ od_ pk_)
  ·rw [List.take_of_length_le (by omega)] at hs
   repeat' refine W_ ?_
   exact aG x_ rfl lf ⟨by omega, by omega, fun _ => ⟨by omega, hs⟩⟩ rfl (.nil R) (.refl _) (.tmp _ _ rfl) rfl
theorem vv (hst : ay G) (lo : Nat) (x : au) (hb : x.small 1048576) : Ct Tryz.prog G 132 [.agg (x.tw lo)] (fun K => .agg (x.tw K)) := by
 refine ak Tryz.func132 rfl Tryz.ntmps132 rfl rfl fun w0 _ hG => ?_
 unfold au.small at hb
 have hsinstrs := hb
 repeat' (first | refine W_ ?_ | refine aF ?_ | (refine aj ?_; intro ss bb) | refine ad ?_ | refine ac hG hst (re hst lo x.instrs (hsinstrs)) ?_)
 refine aA x_ rfl (.cell _ _ _ _ _ rfl mm_ (by kernel_rfl) (by kernel_rfl) (by kernel_rfl)) (fun _ => ?_)
 exact dK (au.fin _ _ _ x)
theorem uq (hst : ay G) (lo : Nat) (l : List au) (hb : l.length <= 1048576 /\ ∀ y ∈ l, au.small 1048576 y) : Ct Tryz.prog G 52 [.sl lo 4 (l.map (au.tw lo))] (fun K => .sl K 4 (l.map (au.tw K))) := by
 refine ak Tryz.func52 rfl Tryz.ntmps52 rfl rfl fun w0 _ hG => ?_
 have hlen := au.len lo l
 have hl1 := hb.1
 have h0 := ci (au.tw w0.heap.size) au.tz l
 repeat' (first | refine W_ ?_ | (refine fh ?_; intro ss bb))
 apply am (X := Nat) [0, 3] (fun i => [(4, .int .i64 (i : Int))]) (fun i => [(ss, bb, .row 4 (dD (au.tw w0.heap.size) au.tz l i))]) (fun i => i <= l.length) (fun i => l.length - i) 0 (Nat.zero_le _)
 exact kp_; exact nw_
 ·rw [<- h0]; exact .refl _
 intro i hi
 try dsimp only
 by_cases hlt : i < l.length
 ·obtain ⟨hrow, hset⟩ := cN (au.tw w0.heap.size) au.tz hlt
  have hra : (l.map (au.tw lo))[i]? = some (l[i].tw lo) := aE hlt
  have hbi := hb.2 _ (List.getElem_mem hlt)
  generalize l[i] = x at hset hra hbi
  have hct := vv hst lo x hbi
  unfold au.tw at hct
  rw [show x.tw lo = [.bool x.block, .int .i64 x.params, .int .i64 x.slots, .sl lo 4 (x.instrs.map (ai.tw lo))] from rfl] at hra
  replace hrow : (dD (au.tw w0.heap.size) au.tz l i)[i]? = some [.bool false, .int .i64 0, .int .i64 0, .nils] := hrow
  repeat' (first | refine W_ ?_ | refine ac hG hst (hct) ?_ | refine bE ?_)
  refine ah (i + 1) (by omega) (by omega) (.of _ nw_ od_ (by rw [<- hset]; exact .refl _))
 ·obtain rfl : i = l.length := by omega
  rw [cj]
  repeat' refine W_ ?_
  refine aA x_ rfl (.tmp _ _ rfl) (fun _ => ?_)
  exact fg (fun x => au.fin _ _ _ x) List.mem_cons_self
theorem vF (hst : ay G) (l1 l2 : Nat) (x : au) (hb : x.small 1048576) : Ct Tryz.prog G 147 [.agg (x.tw l1), .agg (x.tw l2)] (fun _ => .bool true) := by
 refine ak Tryz.func147 rfl Tryz.ntmps147 rfl rfl fun w0 _ hG => ?_
 unfold au.small at hb
 have hsinstrs := hb
 unfold au.tw
 repeat' (first | refine W_ ?_ | refine aF ?_ | refine ac hG hst (sj hst l1 l2 x.instrs hsinstrs) ?_ | refine c_ (fun hc => ?_) (fun hc => ?_))
 all_goals first
   | (exfalso; simp at hc; done)
   | (exact r1_)
theorem tR (hst : ay G) (l1 l2 : Nat) (l : List au) (hb : l.length <= 1048576 /\ ∀ y ∈ l, au.small 1048576 y) : Ct Tryz.prog G 63 [.sl l1 4 (l.map (au.tw l1)), .sl l2 4 (l.map (au.tw l2))] (fun _ => .bool true) := by
 refine ak Tryz.func63 rfl Tryz.ntmps63 rfl rfl fun w0 _ hG => ?_
 have hlen := au.len l1 l
 have hlen2 := au.len l2 l
 have hl1 := hb.1
 repeat' refine W_ ?_
 apply am (X := Nat) [0, 1] (fun i => [(5, .int .i64 (i : Int))]) (fun _ => []) (fun i => i <= l.length) (fun i => l.length - i) 0 (Nat.zero_le _)
 exact kp_; exact nw_
 ·exact .refl _
 intro i hi
 try dsimp only
 by_cases hlt : i < l.length
 ·have hr1 : (l.map (au.tw l1))[i]? = some (l[i].tw l1) := aE hlt
  have hr2 : (l.map (au.tw l2))[i]? = some (l[i].tw l2) := aE hlt
  have hbi := hb.2 _ (List.getElem_mem hlt)
  generalize l[i] = x at hr1 hr2 hbi
  have hct := vF hst l1 l2 x hbi
  unfold au.tw at hct
  rw [show x.tw l1 = [.bool x.block, .int .i64 x.params, .int .i64 x.slots, .sl l1 4 (x.instrs.map (ai.tw l1))] from rfl] at hr1
  rw [show x.tw l2 = [.bool x.block, .int .i64 x.params, .int .i64 x.slots, .sl l2 4 (x.instrs.map (ai.tw l2))] from rfl] at hr2
  repeat' (first | refine V_ ?_ | refine ae hG hst (hct) ?_)
  exact ah (i + 1) (by omega) (by omega) (.of _ nw_ od_ pk_)
 ·repeat' refine W_ ?_
  exact r1_
end
def aB.tw (_lo : Nat) (x : aB) : List TV := [.int .i64 x.owner, .bool x.class_, .str x.selector, .int .i64 x.code]
def aB.small (n : Nat) (x : aB) : Prop := (x.selector.size <= n)
def aB.tz : List TV := [.int .i64 0, .bool false, .str ⟨#[]⟩, .int .i64 0]
theorem aB.fin (B K : Nat) (objs : aK) (x : aB) : gA B objs K (x.tw B) (x.tw K) := .cons (.flat rfl) (.cons (.flat rfl) (.cons (.flat rfl) (.cons (.flat rfl) (.nil))))
theorem aB.len (lo : Nat) (l : List aB) : (l.map (aB.tw lo)).length = l.length := by simp
section
variable {G : World -> Prop}
theorem uR (_hst : ay G) (lo : Nat) (x : aB) (left : Int) (h : 0 <= left /\ left <= 1048576) (hb : x.small 9223372036854775807) : CtM Tryz.prog G 124 [.agg (x.tw lo), .int .i64 left] [] (fun y : Int => -1 <= y /\ y <= left /\ (0 <= y -> x.small 1048576)) (fun _ => []) (fun y => .int .i64 y) := by
 refine aJ Tryz.func124 rfl Tryz.ntmps124 rfl rfl rfl fun w0 R gs objsR hG hR => ?_
 obtain rfl := hR.inv0
 clear hR
 unfold aB.small at hb
 have hb1 : x.selector.size <= 9223372036854775807 := hb
 unfold aB.tw
 repeat' (first | refine W_ ?_ | refine aF ?_ | refine c_ (fun hc => ?_) (fun hc => ?_))
 all_goals first
   | exact aG x_ rfl (-1) ⟨by omega, by omega, fun h => by omega⟩ rfl (.nil R) (.refl _) (.tmp _ _ rfl) rfl
   | (refine aG x_ rfl _ ⟨?_, ?_, fun _ => ?_⟩ rfl (.nil R) (.refl _) (.tmp _ _ rfl) rfl
      ·omega
      ·omega
      ·show _ <= _; omega)
theorem rY (hst : ay G) (lo : Nat) (l : List aB) (left : Int) (h : 0 <= left /\ left <= 1048576) (hb : l.length <= 9223372036854775807 /\ ∀ y ∈ l, aB.small 9223372036854775807 y) : CtM Tryz.prog G 47 [.sl lo 4 (l.map (aB.tw lo)), .int .i64 left] [] (fun y : Int => -1 <= y /\ y <= left /\ (0 <= y -> l.length <= 1048576 /\ ∀ y ∈ l, aB.small 1048576 y)) (fun _ => []) (fun y => .int .i64 y) := by
 refine aJ Tryz.func47 rfl Tryz.ntmps47 rfl rfl rfl fun w0 R gs objsR hG hR => ?_
 obtain rfl := hR.inv0
 clear hR
 have hlen := aB.len lo l
 have hl1 := hb.1
 by_cases hn : left - l.length < 0
 ·repeat' refine W_ ?_
  exact aG x_ rfl (-1) ⟨by omega, by omega, fun h => by omega⟩ rfl (.nil R) (.refl _) (.tmp _ _ rfl) rfl
 ·repeat' refine W_ ?_
  apply am (X := Nat × Int) [0, 1000000] (fun x => [(5, .int .i64 (x.1 : Int)), (1, .int .i64 x.2)]) (fun _ => R) (fun x => x.1 <= l.length /\ 0 <= x.2 /\ x.2 <= left /\ ∀ y ∈ l.take x.1, aB.small 1048576 y) (fun x => l.length - x.1) (0, left - l.length) ⟨Nat.zero_le _, by dsimp only; omega, by dsimp only; omega, by simp⟩
  exact kp_; exact nw_
  ·exact .refl _
  rintro ⟨i, lf⟩ ⟨hi, h0, h1, hs⟩
  dsimp only at hi h0 h1 hs |-
  by_cases hlt : i < l.length
  ·have hrow : (l.map (aB.tw lo))[i]? = some (l[i].tw lo) := aE hlt
   have hbi := hb.2 _ (List.getElem_mem hlt)
   have hta := aP (p := aB.small 1048576) hlt hs
   generalize l[i] = x at hrow hbi hta
   have hct := uR hst lo x lf (by omega) hbi
   unfold aB.tw at hct
   rw [show x.tw lo = [.int .i64 x.owner, .bool x.class_, .str x.selector, .int .i64 x.code] from rfl] at hrow
   repeat' (first | refine W_ ?_ | ((with_reducible apply az); rfl; kernel_rfl; (repeat (first | exact aw.nil | ((with_reducible apply aw.cons); rfl))); exact hG; exact hct; exact .nil _; intro y hy; refine bv ?_) | refine c_ (fun hc => ?_) (fun hc => ?_))
   all_goals first
     | exact aG x_ rfl (-1) ⟨by omega, by omega, fun h => by omega⟩ rfl (.nil R) (.refl _) (.tmp _ _ rfl) rfl
     | exact ah (i + 1, y) ⟨by dsimp only; omega, by dsimp only; omega, by dsimp only; omega, hta (hy.2.2 (by omega))⟩ (by dsimp only; omega) (.of _ nw_ od_ pk_)
  ·rw [List.take_of_length_le (by omega)] at hs
   repeat' refine W_ ?_
   exact aG x_ rfl lf ⟨by omega, by omega, fun _ => ⟨by omega, hs⟩⟩ rfl (.nil R) (.refl _) (.tmp _ _ rfl) rfl
theorem uD (_hst : ay G) (lo : Nat) (x : aB) (_hb : x.small 1048576) : Ct Tryz.prog G 133 [.agg (x.tw lo)] (fun K => .agg (x.tw K)) := by
 refine ak Tryz.func133 rfl Tryz.ntmps133 rfl rfl fun w0 _ hG => ?_
 unfold aB.small at _hb
 skip
 repeat' (first | refine W_ ?_ | refine aF ?_ | (refine aj ?_; intro ss bb) | refine ad ?_)
 refine aA x_ rfl (.cell _ _ _ _ _ rfl mm_ (by kernel_rfl) (by kernel_rfl) (by kernel_rfl)) (fun _ => ?_)
 exact dK (aB.fin _ _ _ x)
theorem rI (hst : ay G) (lo : Nat) (l : List aB) (hb : l.length <= 1048576 /\ ∀ y ∈ l, aB.small 1048576 y) : Ct Tryz.prog G 53 [.sl lo 4 (l.map (aB.tw lo))] (fun K => .sl K 4 (l.map (aB.tw K))) := by
 refine ak Tryz.func53 rfl Tryz.ntmps53 rfl rfl fun w0 _ hG => ?_
 have hlen := aB.len lo l
 have hl1 := hb.1
 have h0 := ci (aB.tw w0.heap.size) aB.tz l
 repeat' (first | refine W_ ?_ | (refine fh ?_; intro ss bb))
 apply am (X := Nat) [0, 3] (fun i => [(4, .int .i64 (i : Int))]) (fun i => [(ss, bb, .row 4 (dD (aB.tw w0.heap.size) aB.tz l i))]) (fun i => i <= l.length) (fun i => l.length - i) 0 (Nat.zero_le _)
 exact kp_; exact nw_
 ·rw [<- h0]; exact .refl _
 intro i hi
 try dsimp only
 by_cases hlt : i < l.length
 ·obtain ⟨hrow, hset⟩ := cN (aB.tw w0.heap.size) aB.tz hlt
  have hra : (l.map (aB.tw lo))[i]? = some (l[i].tw lo) := aE hlt
  have hbi := hb.2 _ (List.getElem_mem hlt)
  generalize l[i] = x at hset hra hbi
  have hct := uD hst lo x hbi
  unfold aB.tw at hct
  rw [show x.tw lo = [.int .i64 x.owner, .bool x.class_, .str x.selector, .int .i64 x.code] from rfl] at hra
  replace hrow : (dD (aB.tw w0.heap.size) aB.tz l i)[i]? = some [.int .i64 0, .bool false, .str ⟨#[]⟩, .int .i64 0] := hrow
  repeat' (first | refine W_ ?_ | refine ac hG hst (hct) ?_ | refine bE ?_)
  refine ah (i + 1) (by omega) (by omega) (.of _ nw_ od_ (by rw [<- hset]; exact .refl _))
 ·obtain rfl : i = l.length := by omega
  rw [cj]
  repeat' refine W_ ?_
  refine aA x_ rfl (.tmp _ _ rfl) (fun _ => ?_)
  exact fg (fun x => aB.fin _ _ _ x) List.mem_cons_self
theorem uV (_hst : ay G) (l1 l2 : Nat) (x : aB) (_hb : x.small 1048576) : Ct Tryz.prog G 148 [.agg (x.tw l1), .agg (x.tw l2)] (fun _ => .bool true) := by
 refine ak Tryz.func148 rfl Tryz.ntmps148 rfl rfl fun w0 _ hG => ?_
 unfold aB.small at _hb
 have hneselector : ¬ x.selector ≠ x.selector := fun h => h rfl
 unfold aB.tw
 repeat' (first | refine W_ ?_ | refine aF ?_ | refine c_ (fun hc => ?_) (fun hc => ?_))
 all_goals first
   | (exfalso; simp at hc; done)
   | (exact r1_)
theorem q1 (hst : ay G) (l1 l2 : Nat) (l : List aB) (hb : l.length <= 1048576 /\ ∀ y ∈ l, aB.small 1048576 y) : Ct Tryz.prog G 64 [.sl l1 4 (l.map (aB.tw l1)), .sl l2 4 (l.map (aB.tw l2))] (fun _ => .bool true) := by
 refine ak Tryz.func64 rfl Tryz.ntmps64 rfl rfl fun w0 _ hG => ?_
 have hlen := aB.len l1 l
 have hlen2 := aB.len l2 l
 have hl1 := hb.1
 repeat' refine W_ ?_
 apply am (X := Nat) [0, 1] (fun i => [(5, .int .i64 (i : Int))]) (fun _ => []) (fun i => i <= l.length) (fun i => l.length - i) 0 (Nat.zero_le _)
 exact kp_; exact nw_
 ·exact .refl _
 intro i hi
 try dsimp only
 by_cases hlt : i < l.length
 ·have hr1 : (l.map (aB.tw l1))[i]? = some (l[i].tw l1) := aE hlt
  have hr2 : (l.map (aB.tw l2))[i]? = some (l[i].tw l2) := aE hlt
  have hbi := hb.2 _ (List.getElem_mem hlt)
  generalize l[i] = x at hr1 hr2 hbi
  have hct := uV hst l1 l2 x hbi
  unfold aB.tw at hct
  rw [show x.tw l1 = [.int .i64 x.owner, .bool x.class_, .str x.selector, .int .i64 x.code] from rfl] at hr1
  rw [show x.tw l2 = [.int .i64 x.owner, .bool x.class_, .str x.selector, .int .i64 x.code] from rfl] at hr2
  repeat' (first | refine V_ ?_ | refine ae hG hst (hct) ?_)
  exact ah (i + 1) (by omega) (by omega) (.of _ nw_ od_ pk_)
 ·repeat' refine W_ ?_
  exact r1_
end
def aa.tw (lo : Nat) (x : aa) : List TV := [.str x.name, .int .i64 x.parent, .sl lo 1 (cL x.fields)]
def aa.small (n : Nat) (x : aa) : Prop := (x.name.size <= n) /\ (x.fields.length <= n /\ ∀ y ∈ x.fields, ByteArray.size y <= n)
def aa.tz : List TV := [.str ⟨#[]⟩, .int .i64 0, .nils]
theorem aa.fin (B K : Nat) (objs : aK) (_x : aa) : gA B objs K (_x.tw B) (_x.tw K) := .cons (.flat rfl) (.cons (.flat rfl) (.cons (bW (fun _x => .cons (.flat rfl) .nil) _) (.nil)))
theorem aa.len (lo : Nat) (l : List aa) : (l.map (aa.tw lo)).length = l.length := by simp
section
variable {G : World -> Prop}
theorem mw (_hst : ay G) (lo : Nat) (x : aa) (left : Int) (h : 0 <= left /\ left <= 1048576) (hb : x.small 9223372036854775807) : CtM Tryz.prog G 122 [.agg (x.tw lo), .int .i64 left] [] (fun y : Int => -1 <= y /\ y <= left /\ (0 <= y -> x.small 1048576)) (fun _ => []) (fun y => .int .i64 y) := by
 refine aJ Tryz.func122 rfl Tryz.ntmps122 rfl rfl rfl fun w0 R gs objsR hG hR => ?_
 obtain rfl := hR.inv0
 clear hR
 unfold aa.small at hb
 have hb1 : x.name.size <= 9223372036854775807 := hb.1
 unfold aa.tw
 repeat' (first | refine W_ ?_ | refine aF ?_ | ((with_reducible apply az); rfl; kernel_rfl; (repeat (first | exact aw.nil | ((with_reducible apply aw.cons); rfl))); exact hG; exact j3 lo x.fields _ (by omega) hb.2; exact .nil _; intro y2 hy2; refine bv ?_) | refine c_ (fun hc => ?_) (fun hc => ?_))
 all_goals first
   | exact aG x_ rfl (-1) ⟨by omega, by omega, fun h => by omega⟩ rfl (.nil R) (.refl _) (.tmp _ _ rfl) rfl
   | (refine aG x_ rfl _ ⟨?_, ?_, fun _ => ?_⟩ rfl (.nil R) (.refl _) (.tmp _ _ rfl) rfl
      ·omega
      ·omega
      ·exact ⟨by omega, hy2.2.2 (by omega)⟩)
theorem gr (hst : ay G) (lo : Nat) (l : List aa) (left : Int) (h : 0 <= left /\ left <= 1048576) (hb : l.length <= 9223372036854775807 /\ ∀ y ∈ l, aa.small 9223372036854775807 y) : CtM Tryz.prog G 45 [.sl lo 3 (l.map (aa.tw lo)), .int .i64 left] [] (fun y : Int => -1 <= y /\ y <= left /\ (0 <= y -> l.length <= 1048576 /\ ∀ y ∈ l, aa.small 1048576 y)) (fun _ => []) (fun y => .int .i64 y) := by
 refine aJ Tryz.func45 rfl Tryz.ntmps45 rfl rfl rfl fun w0 R gs objsR hG hR => ?_
 obtain rfl := hR.inv0
 clear hR
 have hlen := aa.len lo l
 have hl1 := hb.1
 by_cases hn : left - l.length < 0
 ·repeat' refine W_ ?_
  exact aG x_ rfl (-1) ⟨by omega, by omega, fun h => by omega⟩ rfl (.nil R) (.refl _) (.tmp _ _ rfl) rfl
 ·repeat' refine W_ ?_
  apply am (X := Nat × Int) [0, 1000000] (fun x => [(5, .int .i64 (x.1 : Int)), (1, .int .i64 x.2)]) (fun _ => R) (fun x => x.1 <= l.length /\ 0 <= x.2 /\ x.2 <= left /\ ∀ y ∈ l.take x.1, aa.small 1048576 y) (fun x => l.length - x.1) (0, left - l.length) ⟨Nat.zero_le _, by dsimp only; omega, by dsimp only; omega, by simp⟩
  exact kp_; exact nw_
  ·exact .refl _
  rintro ⟨i, lf⟩ ⟨hi, h0, h1, hs⟩
  dsimp only at hi h0 h1 hs |-
  by_cases hlt : i < l.length
  ·have hrow : (l.map (aa.tw lo))[i]? = some (l[i].tw lo) := aE hlt
   have hbi := hb.2 _ (List.getElem_mem hlt)
   have hta := aP (p := aa.small 1048576) hlt hs
   generalize l[i] = x at hrow hbi hta
   have hct := mw hst lo x lf (by omega) hbi
   unfold aa.tw at hct
   rw [show x.tw lo = [.str x.name, .int .i64 x.parent, .sl lo 1 (cL x.fields)] from rfl] at hrow
   repeat' (first | refine W_ ?_ | ((with_reducible apply az); rfl; kernel_rfl; (repeat (first | exact aw.nil | ((with_reducible apply aw.cons); rfl))); exact hG; exact hct; exact .nil _; intro y hy; refine bv ?_) | refine c_ (fun hc => ?_) (fun hc => ?_))
   all_goals first
     | exact aG x_ rfl (-1) ⟨by omega, by omega, fun h => by omega⟩ rfl (.nil R) (.refl _) (.tmp _ _ rfl) rfl
     | exact ah (i + 1, y) ⟨by dsimp only; omega, by dsimp only; omega, by dsimp only; omega, hta (hy.2.2 (by omega))⟩ (by dsimp only; omega) (.of _ nw_ od_ pk_)
  ·rw [List.take_of_length_le (by omega)] at hs
   repeat' refine W_ ?_
   exact aG x_ rfl lf ⟨by omega, by omega, fun _ => ⟨by omega, hs⟩⟩ rfl (.nil R) (.refl _) (.tmp _ _ rfl) rfl
theorem mD (hst : ay G) (lo : Nat) (x : aa) (hb : x.small 1048576) : Ct Tryz.prog G 131 [.agg (x.tw lo)] (fun K => .agg (x.tw K)) := by
 refine ak Tryz.func131 rfl Tryz.ntmps131 rfl rfl fun w0 _ hG => ?_
 unfold aa.small at hb
 have hsfields := (hb.2).1
 repeat' (first | refine W_ ?_ | refine aF ?_ | (refine aj ?_; intro ss bb) | refine ad ?_ | refine ac hG hst (j1 hst lo x.fields (hsfields)) ?_)
 refine aA x_ rfl (.cell _ _ _ _ _ rfl mm_ (by kernel_rfl) (by kernel_rfl) (by kernel_rfl)) (fun _ => ?_)
 exact dK (aa.fin _ _ _ x)
theorem ga (hst : ay G) (lo : Nat) (l : List aa) (hb : l.length <= 1048576 /\ ∀ y ∈ l, aa.small 1048576 y) : Ct Tryz.prog G 51 [.sl lo 3 (l.map (aa.tw lo))] (fun K => .sl K 3 (l.map (aa.tw K))) := by
 refine ak Tryz.func51 rfl Tryz.ntmps51 rfl rfl fun w0 _ hG => ?_
 have hlen := aa.len lo l
 have hl1 := hb.1
 have h0 := ci (aa.tw w0.heap.size) aa.tz l
 repeat' (first | refine W_ ?_ | (refine fh ?_; intro ss bb))
 apply am (X := Nat) [0, 3] (fun i => [(4, .int .i64 (i : Int))]) (fun i => [(ss, bb, .row 3 (dD (aa.tw w0.heap.size) aa.tz l i))]) (fun i => i <= l.length) (fun i => l.length - i) 0 (Nat.zero_le _)
 exact kp_; exact nw_
 ·rw [<- h0]; exact .refl _
 intro i hi
 try dsimp only
 by_cases hlt : i < l.length
 ·obtain ⟨hrow, hset⟩ := cN (aa.tw w0.heap.size) aa.tz hlt
  have hra : (l.map (aa.tw lo))[i]? = some (l[i].tw lo) := aE hlt
  have hbi := hb.2 _ (List.getElem_mem hlt)
  generalize l[i] = x at hset hra hbi
  have hct := mD hst lo x hbi
  unfold aa.tw at hct
  rw [show x.tw lo = [.str x.name, .int .i64 x.parent, .sl lo 1 (cL x.fields)] from rfl] at hra
  replace hrow : (dD (aa.tw w0.heap.size) aa.tz l i)[i]? = some [.str ⟨#[]⟩, .int .i64 0, .nils] := hrow
  repeat' (first | refine W_ ?_ | refine ac hG hst (hct) ?_ | refine bE ?_)
  refine ah (i + 1) (by omega) (by omega) (.of _ nw_ od_ (by rw [<- hset]; exact .refl _))
 ·obtain rfl : i = l.length := by omega
  rw [cj]
  repeat' refine W_ ?_
  refine aA x_ rfl (.tmp _ _ rfl) (fun _ => ?_)
  exact fg (fun x => aa.fin _ _ _ x) List.mem_cons_self
theorem ml (hst : ay G) (l1 l2 : Nat) (x : aa) (hb : x.small 1048576) : Ct Tryz.prog G 146 [.agg (x.tw l1), .agg (x.tw l2)] (fun _ => .bool true) := by
 refine ak Tryz.func146 rfl Tryz.ntmps146 rfl rfl fun w0 _ hG => ?_
 unfold aa.small at hb
 have hsfields := (hb.2).1
 have hnename : ¬ x.name ≠ x.name := fun h => h rfl
 unfold aa.tw
 repeat' (first | refine W_ ?_ | refine aF ?_ | refine ac hG hst (jZ l1 l2 x.fields hsfields) ?_)
 all_goals first
   | (exfalso; simp at hc; done)
   | (exact r1_)
theorem gf (hst : ay G) (l1 l2 : Nat) (l : List aa) (hb : l.length <= 1048576 /\ ∀ y ∈ l, aa.small 1048576 y) : Ct Tryz.prog G 62 [.sl l1 3 (l.map (aa.tw l1)), .sl l2 3 (l.map (aa.tw l2))] (fun _ => .bool true) := by
 refine ak Tryz.func62 rfl Tryz.ntmps62 rfl rfl fun w0 _ hG => ?_
 have hlen := aa.len l1 l
 have hlen2 := aa.len l2 l
 have hl1 := hb.1
 repeat' refine W_ ?_
 apply am (X := Nat) [0, 1] (fun i => [(5, .int .i64 (i : Int))]) (fun _ => []) (fun i => i <= l.length) (fun i => l.length - i) 0 (Nat.zero_le _)
 exact kp_; exact nw_
 ·exact .refl _
 intro i hi
 try dsimp only
 by_cases hlt : i < l.length
 ·have hr1 : (l.map (aa.tw l1))[i]? = some (l[i].tw l1) := aE hlt
  have hr2 : (l.map (aa.tw l2))[i]? = some (l[i].tw l2) := aE hlt
  have hbi := hb.2 _ (List.getElem_mem hlt)
  generalize l[i] = x at hr1 hr2 hbi
  have hct := ml hst l1 l2 x hbi
  unfold aa.tw at hct
  rw [show x.tw l1 = [.str x.name, .int .i64 x.parent, .sl l1 1 (cL x.fields)] from rfl] at hr1
  rw [show x.tw l2 = [.str x.name, .int .i64 x.parent, .sl l2 1 (cL x.fields)] from rfl] at hr2
  repeat' (first | refine V_ ?_ | refine ae hG hst (hct) ?_)
  exact ah (i + 1) (by omega) (by omega) (.of _ nw_ od_ pk_)
 ·repeat' refine W_ ?_
  exact r1_
end
def aC.tw (lo : Nat) (x : aC) : List TV := [.sl lo 3 (x.classes.map (aa.tw lo)), .sl lo 4 (x.codes.map (au.tw lo)), .sl lo 4 (x.entries.map (aB.tw lo)), .int .i64 x.main]
def aC.small (n : Nat) (x : aC) : Prop := (x.classes.length <= n /\ ∀ y ∈ x.classes, aa.small n y) /\ (x.codes.length <= n /\ ∀ y ∈ x.codes, au.small n y) /\ (x.entries.length <= n /\ ∀ y ∈ x.entries, aB.small n y)
def aC.tz : List TV := [.nils, .nils, .nils, .int .i64 0]
theorem aC.fin (B K : Nat) (objs : aK) (x : aC) : gA B objs K (x.tw B) (x.tw K) := .cons (bW (fun x => aa.fin B K objs x) _) (.cons (bW (fun x => au.fin B K objs x) _) (.cons (bW (fun x => aB.fin B K objs x) _) (.cons (.flat rfl) (.nil))))
theorem aC.len (lo : Nat) (l : List aC) : (l.map (aC.tw lo)).length = l.length := by simp
section
variable {G : World -> Prop}
theorem nC (hst : ay G) (lo : Nat) (x : aC) (left : Int) (h : 0 <= left /\ left <= 1048576) (hb : x.small 9223372036854775807) : CtM Tryz.prog G 12 [.agg (x.tw lo), .int .i64 left] [] (fun y : Int => -1 <= y /\ y <= left /\ (0 <= y -> x.small 1048576)) (fun _ => []) (fun y => .int .i64 y) := by
 refine aJ Tryz.func12 rfl Tryz.ntmps12 rfl rfl rfl fun w0 R gs objsR hG hR => ?_
 obtain rfl := hR.inv0
 clear hR
 unfold aC.small at hb
 skip
 unfold aC.tw
 repeat' (first | refine W_ ?_ | refine aF ?_ | ((with_reducible apply az); rfl; kernel_rfl; (repeat (first | exact aw.nil | ((with_reducible apply aw.cons); rfl))); exact hG; exact gr hst lo x.classes _ (by omega) hb.1; exact .nil _; intro y1 hy1; refine bv ?_) | ((with_reducible apply az); rfl; kernel_rfl; (repeat (first | exact aw.nil | ((with_reducible apply aw.cons); rfl))); exact hG; exact uY hst lo x.codes _ (by omega) hb.2.1; exact .nil _; intro y2 hy2; refine bv ?_) | ((with_reducible apply az); rfl; kernel_rfl; (repeat (first | exact aw.nil | ((with_reducible apply aw.cons); rfl))); exact hG; exact rY hst lo x.entries _ (by omega) hb.2.2; exact .nil _; intro y3 hy3; refine bv ?_) | refine c_ (fun hc => ?_) (fun hc => ?_))
 all_goals first
   | exact aG x_ rfl (-1) ⟨by omega, by omega, fun h => by omega⟩ rfl (.nil R) (.refl _) (.tmp _ _ rfl) rfl
   | (refine aG x_ rfl _ ⟨?_, ?_, fun _ => ?_⟩ rfl (.nil R) (.refl _) (.tmp _ _ rfl) rfl
      ·omega
      ·omega
      ·exact ⟨hy1.2.2 (by omega), hy2.2.2 (by omega), hy3.2.2 (by omega)⟩)
theorem oU (hst : ay G) (lo : Nat) (x : aC) (hb : x.small 1048576) : Ct Tryz.prog G 14 [.agg (x.tw lo)] (fun K => .agg (x.tw K)) := by
 refine ak Tryz.func14 rfl Tryz.ntmps14 rfl rfl fun w0 _ hG => ?_
 unfold aC.small at hb
 have hsclasses := hb.1
 have hscodes := hb.2.1
 have hsentries := hb.2.2
 repeat' (first | refine W_ ?_ | refine aF ?_ | (refine aj ?_; intro ss bb) | refine ad ?_ | refine ac hG hst (ga hst lo x.classes (hsclasses)) ?_ | refine ac hG hst (uq hst lo x.codes (hscodes)) ?_ | refine ac hG hst (rI hst lo x.entries (hsentries)) ?_)
 refine aA x_ rfl (.cell _ _ _ _ _ rfl mm_ (by kernel_rfl) (by kernel_rfl) (by kernel_rfl)) (fun _ => ?_)
 exact dK (aC.fin _ _ _ x)
theorem nR (hst : ay G) (l1 l2 : Nat) (x : aC) (hb : x.small 1048576) : Ct Tryz.prog G 17 [.agg (x.tw l1), .agg (x.tw l2)] (fun _ => .bool true) := by
 refine ak Tryz.func17 rfl Tryz.ntmps17 rfl rfl fun w0 _ hG => ?_
 unfold aC.small at hb
 have hsclasses := hb.1
 have hscodes := hb.2.1
 have hsentries := hb.2.2
 unfold aC.tw
 repeat' (first | refine W_ ?_ | refine aF ?_ | refine ac hG hst (gf hst l1 l2 x.classes hsclasses) ?_ | refine ac hG hst (tR hst l1 l2 x.codes hscodes) ?_ | refine ac hG hst (q1 hst l1 l2 x.entries hsentries) ?_)
 all_goals first
   | (exfalso; simp at hc; done)
   | (exact r1_)
end
def ed.tw (_lo : Nat) (x : ed) : List TV := [.int .i64 x.code, .int .i64 x.at_, .int .i64 x.kind]
def ed.small (_n : Nat) (_x : ed) : Prop := True
def ed.tz : List TV := [.int .i64 0, .int .i64 0, .int .i64 0]
theorem ed.fin (B K : Nat) (objs : aK) (x : ed) : gA B objs K (x.tw B) (x.tw K) := .cons (.flat rfl) (.cons (.flat rfl) (.cons (.flat rfl) (.nil)))
theorem ed.len (lo : Nat) (l : List ed) : (l.map (ed.tw lo)).length = l.length := by simp
section
variable {G : World -> Prop}
end
def bs : List aa := [⟨⟨#[79, 98, 106, 101, 99, 116]⟩, -1, []⟩, ⟨⟨#[69, 120, 99, 101, 112, 116, 105, 111, 110]⟩, 0, [⟨#[116, 101, 120, 116]⟩]⟩, ⟨⟨#[69, 114, 114, 111, 114]⟩, 1, [⟨#[116, 101, 120, 116]⟩]⟩, ⟨⟨#[77, 101, 115, 115, 97, 103, 101, 78, 111, 116, 85, 110, 100, 101, 114, 115, 116, 111, 111, 100]⟩, 2, [⟨#[116, 101, 120, 116]⟩]⟩, ⟨⟨#[90, 101, 114, 111, 68, 105, 118, 105, 100, 101]⟩, 2, [⟨#[116, 101, 120, 116]⟩]⟩, ⟨⟨#[73, 110, 116, 101, 103, 101, 114]⟩, 0, []⟩, ⟨⟨#[66, 111, 111, 108, 101, 97, 110]⟩, 0, []⟩, ⟨⟨#[78, 105, 108]⟩, 0, []⟩, ⟨⟨#[83, 116, 114, 105, 110, 103]⟩, 0, []⟩, ⟨⟨#[83, 121, 109, 98, 111, 108]⟩, 0, []⟩, ⟨⟨#[65, 114, 114, 97, 121]⟩, 0, []⟩, ⟨⟨#[66, 108, 111, 99, 107]⟩, 0, []⟩, ⟨⟨#[83, 101, 109, 97, 112, 104, 111, 114, 101]⟩, 0, []⟩, ⟨⟨#[80, 114, 111, 99, 101, 115, 115]⟩, 0, []⟩, ⟨⟨#[84, 114, 97, 110, 115, 99, 114, 105, 112, 116]⟩, 0, []⟩, ⟨⟨#[67, 108, 97, 115, 115]⟩, 0, []⟩]
def bV : List ByteArray := [⟨#[79, 98, 106, 101, 99, 116]⟩, ⟨#[69, 120, 99, 101, 112, 116, 105, 111, 110]⟩, ⟨#[69, 114, 114, 111, 114]⟩, ⟨#[77, 101, 115, 115, 97, 103, 101, 78, 111, 116, 85, 110, 100, 101, 114, 115, 116, 111, 111, 100]⟩, ⟨#[90, 101, 114, 111, 68, 105, 118, 105, 100, 101]⟩, ⟨#[73, 110, 116, 101, 103, 101, 114]⟩, ⟨#[66, 111, 111, 108, 101, 97, 110]⟩, ⟨#[78, 105, 108]⟩, ⟨#[83, 116, 114, 105, 110, 103]⟩, ⟨#[83, 121, 109, 98, 111, 108]⟩, ⟨#[65, 114, 114, 97, 121]⟩, ⟨#[66, 108, 111, 99, 107]⟩, ⟨#[83, 101, 109, 97, 112, 104, 111, 114, 101]⟩, ⟨#[80, 114, 111, 99, 101, 115, 115]⟩, ⟨#[84, 114, 97, 110, 115, 99, 114, 105, 112, 116]⟩, ⟨#[67, 108, 97, 115, 115]⟩]
def fM (k : Int) : List ByteArray := if k = 1 \/ k = 2 \/ k = 3 \/ k = 4 then [⟨#[116, 101, 120, 116]⟩] else []
def sE : List (List TV) := [[TV.int .i64 (-1)], [TV.int .i64 0], [TV.int .i64 1], [TV.int .i64 2], [TV.int .i64 2], [TV.int .i64 0], [TV.int .i64 0], [TV.int .i64 0], [TV.int .i64 0], [TV.int .i64 0], [TV.int .i64 0], [TV.int .i64 0], [TV.int .i64 0], [TV.int .i64 0], [TV.int .i64 0], [TV.int .i64 0]]
theorem eM : bs.length = 16 := rfl
theorem gL {i : Nat} (h : i < 16) : ∃ x, bs[i]? = some x /\ (cL bV)[i]? = some [.str x.name] /\ sE[i]? = some [.int .i64 x.parent] /\ fM (i : Int) = x.fields /\ bs.take (i + 1) = bs.take i ++ [x] := by
 match i, h with
 | 0, _ => exact ⟨_, rfl, rfl, rfl, rfl, rfl⟩
 | 1, _ => exact ⟨_, rfl, rfl, rfl, rfl, rfl⟩
 | 2, _ => exact ⟨_, rfl, rfl, rfl, rfl, rfl⟩
 | 3, _ => exact ⟨_, rfl, rfl, rfl, rfl, rfl⟩
 | 4, _ => exact ⟨_, rfl, rfl, rfl, rfl, rfl⟩
 | 5, _ => exact ⟨_, rfl, rfl, rfl, rfl, rfl⟩
 | 6, _ => exact ⟨_, rfl, rfl, rfl, rfl, rfl⟩
 | 7, _ => exact ⟨_, rfl, rfl, rfl, rfl, rfl⟩
 | 8, _ => exact ⟨_, rfl, rfl, rfl, rfl, rfl⟩
 | 9, _ => exact ⟨_, rfl, rfl, rfl, rfl, rfl⟩
 | 10, _ => exact ⟨_, rfl, rfl, rfl, rfl, rfl⟩
 | 11, _ => exact ⟨_, rfl, rfl, rfl, rfl, rfl⟩
 | 12, _ => exact ⟨_, rfl, rfl, rfl, rfl, rfl⟩
 | 13, _ => exact ⟨_, rfl, rfl, rfl, rfl, rfl⟩
 | 14, _ => exact ⟨_, rfl, rfl, rfl, rfl, rfl⟩
 | 15, _ => exact ⟨_, rfl, rfl, rfl, rfl, rfl⟩
 | n + 16, h => omega
section
variable {G : World -> Prop}
theorem my : Ct Tryz.prog G 252 [] (fun K => .sl K 1 (cL bV)) := by
 refine ak Tryz.func252 rfl Tryz.ntmps252 rfl rfl fun w0 _ hG => ?_
 repeat' (first | refine W_ ?_ | refine dl ?_)
 refine aA (r1 := .tmp 0) (t1 := .sl w0.heap.size 1 (cL bV)) (.inr rfl) rfl (.tmp _ _ rfl) (fun _ => ?_)
 exact bW (f := fun s : ByteArray => [TV.str s]) (f' := fun s : ByteArray => [TV.str s]) (fun x => .cons (.flat rfl) .nil) bV
theorem l6 : Ct Tryz.prog G 263 [] (fun K => .sl K 1 (cL bV)) := by
 refine ak Tryz.func263 rfl Tryz.ntmps263 rfl rfl fun w0 _ hG => ?_
 repeat' (first | refine W_ ?_ | refine dl ?_)
 refine aA (r1 := .tmp 0) (t1 := .sl w0.heap.size 1 (cL bV)) (.inr rfl) rfl (.tmp _ _ rfl) (fun _ => ?_)
 exact bW (f := fun s : ByteArray => [TV.str s]) (f' := fun s : ByteArray => [TV.str s]) (fun x => .cons (.flat rfl) .nil) bV
theorem ry (tu : TV) (k : Int) (h : k < 16) : Ct Tryz.prog G 253 [tu, .int .i64 k] (fun K => .sl K 1 (cL (fM k))) := by
 refine ak Tryz.func253 rfl Tryz.ntmps253 rfl rfl fun w0 _ hG => ?_
 by_cases hk : k = 1 \/ k = 2 \/ k = 3 \/ k = 4
 ·rw [show fM k = [⟨#[116, 101, 120, 116]⟩] from if_pos hk]
  repeat' (first | refine W_ ?_ | refine dl ?_ | refine g_ (fun hg => ?_) (fun hg => ?_))
  all_goals first
    | (exfalso; omega)
    | (refine aA x_ rfl (.tmp _ _ rfl) (fun _ => ?_)
       exact bW (f := fun s : ByteArray => [TV.str s]) (f' := fun s : ByteArray => [TV.str s]) (fun x => .cons (.flat rfl) .nil) [⟨#[116, 101, 120, 116]⟩])
 ·rw [show fM k = [] from if_neg hk]
  repeat' (first | refine W_ ?_ | refine dl ?_)
  all_goals first
    | (exfalso; omega)
    | (refine aA x_ rfl (.tmp _ _ rfl) (fun _ => ?_)
       exact bW (f := fun s : ByteArray => [TV.str s]) (f' := fun s : ByteArray => [TV.str s]) (fun x => .cons (.flat rfl) .nil) [])
theorem tZ (hst : ay G) (rest : List TV) : Ct Tryz.prog G 199 [.cp 0 (.nils :: rest)] (fun K => .sl K 3 (bs.map (aa.tw K))) := by
 refine ak Tryz.func199 rfl Tryz.ntmps199 rfl rfl fun w0 _ hG => ?_
 repeat' (first | refine H_ 3 ?_ | refine ac hG hst (my) ?_ | (refine ma ?_; intro ss bb))
 refine ⟨?_⟩
 repeat' (first | refine W_ ?_ | refine dl ?_)
 apply am (X := Nat × Nat) [0, 4, 5] (fun x => [(6, .int .i64 (x.1 : Int)), (3, .ms ss x.2 0 x.1)]) (fun x => [(ss, x.2, .row 3 ((bs.take x.1).map (aa.tw w0.heap.size)))]) (fun x => x.1 <= 16) (fun x => 16 - x.1) (0, bb) (Nat.zero_le _)
 exact kp_; exact nw_
 ·exact .refl _
 rintro ⟨i, b⟩ hi
 dsimp only at hi |-
 by_cases hlt : i < 16
 ·obtain ⟨x, hx, h1, h2, h3, h4⟩ := gL hlt
  unfold sE at h2
  have hle : ((bs.take i).map (aa.tw w0.heap.size)).length = i := by rw [List.length_map, List.length_take, eM]; omega
  repeat' (first | refine W_ ?_ | (with_reducible apply fL (id := 7) 14; kernel_rfl; kernel_rfl; kernel_rfl; (repeat (first | exact Cut.zero _ | apply Cut.succ))) | with_reducible refine eG (by kernel_rfl) (by kernel_rfl) ?_ | with_reducible refine gE ?_ | with_reducible refine ey ?_ | with_reducible refine eo rfl ?_ | refine f9 rfl rfl rfl rr_ ?_ | refine eO rfl rfl rfl rr_ rfl rfl rfl ?_ | refine dv rfl rfl rfl rr_ rfl rfl ?_ | (refine lP rfl rfl rfl rr_ dd_ ?_) | (refine lv rfl rfl rfl rr_ dd_ ?_) | (refine cX rfl rfl rfl rr_ (fun hg => ?_) (fun hg => ?_)) | (refine cJ rfl rfl rfl rr_ (fun hg => ?_) (fun hg => ?_)) | ((with_reducible apply d_y); exact y_; rfl) | ((with_reducible apply yZ); rfl; kernel_rfl; (repeat (first | exact ee.nil | ((with_reducible apply ee.cons); rfl; exact .same _))); exact hG; exact hst; exact ry _ _ (by omega)) | refine yt ?_ | refine aaD ?_ | (refine pA ?_; intro bb))
  have hrow : (bs.take i).map (aa.tw w0.heap.size) ++ [[TV.str x.name, .int .i64 x.parent, .sl w0.heap.size 1 (cL (fM i))]] = (bs.take (i + 1)).map (aa.tw w0.heap.size) := by
    rw [h4, h3, List.map_append]; rfl
  rw [hrow]
  exact ah (i + 1, bb) (by dsimp only; omega) (by dsimp only; omega) (.of _ nw_ od_ pk_)
 ·obtain rfl : i = 16 := by omega
  repeat' refine W_ ?_
  apply am (X := Unit) [0, 3] (fun _ => [(7, .int .i64 0)]) (fun _ => [(ss, b, .row 3 (bs.map (aa.tw w0.heap.size)))]) (fun _ => True) (fun _ => 0) () trivial
  exact kp_; exact nw_
  ·exact .refl _
  rintro _ -
  repeat' refine W_ ?_
  refine aA x_ rfl (.tmp _ _ rfl) (fun _ => ?_)
  exact fg (fun x => aa.fin _ _ _ x) List.mem_cons_self
end
theorem jp {α : Type} {l : List α} {i : Nat} (h : i < l.length) : l.take (i + 1) = l.take i ++ [l[i]] := by rw [List.take_add_one, List.getElem?_eq_getElem h]; rfl
section
variable {G : World -> Prop}
end
end Go.Proofs.YtiihihgjiklnoaaGreatDoor
