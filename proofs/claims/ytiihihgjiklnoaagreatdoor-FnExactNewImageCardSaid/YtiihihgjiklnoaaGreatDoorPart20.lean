/- Part 20 of the proof: the texts NeA, MkT. -/
import Derived.Test.YtiihihgjiklnoaaGreatDoorPart17
import Derived.Test.YtiihihgjiklnoaaGreatDoorPart19
import Derived.Test.YtiihihgjiklnoaaGreatDoorPart16
import Derived.Test.YtiihihgjiklnoaaGreatDoorPart4
import Derived.Test.YtiihihgjiklnoaaGreatDoorPart2
import Derived.Deep.RegionHeld3
import Derived.Test.YtiihihgjiklnoaaGreatDoorPart15
/- Nested memory that the call owns: the laws' copies of a code base. Written by gen_ne.py. -/
namespace Go.Proofs.YtiihihgjiklnoaaGreatDoor
set_option maxRecDepth 20000
open Go Go.RowKit
/-- Rows whose elements hold rows of their own: a place (site, block) for each. -/
def nR {α : Type} (mk : α → Nat × Nat → List TV) (l : List α) (ps : List (Nat × Nat)) : List (List TV) := List.zipWith mk l ps
def nO {α : Type} (ob : α → TObj) (l : List α) (ps : List (Nat × Nat)) : Objs := List.zipWith (fun x p => (p.1, p.2, ob x)) l ps
theorem nR_len {α : Type} (mk : α → Nat × Nat → List TV) {l : List α} {ps : List (Nat × Nat)} (h : ps.length = l.length) : (nR mk l ps).length = l.length := by simp [nR, h]
theorem takeSnoc {α : Type} {l : List α} {i : Nat} (h : i < l.length) : l.take (i + 1) = l.take i ++ [l[i]] := by rw [List.take_add_one, List.getElem?_eq_getElem h]; rfl
theorem nO_snoc {α : Type} (ob : α → TObj) {l : List α} {ps : List (Nat × Nat)} {i : Nat} (h : i < l.length) (hp : ps.length = i) (p : Nat × Nat) : nO ob (l.take (i + 1)) (ps ++ [p]) = nO ob (l.take i) ps ++ [(p.1, p.2, ob l[i])] := by
  unfold nO
  rw [takeSnoc h, List.zipWith_append (by simp; omega)]; rfl
theorem nR_set {α : Type} (mk : α → Nat × Nat → List TV) (z : List TV) {l : List α} {ps : List (Nat × Nat)} {i : Nat} (h : i < l.length) (hp : ps.length = i) (p : Nat × Nat) :
    (nR mk (l.take i) ps ++ List.replicate (l.length - i) z)[i]? = some z ∧ (nR mk (l.take i) ps ++ List.replicate (l.length - i) z).set i (mk l[i] p) = nR mk (l.take (i + 1)) (ps ++ [p]) ++ List.replicate (l.length - (i + 1)) z := by
  have hl : (nR mk (l.take i) ps).length = i := by simp [nR]; omega
  have e : l.length - i = (l.length - (i + 1)) + 1 := by omega
  refine ⟨?_, ?_⟩
  · rw [List.getElem?_append_right (by omega), hl, Nat.sub_self, e, List.replicate_succ]; rfl
  · rw [List.set_append_right _ _ (by omega), hl, Nat.sub_self, e, List.replicate_succ, List.set_cons_zero]
    unfold nR
    rw [takeSnoc h, List.zipWith_append (by simp; omega), List.append_assoc]; rfl
theorem pick_snoc (a z : Nat × Nat × TObj) (T R : Objs) : Pick (a :: ((T ++ [z]) ++ R)) (z :: a :: (T ++ R)) := .perm (by
  have h : ((T ++ [z]) ++ R).Perm (z :: (T ++ R)) := by rw [List.append_assoc]; exact List.perm_middle
  exact (h.cons a).trans (List.Perm.swap z a _))
def clsMk (x : TClassInfo) (p : Nat × Nat) : List TV := [.str x.name, .int .i64 x.parent, .ms p.1 p.2 0 x.fields.length]
def clsOb (x : TClassInfo) : TObj := .row 1 (strR x.fields)
def codMk (x : TCode) (p : Nat × Nat) : List TV := [.bool x.block, .int .i64 x.params, .int .i64 x.slots, .ms p.1 p.2 0 x.instrs.length]
def codOb (x : TCode) : TObj := .row 4 (x.instrs.map (TInstr.tw 0))
section
variable {G : World → Prop}
theorem toStringS_own (_hst : Stable G) (lo : Nat) (l : List ByteArray) (hn : l.length ≤ 1048576) : CtM Tryz.prog G 174 [.sl lo 1 (strR l)] [] (fun _ : Nat × Nat => True) (fun y => [(y.1, y.2, .row 1 (strR l))]) (fun y => .ms y.1 y.2 0 l.length) := by
  refine ctm_enter Tryz.func174 rfl Tryz.ntmps174 rfl rfl rfl fun w0 R gs objsR hG hR => ?_
  obtain rfl := hR.inv0
  clear hR
  have hlen := strR_len l
  have h0 := copyR_zero (fun s : ByteArray => [TV.str s]) [.str ⟨#[]⟩] l
  repeat' (first | refine W_ ?_ | (refine e_make ?_; intro ss bb) | refine c_ (fun hc => ?_) (fun hc => ?_) | refine g_ (fun hg => ?_) (fun hg => ?_))
  generalize ss = so; generalize bb = bo
  apply aw_loopk (X := Nat) [0, 3, 1000000] (fun i => [(4, .int .i64 (i : Int))]) (fun i => (so, bo, .row 1 (copyR (fun s : ByteArray => [TV.str s]) [.str ⟨#[]⟩] l i)) :: R) (fun i => i ≤ l.length) (fun i => l.length - i) 0 (Nat.zero_le _)
  exact kp_; exact nw_
  · rw [← h0]; exact .refl _
  intro i hi
  try dsimp only
  by_cases hlt : i < l.length
  · obtain ⟨hrow, hset⟩ := copyR_set (fun s : ByteArray => [TV.str s]) [.str ⟨#[]⟩] hlt
    have hra := strR_row hlt
    generalize l[i] = x at hset hra
    try dsimp only at hset
    repeat' (first | refine W_ ?_ | refine e_store ?_ | refine c_ (fun hc => ?_) (fun hc => ?_) | refine g_ (fun hg => ?_) (fun hg => ?_))
    refine aq_round (i + 1) (by omega) (by omega) (.of _ nw_ od_ (by rw [← hset]; exact .refl _))
  · obtain rfl : i = l.length := by omega
    rw [copyR_full]
    repeat' (first | refine W_ ?_ | refine c_ (fun hc => ?_) (fun hc => ?_) | refine g_ (fun hg => ?_) (fun hg => ?_))
    exact aq_retm1 x_ rfl (so, bo) trivial rfl (.cons _ _ _ _ (.nil R)) pk_ (.tmp _ _ rfl) rfl
theorem toInstrS_own (hst : Stable G) (lo : Nat) (l : List TInstr) (hb : l.length ≤ 1048576 ∧ ∀ y ∈ l, TInstr.small 1048576 y) : CtM Tryz.prog G 208 [.sl lo 4 (l.map (TInstr.tw lo))] [] (fun _ : Nat × Nat => True) (fun y => [(y.1, y.2, .row 4 (l.map (TInstr.tw 0)))]) (fun y => .ms y.1 y.2 0 l.length) := by
  refine ctm_enter Tryz.func208 rfl Tryz.ntmps208 rfl rfl rfl fun w0 R gs objsR hG hR => ?_
  obtain rfl := hR.inv0
  clear hR
  have hlen := TInstr.len lo l
  have hl1 := hb.1
  have h0 := copyR_zero (TInstr.tw 0) TInstr.tz l
  repeat' (first | refine W_ ?_ | (refine e_make ?_; intro ss bb) | refine c_ (fun hc => ?_) (fun hc => ?_) | refine g_ (fun hg => ?_) (fun hg => ?_))
  generalize ss = so; generalize bb = bo
  apply aw_loopk (X := Nat) [0, 3, 1000000] (fun i => [(4, .int .i64 (i : Int))]) (fun i => (so, bo, .row 4 (copyR (TInstr.tw 0) TInstr.tz l i)) :: R) (fun i => i ≤ l.length) (fun i => l.length - i) 0 (Nat.zero_le _)
  exact kp_; exact nw_
  · rw [← h0]; exact .refl _
  intro i hi
  try dsimp only
  by_cases hlt : i < l.length
  · obtain ⟨hrow, hset⟩ := copyR_set (TInstr.tw 0) TInstr.tz hlt
    have hra : (l.map (TInstr.tw lo))[i]? = some (l[i].tw lo) := row_map hlt
    have hbi := hb.2 _ (List.getElem_mem hlt)
    generalize l[i] = x at hset hra hbi
    have hct := toInstr_ct hst lo x hbi
    unfold TInstr.tw at hct
    rw [show x.tw lo = [.int .i64 x.op, .int .i64 x.a, .int .i64 x.b, .str x.text] from rfl] at hra
    replace hrow : (copyR (TInstr.tw 0) TInstr.tz l i)[i]? = some [.int .i64 0, .int .i64 0, .int .i64 0, .str ⟨#[]⟩] := hrow
    repeat' (first | refine W_ ?_ | refine e_call hG hst (hct) ?_ | refine e_store ?_ | refine c_ (fun hc => ?_) (fun hc => ?_) | refine g_ (fun hg => ?_) (fun hg => ?_))
    refine aq_round (i + 1) (by omega) (by omega) (.of _ nw_ od_ (by rw [← hset]; exact .refl _))
  · obtain rfl : i = l.length := by omega
    rw [copyR_full]
    repeat' (first | refine W_ ?_ | refine c_ (fun hc => ?_) (fun hc => ?_) | refine g_ (fun hg => ?_) (fun hg => ?_))
    exact aq_retm1 x_ rfl (so, bo) trivial rfl (.cons _ _ _ _ (.nil R)) pk_ (.tmp _ _ rfl) rfl
theorem toEntryS_own (hst : Stable G) (lo : Nat) (l : List TEntry) (hb : l.length ≤ 1048576 ∧ ∀ y ∈ l, TEntry.small 1048576 y) : CtM Tryz.prog G 53 [.sl lo 4 (l.map (TEntry.tw lo))] [] (fun _ : Nat × Nat => True) (fun y => [(y.1, y.2, .row 4 (l.map (TEntry.tw 0)))]) (fun y => .ms y.1 y.2 0 l.length) := by
  refine ctm_enter Tryz.func53 rfl Tryz.ntmps53 rfl rfl rfl fun w0 R gs objsR hG hR => ?_
  obtain rfl := hR.inv0
  clear hR
  have hlen := TEntry.len lo l
  have hl1 := hb.1
  have h0 := copyR_zero (TEntry.tw 0) TEntry.tz l
  repeat' (first | refine W_ ?_ | (refine e_make ?_; intro ss bb) | refine c_ (fun hc => ?_) (fun hc => ?_) | refine g_ (fun hg => ?_) (fun hg => ?_))
  generalize ss = so; generalize bb = bo
  apply aw_loopk (X := Nat) [0, 3, 1000000] (fun i => [(4, .int .i64 (i : Int))]) (fun i => (so, bo, .row 4 (copyR (TEntry.tw 0) TEntry.tz l i)) :: R) (fun i => i ≤ l.length) (fun i => l.length - i) 0 (Nat.zero_le _)
  exact kp_; exact nw_
  · rw [← h0]; exact .refl _
  intro i hi
  try dsimp only
  by_cases hlt : i < l.length
  · obtain ⟨hrow, hset⟩ := copyR_set (TEntry.tw 0) TEntry.tz hlt
    have hra : (l.map (TEntry.tw lo))[i]? = some (l[i].tw lo) := row_map hlt
    have hbi := hb.2 _ (List.getElem_mem hlt)
    generalize l[i] = x at hset hra hbi
    have hct := toEntry_ct hst lo x hbi
    unfold TEntry.tw at hct
    rw [show x.tw lo = [.int .i64 x.owner, .bool x.class_, .str x.selector, .int .i64 x.code] from rfl] at hra
    replace hrow : (copyR (TEntry.tw 0) TEntry.tz l i)[i]? = some [.int .i64 0, .bool false, .str ⟨#[]⟩, .int .i64 0] := hrow
    repeat' (first | refine W_ ?_ | refine e_call hG hst (hct) ?_ | refine e_store ?_ | refine c_ (fun hc => ?_) (fun hc => ?_) | refine g_ (fun hg => ?_) (fun hg => ?_))
    refine aq_round (i + 1) (by omega) (by omega) (.of _ nw_ od_ (by rw [← hset]; exact .refl _))
  · obtain rfl : i = l.length := by omega
    rw [copyR_full]
    repeat' (first | refine W_ ?_ | refine c_ (fun hc => ?_) (fun hc => ?_) | refine g_ (fun hg => ?_) (fun hg => ?_))
    exact aq_retm1 x_ rfl (so, bo) trivial rfl (.cons _ _ _ _ (.nil R)) pk_ (.tmp _ _ rfl) rfl
theorem toClassInfo_own (hst : Stable G) (lo : Nat) (x : TClassInfo) (hb : x.small 1048576) : CtM Tryz.prog G 131 [.agg [.str x.name, .int .i64 x.parent, .sl lo 1 (strR x.fields)]] [] (fun _ : Nat × Nat => True) (fun y => [(y.1, y.2, .row 1 (strR x.fields))]) (fun y => .agg [.str x.name, .int .i64 x.parent, .ms y.1 y.2 0 x.fields.length]) := by
  refine ctm_enter Tryz.func131 rfl Tryz.ntmps131 rfl rfl rfl fun w0 R gs objsR hG hR => ?_
  obtain rfl := hR.inv0
  clear hR
  have hin := toStringS_own hst lo x.fields hb.2.1
  repeat' (first | refine W_ ?_ | refine e_box ?_ | (refine e_alloc ?_; intro ss bb) | refine e_storep ?_ | ((with_reducible apply o_callM); rfl; kernel_rfl; (repeat (first | exact ArgsM.nil | ((with_reducible apply ArgsM.cons); rfl))); exact hG; exact hin; exact .nil _; intro y hy; refine al_app1 ?_) | refine c_ (fun hc => ?_) (fun hc => ?_) | refine g_ (fun hg => ?_) (fun hg => ?_))
  refine aq_retm1 x_ rfl y trivial rfl (.cons _ _ _ _ (.nil R)) pk_ (.cell _ _ _ _ _ rfl mm_ (by kernel_rfl) (by kernel_rfl) (by kernel_rfl)) rfl
theorem toClassInfoS_own (hst : Stable G) (lo : Nat) (l : List TClassInfo) (hb : l.length ≤ 1048576 ∧ ∀ y ∈ l, TClassInfo.small 1048576 y) : CtM Tryz.prog G 51 [.sl lo 3 (l.map (TClassInfo.tw lo))] [] (fun y : (Nat × Nat) × List (Nat × Nat) => y.2.length = l.length) (fun y => (y.1.1, y.1.2, .row 3 (nR clsMk l y.2)) :: nO clsOb l y.2) (fun y => .ms y.1.1 y.1.2 0 l.length) := by
  refine ctm_enter Tryz.func51 rfl Tryz.ntmps51 rfl rfl rfl fun w0 R gs objsR hG hR => ?_
  obtain rfl := hR.inv0
  clear hR
  have hlen := TClassInfo.len lo l
  have hl1 := hb.1
  have h0 : List.replicate l.length TClassInfo.tz = nR clsMk (l.take 0) [] ++ List.replicate (l.length - 0) TClassInfo.tz := by simp [nR]
  repeat' (first | refine W_ ?_ | (refine e_make ?_; intro ss bb) | refine c_ (fun hc => ?_) (fun hc => ?_) | refine g_ (fun hg => ?_) (fun hg => ?_))
  generalize ss = so; generalize bb = bo
  apply aw_loopk (X := Nat × List (Nat × Nat)) [0, 3, 1000000] (fun x => [(4, .int .i64 (x.1 : Int))]) (fun x => (so, bo, .row 3 (nR clsMk (l.take x.1) x.2 ++ List.replicate (l.length - x.1) TClassInfo.tz)) :: (nO clsOb (l.take x.1) x.2 ++ R)) (fun x => x.1 ≤ l.length ∧ x.2.length = x.1) (fun x => l.length - x.1) (0, []) ⟨Nat.zero_le _, rfl⟩
  exact kp_; exact nw_
  · rw [← h0]; exact .refl _
  rintro ⟨i, ps⟩ ⟨hi, hps⟩
  dsimp only at hi hps ⊢
  by_cases hlt : i < l.length
  · have hrs := fun p => nR_set clsMk TClassInfo.tz hlt hps p
    have hos := fun p => nO_snoc clsOb hlt hps p
    have hra : (l.map (TClassInfo.tw lo))[i]? = some (l[i].tw lo) := row_map hlt
    have hbi := hb.2 _ (List.getElem_mem hlt)
    generalize l[i] = x at hrs hos hra hbi
    have hct := toClassInfo_own hst lo x hbi
    rw [show x.tw lo = [.str x.name, .int .i64 x.parent, .sl lo 1 (strR x.fields)] from rfl] at hra
    have hrow : (nR clsMk (l.take i) ps ++ List.replicate (l.length - i) TClassInfo.tz)[i]? = some [.str ⟨#[]⟩, .int .i64 0, .nils] := (hrs (0, 0)).1
    generalize nO clsOb (l.take i) ps = T at hos ⊢
    repeat' (first | refine W_ ?_ | ((with_reducible apply o_callM); rfl; kernel_rfl; (repeat (first | exact ArgsM.nil | ((with_reducible apply ArgsM.cons); rfl))); exact hG; exact hct; exact .nil _; intro y hy; refine al_app1 ?_) | refine e_store ?_ | refine c_ (fun hc => ?_) (fun hc => ?_) | refine g_ (fun hg => ?_) (fun hg => ?_))
    refine aq_round (i + 1, ps ++ [y]) ⟨by dsimp only; omega, by dsimp only; simp [hps]⟩ (by dsimp only; omega) (.of _ nw_ od_ ?_)
    dsimp only
    rw [hos y, ← (hrs y).2]
    exact pick_snoc _ _ T R
  · obtain rfl : i = l.length := by omega
    rw [List.take_of_length_le (Nat.le_refl _), Nat.sub_self, List.replicate_zero, List.append_nil]
    repeat' (first | refine W_ ?_ | refine c_ (fun hc => ?_) (fun hc => ?_) | refine g_ (fun hg => ?_) (fun hg => ?_))
    exact aq_retm1 x_ rfl ((so, bo), ps) hps rfl (.cons _ _ _ _ (.app _ R)) (.refl _) (.tmp _ _ rfl) rfl
theorem toCode_own (hst : Stable G) (lo : Nat) (x : TCode) (hb : x.small 1048576) : CtM Tryz.prog G 132 [.agg [.bool x.block, .int .i64 x.params, .int .i64 x.slots, .sl lo 4 (x.instrs.map (TInstr.tw lo))]] [] (fun _ : Nat × Nat => True) (fun y => [(y.1, y.2, .row 4 (x.instrs.map (TInstr.tw 0)))]) (fun y => .agg [.bool x.block, .int .i64 x.params, .int .i64 x.slots, .ms y.1 y.2 0 x.instrs.length]) := by
  refine ctm_enter Tryz.func132 rfl Tryz.ntmps132 rfl rfl rfl fun w0 R gs objsR hG hR => ?_
  obtain rfl := hR.inv0
  clear hR
  have hin := toInstrS_own hst lo x.instrs hb
  repeat' (first | refine W_ ?_ | refine e_box ?_ | (refine e_alloc ?_; intro ss bb) | refine e_storep ?_ | ((with_reducible apply o_callM); rfl; kernel_rfl; (repeat (first | exact ArgsM.nil | ((with_reducible apply ArgsM.cons); rfl))); exact hG; exact hin; exact .nil _; intro y hy; refine al_app1 ?_) | refine c_ (fun hc => ?_) (fun hc => ?_) | refine g_ (fun hg => ?_) (fun hg => ?_))
  refine aq_retm1 x_ rfl y trivial rfl (.cons _ _ _ _ (.nil R)) pk_ (.cell _ _ _ _ _ rfl mm_ (by kernel_rfl) (by kernel_rfl) (by kernel_rfl)) rfl
theorem toCodeS_own (hst : Stable G) (lo : Nat) (l : List TCode) (hb : l.length ≤ 1048576 ∧ ∀ y ∈ l, TCode.small 1048576 y) : CtM Tryz.prog G 52 [.sl lo 4 (l.map (TCode.tw lo))] [] (fun y : (Nat × Nat) × List (Nat × Nat) => y.2.length = l.length) (fun y => (y.1.1, y.1.2, .row 4 (nR codMk l y.2)) :: nO codOb l y.2) (fun y => .ms y.1.1 y.1.2 0 l.length) := by
  refine ctm_enter Tryz.func52 rfl Tryz.ntmps52 rfl rfl rfl fun w0 R gs objsR hG hR => ?_
  obtain rfl := hR.inv0
  clear hR
  have hlen := TCode.len lo l
  have hl1 := hb.1
  have h0 : List.replicate l.length TCode.tz = nR codMk (l.take 0) [] ++ List.replicate (l.length - 0) TCode.tz := by simp [nR]
  repeat' (first | refine W_ ?_ | (refine e_make ?_; intro ss bb) | refine c_ (fun hc => ?_) (fun hc => ?_) | refine g_ (fun hg => ?_) (fun hg => ?_))
  generalize ss = so; generalize bb = bo
  apply aw_loopk (X := Nat × List (Nat × Nat)) [0, 3, 1000000] (fun x => [(4, .int .i64 (x.1 : Int))]) (fun x => (so, bo, .row 4 (nR codMk (l.take x.1) x.2 ++ List.replicate (l.length - x.1) TCode.tz)) :: (nO codOb (l.take x.1) x.2 ++ R)) (fun x => x.1 ≤ l.length ∧ x.2.length = x.1) (fun x => l.length - x.1) (0, []) ⟨Nat.zero_le _, rfl⟩
  exact kp_; exact nw_
  · rw [← h0]; exact .refl _
  rintro ⟨i, ps⟩ ⟨hi, hps⟩
  dsimp only at hi hps ⊢
  by_cases hlt : i < l.length
  · have hrs := fun p => nR_set codMk TCode.tz hlt hps p
    have hos := fun p => nO_snoc codOb hlt hps p
    have hra : (l.map (TCode.tw lo))[i]? = some (l[i].tw lo) := row_map hlt
    have hbi := hb.2 _ (List.getElem_mem hlt)
    generalize l[i] = x at hrs hos hra hbi
    have hct := toCode_own hst lo x hbi
    rw [show x.tw lo = [.bool x.block, .int .i64 x.params, .int .i64 x.slots, .sl lo 4 (x.instrs.map (TInstr.tw lo))] from rfl] at hra
    have hrow : (nR codMk (l.take i) ps ++ List.replicate (l.length - i) TCode.tz)[i]? = some [.bool false, .int .i64 0, .int .i64 0, .nils] := (hrs (0, 0)).1
    generalize nO codOb (l.take i) ps = T at hos ⊢
    repeat' (first | refine W_ ?_ | ((with_reducible apply o_callM); rfl; kernel_rfl; (repeat (first | exact ArgsM.nil | ((with_reducible apply ArgsM.cons); rfl))); exact hG; exact hct; exact .nil _; intro y hy; refine al_app1 ?_) | refine e_store ?_ | refine c_ (fun hc => ?_) (fun hc => ?_) | refine g_ (fun hg => ?_) (fun hg => ?_))
    refine aq_round (i + 1, ps ++ [y]) ⟨by dsimp only; omega, by dsimp only; simp [hps]⟩ (by dsimp only; omega) (.of _ nw_ od_ ?_)
    dsimp only
    rw [hos y, ← (hrs y).2]
    exact pick_snoc _ _ T R
  · obtain rfl : i = l.length := by omega
    rw [List.take_of_length_le (Nat.le_refl _), Nat.sub_self, List.replicate_zero, List.append_nil]
    repeat' (first | refine W_ ?_ | refine c_ (fun hc => ?_) (fun hc => ?_) | refine g_ (fun hg => ?_) (fun hg => ?_))
    exact aq_retm1 x_ rfl ((so, bo), ps) hps rfl (.cons _ _ _ _ (.app _ R)) (.refl _) (.tmp _ _ rfl) rfl
end
end Go.Proofs.YtiihihgjiklnoaaGreatDoor
/- The law's own text for a mark. -/
namespace Go.Proofs.YtiihihgjiklnoaaGreatDoor
open Go Go.RowKit
/-- A mark's text. -/
def markB (n : Int) : ByteArray := ⟨(109 :: Lib.itoa n).toArray⟩
set_option maxHeartbeats 400000 in
set_option maxRecDepth 8000 in
theorem markText_any (n : Int) (w : World) (h0 : 0 ≤ n) (h1 : n ≤ 9000000000000000000) : Calls Tryz.prog 96 #[.int .i64 n] w fun e w' => e = .returned (.string (markB n)) ∧ Below w.heap.size w w' := by
  by_cases hz : n = 0
  · subst hz
    go_enter Tryz.func96, Tryz.ntmps96
    go_wp2
    go_ret
    exact ⟨ret_str (by decide +kernel), Below.refl _ _⟩
  have Hlen := Lib.hid (pre_length (u := n.natAbs) (by omega))
  have HP := Lib.hid (numB_pre hz)
  have hpos : 0 < n := by omega
  have hle : ¬ n ≤ 0 := by omega
  go_enter Tryz.func96, Tryz.ntmps96
  go_wp2
  go_loopw [0, 3] (fun nv ov wr => ∃ (m : Nat) (s : ByteArray), nv = .int .i64 (m : Int) ∧ ov = .string s ∧ m ≤ 9000000000000000000 ∧ pre m ++ s.data.toList = pre n.natAbs ∧ Below w.heap.size w wr) (fun nv _ _ => (intOf nv).natAbs)
  case atStart => exact ⟨n.natAbs, _, by rw [show ((n.natAbs : Nat) : Int) = n by omega], rfl, by omega, by simp, Below.refl _ _⟩
  case round =>
    obtain ⟨m, s, rfl, rfl, hm1, hr, hb⟩ := hrel
    have hsz : s.size ≤ 19 := by
      have := congrArg List.length hr
      rw [List.length_append, size_toList] at this
      have := Hlen.out
      omega
    have Hr := Lib.hid hr
    clear hr
    by_cases hm : m = 0
    · subst hm
      go_wp2
      go_ret
      refine ⟨ret_str ?_, hb⟩
      have h2 := Hr.out
      rw [show pre 0 = [] from rfl, List.nil_append] at h2
      refine bytes_eq ?_
      rw [ByteArray.data_append, Array.toList_append, h2]
      have h3 := HP.out
      rw [if_neg (by omega)] at h3
      have h4 : Lib.itoa n = pre n.natAbs := congrArg (fun b : ByteArray => b.data.toList) h3
      show _ = 109 :: Lib.itoa n
      rw [h4]; rfl
    · have hd9 : m % 10 ≤ 9 := by omega
      have hp := pre_step (u := m) hm
      generalize hd : m % 10 = d at hd9 hp
      have hdi : (m : Int) % 10 = (d : Int) := by omega
      have hdq : ((m / 10 : Nat) : Int) = (m : Int) / 10 := by omega
      obtain ⟨b, hbd⟩ : ∃ b, UInt8.ofNat (48 + d) = b := ⟨_, rfl⟩
      rw [hbd] at hp
      have Hp := Lib.hid hp
      have hcv := conv_one 246 5 wr (48 + d) (by omega) (48 + (d : Int)) (by omega) Tryz.underlying246 Tryz.underlying5
      rw [hbd] at hcv
      have Hdq := Lib.hid hdq
      clear hp hd hbd hdq
      have hnext : pre (m / 10) ++ ((⟨#[b]⟩ : ByteArray) ++ s).data.toList = pre n.natAbs := by
        rw [← Hr.out, Hp.out, ByteArray.data_append, Array.toList_append, List.append_assoc]
      have Hn := Lib.hid hnext
      clear hnext
      have hbel : ∀ o, Below w.heap.size w (wr.alloc o) := fun o => hb.trans (((Below.refl _ _).alloc (Nat.le_refl _) o).mono hb.size)
      have hm0 : (0 : Int) < (m : Int) := by omega
      clear hb
      go_wp2
      go_roundw
      case rel => exact ⟨m / 10, _, by rw [Hdq.out], rfl, by omega, Hn.out, hbel _⟩
      case measure => simp [intOf]; omega

theorem markText_ct {G : World → Prop} (n : Int) (h0 : 0 ≤ n) (h1 : n ≤ 9000000000000000000) : Ct Tryz.prog G 96 [.int .i64 n] (fun _ => .str (markB n)) := ct_int_str fun w _ => markText_any n w h0 h1
end Go.Proofs.YtiihihgjiklnoaaGreatDoor
