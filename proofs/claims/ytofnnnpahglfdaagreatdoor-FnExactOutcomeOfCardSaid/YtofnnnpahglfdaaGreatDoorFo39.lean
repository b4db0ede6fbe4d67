/- Part 39 of the proof: the texts ImU, RcQ, PrP, FtP, PrA, PrB, PrC. -/
import Derived.Test.YtofnnnpahglfdaaGreatDoorFo36
import Derived.Test.YtofnnnpahglfdaaGreatDoorFo37
import Derived.Test.YtofnnnpahglfdaaGreatDoorFo22
import Derived.Test.YtofnnnpahglfdaaGreatDoorFo34
import Derived.Test.YtofnnnpahglfdaaGreatDoorFo21
import Derived.Test.YtofnnnpahglfdaaGreatDoorFo7
import Derived.Test.YtofnnnpahglfdaaGreatDoorFo4
import Derived.Test.YtofnnnpahglfdaaGreatDoorFo5
import Derived.Test.YtofnnnpahglfdaaGreatDoorFo3
import Derived.Test.YtofnnnpahglfdaaGreatDoorFo10
import Derived.Test.YtofnnnpahglfdaaGreatDoorFo8
import Derived.Test.YtofnnnpahglfdaaGreatDoorFo27
set_option linter.all false
set_option maxHeartbeats 4000000
set_option maxRecDepth 20000
namespace Go.Proofs.YtofnnnpahglfdaaGreatDoor
open Go Go.RowKit
theorem abn (x : ad) : x.pt.tvs = x.tw 0 := by simp [PT.tvs, PT.tvsL, ad.pt, ad.tw]
theorem yR {t : PT} {x : ay} (h : fo t x) : t.tvs = x.tw 0 := by
 obtain ⟨A2, c2, A3, c3, rfl⟩ := h
 simp [PT.tvs, PT.tvsL, ay.tw, ad.pt, ad.tw, aS, PT.rowsL_map, Function.comp_def]
theorem zA {t : PT} {x : aJ} (h : fL t x) : t.tvs = x.tw 0 := by
 obtain ⟨A0, c0, l0, A1, c1, l1, A2, c2, h0, h1, rfl⟩ := h
 simp only [PT.tvs, PT.tvsL, aJ.tw, nB h0 (fun _ _ => kE), nB h1 (fun _ _ => yR), PT.rowsL_map, List.map_map, List.append_nil, List.cons_append, List.nil_append]
 rfl
theorem we {t : PT} {x : ap} (h : ej t x) : t.tvs = x.tw 0 := by
 obtain ⟨A7, c7, A8, c8, A9, c9, rfl⟩ := h
 simp [PT.tvs, PT.tvsL, ap.tw, ad.pt, ad.tw, PT.rowsL_map, Function.comp_def]
theorem sX {t : PT} {x : ai} (h : eH t x) : t.tvs = x.tw 0 := by
 obtain ⟨t0, t1, A2, c2, A3, c3, l3, A4, c4, A5, c5, h0, h1, h3, rfl⟩ := h
 simp only [PT.tvs, PT.tvsL, tC h0, zA h1, ai.tw, aw.tw, aJ.tw, nB h3 (fun _ _ => we), PT.rowsL_map, List.map_map, List.append_nil, List.cons_append, List.nil_append, abn]
 rfl
theorem um {w : World} {S : Nat -> Prop} {t : PT} {x : ay} (h : fo t x) (hs : dM w S t) (hx : x.sane) : ay.small 9223372036854775807 x := by
 obtain ⟨A2, c2, A3, c3, rfl⟩ := h
 simp only [dM, ch] at hs
 obtain ⟨_, _, ⟨a1, a2, _⟩, ⟨b1, b2, _⟩, _⟩ := hs
 simp only [List.length_map] at a1 b1
 exact ⟨⟨Nat.le_trans a1 a2, fun y hy => (hx.2.2.1 y hy).2.2⟩, Nat.le_trans b1 b2⟩
theorem wu {w : World} {S : Nat -> Prop} {t : PT} {x : aJ} (h : fL t x) (hs : dM w S t) (hx : x.sane) : aJ.small 9223372036854775807 x := by
 obtain ⟨A0, c0, l0, A1, c1, l1, A2, c2, h0, h1, rfl⟩ := h
 simp only [dM, ch] at hs
 obtain ⟨⟨a1, a2, _, _, a5⟩, ⟨b1, b2, _, _, b5⟩, ⟨d1, d2, _, _, _⟩, _⟩ := hs
 simp only [List.length_map] at d1
 exact ⟨⟨by rw [<- h0.1]; exact Nat.le_trans a1 a2, iK h0 a5 (fun _ _ => ir) hx.1⟩, ⟨by rw [<- h1.1]; exact Nat.le_trans b1 b2, iK h1 b5 (fun _ _ => um) hx.2.1⟩, Nat.le_trans d1 d2, hx.2.2.1⟩
theorem rX {w : World} {S : Nat -> Prop} {t : PT} {x : ap} (h : ej t x) (hs : dM w S t) (hx : x.sane) : ap.small 9223372036854775807 x := by
 obtain ⟨A7, c7, A8, c8, A9, c9, rfl⟩ := h
 simp only [dM, ch] at hs
 obtain ⟨_, _, _, _, _, _, _, ⟨a1, a2, _⟩, ⟨b1, b2, _⟩, ⟨d1, d2, _⟩, _⟩ := hs
 simp only [List.length_map] at a1 b1 d1
 obtain ⟨_, _, _, _, _, _, g6, g7, g8, g9, _⟩ := hx
 exact ⟨g6.2.2, ⟨Nat.le_trans a1 a2, fun y hy => (g7 y hy).2.2⟩, ⟨Nat.le_trans b1 b2, fun y hy => (g8 y hy).2.2⟩, ⟨Nat.le_trans d1 d2, fun y hy => (g9 y hy).2.2⟩⟩
theorem nT {w : World} {S : Nat -> Prop} {t : PT} {x : ai} (h : eH t x) (hs : dM w S t) (hx : x.sane) : ai.small 9223372036854775807 x := by
 obtain ⟨t0, t1, A2, c2, A3, c3, l3, A4, c4, A5, c5, h0, h1, h3, rfl⟩ := h
 simp only [dM, ch] at hs
 obtain ⟨s0, s1, ⟨a1, a2, _⟩, ⟨b1, b2, _, _, b5⟩, ⟨d1, d2, _⟩, ⟨e1, e2, _⟩, _⟩ := hs
 simp only [List.length_map] at a1 d1 e1
 obtain ⟨g0, g1, g2, g3, _, _, _, _, g8, g9⟩ := hx
 exact ⟨pu h0 s0 g0, wu h1 s1 g1, ⟨Nat.le_trans a1 a2, fun y hy => (g2 y hy).2.2.2.2.2⟩, ⟨by rw [<- h3.1]; exact Nat.le_trans b1 b2, iK h3 b5 (fun _ _ => rX) g3⟩, ⟨Nat.le_trans d1 d2, fun _ _ => trivial⟩, Nat.le_trans e1 e2, g8.2.2, g9⟩
structure agr (m : ai) : Prop where
 val : oL m m.value
 fld : ∀ o ∈ m.store.objects, ∀ v ∈ o.fields, oL m v
 one : ∀ o ∈ m.store.objects, o.kind = 1 -> o.numbers = [] \/ ∃ a b c, o.numbers = [a, b, c] /\ (-1 <= a /\ a < m.contexts.length) /\ (-1 <= b /\ b < m.contexts.length)
 sem : ∀ o ∈ m.store.objects, o.kind = 3 -> 1 <= o.numbers.length /\ ∀ p ∈ o.numbers.drop 1, 0 <= p /\ p < m.processes.length
 blk : ∀ b ∈ m.blocks, oL m b.self /\ (0 <= b.outer /\ b.outer < m.contexts.length) /\ (0 <= b.home /\ b.home < m.contexts.length)
 ctx : ∀ (i : Nat) (h : i < m.contexts.length), (-1 <= m.contexts[i].sender /\ m.contexts[i].sender < i) /\ (-1 <= m.contexts[i].outer /\ m.contexts[i].outer < i) /\ (-1 <= m.contexts[i].home /\ m.contexts[i].home <= i) /\ (m.contexts[i].mark = 3 \/ m.contexts[i].mark = 5 -> -1 <= m.contexts[i].other /\ m.contexts[i].other < i) /\ oL m m.contexts[i].self /\ (∀ v ∈ m.contexts[i].slots, oL m v) /\ (∀ v ∈ m.contexts[i].stack, oL m v) /\ ∀ v ∈ m.contexts[i].values, oL m v
 prc : ∀ p ∈ m.processes, -1 <= p.at_ /\ p.at_ < m.contexts.length
 now : 0 <= m.now /\ m.now < m.processes.length
 rdy : ∀ p ∈ m.ready, 0 <= p /\ p < m.processes.length
def aby (s : ByteArray) : ByteArray := if s.size <= 200 then s else s.extract 0 200
theorem tr (s : ByteArray) : (aby s).size <= 200 := by
 unfold aby
 split
 ·assumption
 ·rw [ByteArray.size_extract]; omega
def ci (l : List UInt8) : List UInt8 := l.flatMap (fun b => if b = 39 then [39, 39] else [b])
def gZ (t : ByteArray) : ByteArray := ⟨(39 :: (ci t.data.toList ++ [39])).toArray⟩
def qt : List ByteArray := [⟨#[65]⟩, ⟨#[69]⟩, ⟨#[73]⟩, ⟨#[79]⟩, ⟨#[85]⟩]
def wm (n : ByteArray) : Bool := ij qt (n.extract 0 1)
def adF (n : ByteArray) : ByteArray := if wm n then ⟨#[97, 110, 32]⟩ ++ n else ⟨#[97, 32]⟩ ++ n
def uE (st : aJ) (k : Int) : ByteArray := match st.classes[k.toNat]? with | some c => c.name | none => ⟨#[]⟩
def uz (st : aJ) (v : ad) : List ad := match st.objects[v.number.toNat]? with | some o => o.fields | none => []
def cP (st : aJ) (v : ad) : Option ByteArray :=
 if v.kind = 0 then some ⟨#[110, 105, 108]⟩
 else if v.kind = 1 then some (if v.number = 1 then ⟨#[116, 114, 117, 101]⟩ else ⟨#[102, 97, 108, 115, 101]⟩)
 else if v.kind = 2 then some (gn v.number)
 else if v.kind = 3 then some (aby (gZ v.text))
 else if v.kind = 4 then some (⟨#[35]⟩ ++ v.text)
 else if v.kind = 5 then some (uE st v.number)
 else if v.kind = 7 then some ⟨#[97, 32, 66, 108, 111, 99, 107]⟩
 else match st.objects[v.number.toNat]? with
   | some o => if o.kind = 2 then none else some (adF (uE st o.class_))
   | none => none
def aeu (xs : List ByteArray) : ByteArray := aby (⟨#[40]⟩ ++ jH xs spB ++ ⟨#[41]⟩)
def aY (st : aJ) : Nat -> ad -> ByteArray
 | 0, v => match cP st v with | some b => b | none => ⟨#[46, 46, 46]⟩
 | d + 1, v => match cP st v with | some b => b | none => aeu ((uz st v).map (aY st d))
theorem vq (b : UInt8) (r : List UInt8) : ci (b :: r) = (if b = 39 then [39, 39] else [b]) ++ ci r := by
 unfold ci
 rw [List.flatMap_cons]
theorem lu (l : List UInt8) : (ci l).length <= 2 * l.length := by
 induction l with
 | nil => exact Nat.zero_le _
 | cons b r ih =>
   have h : (if b = 39 then [39, 39] else [b] : List UInt8).length <= 2 := by split <;> simp
   rw [vq, List.length_append, List.length_cons]
   omega
theorem wd {l : List UInt8} {k : Nat} (h : k < l.length) : ci (l.take (k + 1)) = ci (l.take k) ++ (if l[k] = 39 then [39, 39] else [l[k]]) := by
 unfold ci
 rw [List.take_add_one, List.getElem?_eq_getElem h, Option.toList_some, List.flatMap_append, List.flatMap_cons, List.flatMap_nil, List.append_nil]
def qM (n : ByteArray) : Prop := 1 <= n.size /\ n.size <= 20 /\ bat n 0 < 128
instance (n : ByteArray) : Decidable (qM n) := by unfold qM; infer_instance
structure acR (st : aJ) (nb : Int) : Prop where
 nm : ∀ c ∈ st.classes, qM c.name
 cl : ∀ o ∈ st.objects, 0 <= o.class_ /\ o.class_ < st.classes.length
 fd : ∀ o ∈ st.objects, ∀ v ∈ o.fields, bI st nb v = true
 ar : ∀ o ∈ st.objects, o.kind = 2 -> o.fields.length <= 50
theorem xV {l : List UInt8} (h : bG l = true) : 1 <= l.length /\ l.length <= 20 /\ ((l.getD 0 0).toNat : Int) < 128 := by
 cases l with
 | nil => cases h
 | cons b r =>
   simp only [bG, Bool.and_eq_true] at h
   have h1 := of_decide_eq_true h.1.1
   have h2 := of_decide_eq_true h.1.2
   refine ⟨by simp, by simp; omega, ?_⟩
   show ((b.toNat : Nat) : Int) < 128
   omega
theorem wX {l : List UInt8} (h : bT l = true) : 1 <= l.length /\ l.length <= 20 /\ ((l.getD 0 0).toNat : Int) < 128 := by
 unfold bT at h
 rw [Bool.and_eq_true] at h
 exact xV h.1
theorem abu (c : UInt8) : ∀ l : List UInt8, ((spl c l).map List.length).sum + (spl c l).length = l.length + 1
 | [] => rfl
 | b :: r => by
   have ih := abu c r
   unfold spl
   by_cases h : b = c
   ·rw [if_pos h]; simp only [List.map_cons, List.sum_cons, List.length_cons, List.length_nil]; omega
   ·rw [if_neg h]
    cases hs : spl c r with
    | nil => rw [hs] at ih; simp at ih
    | cons x t =>
      rw [hs] at ih
      simp only [List.map_cons, List.sum_cons, List.length_cons, List.headD_cons, List.tail_cons] at ih |-
      omega
theorem adh (m : Nat) : ∀ l : List (List UInt8), (∀ x ∈ l, x.length <= m) -> (l.map List.length).sum <= m * l.length
 | [], _ => by simp
 | x :: r, h => by
   have h1 := adh m r fun y hy => h y (List.mem_cons_of_mem _ hy)
   have h2 := h x List.mem_cons_self
   simp only [List.map_cons, List.sum_cons, List.length_cons, Nat.mul_add, Nat.mul_one]
   omega
theorem aaK {l : List UInt8} (h : bY l = true) : l.length <= 200 := by
 unfold bY at h
 simp only [Bool.or_eq_true] at h
 rcases h with (h | h) | h
 ·have h2 : l ∈ ops := by simpa [ke] using h
  have : ∀ x ∈ ops, x.length <= 2 := by decide +kernel
  have := this l h2
  omega
 ·have := wX h; omega
 ·unfold kwL at h
  split at h
  ·split at h
   ·rename_i h1 h2
    simp only [Bool.and_eq_true, List.all_eq_true, decide_eq_true_eq] at h2
    have h3 := abu 58 l.dropLast
    have h4 := adh 20 _ fun x hx => (xV (h2.1 x hx)).2.1
    rw [List.length_dropLast] at h3
    omega
   ·cases h
  ·cases h
theorem rR : ∀ b ∈ bA, qM b.name := by
 have h : bA.all (fun b => decide (qM b.name)) = true := by decide +kernel
 intro b hb
 exact of_decide_eq_true (List.all_eq_true.1 h b hb)
open Classical in
theorem xR {l : List aa} (h : bH l = true) : ∀ c ∈ l, qM c.name := by
 have hp : je l := of_decide_eq_true h
 intro c hc
 obtain ⟨i, hi, rfl⟩ := List.getElem_of_mem hc
 have h1 := hp.2 i hi
 unfold dI at h1
 split at h1
 ·obtain ⟨b, hb, h2, _⟩ := h1
  rw [h2]
  exact rR b (List.mem_of_getElem? hb)
 ·have h2 := wX h1.1.1
  rw [aP] at h2
  exact h2
open Classical in
theorem rE {m : ai} (h : bX m = true) : acR m.store m.blocks.length := by
 have hi : abz m := of_decide_eq_true h
 have hst := hi.store
 unfold jD at hst
 simp only [Bool.and_eq_true] at hst
 obtain ⟨hcl, _, _, _, _, _, hob⟩ := hst
 have hob := List.all_eq_true.1 hob
 have h16 : 16 <= m.store.classes.length := (of_decide_eq_true hcl : je m.store.classes).1.1
 refine ⟨xR hcl, fun o ho => ?_, fun o ho v hv => ?_, fun o ho h2 => ?_⟩
 ·have h1 := hob o ho
  unfold fi at h1
  rw [Bool.and_eq_true] at h1
  have h3 := h1.2
  split at h3
  ·rw [Bool.and_eq_true] at h3
   have := of_decide_eq_true h3.1
   exact this.1
  ·split at h3
   ·have := of_decide_eq_true h3; omega
   ·split at h3
    ·have := of_decide_eq_true h3; omega
    ·cases h3
 ·have h1 := hob o ho
  unfold fi at h1
  rw [Bool.and_eq_true] at h1
  exact List.all_eq_true.1 h1.1 v hv
 ·have h1 := hob o ho
  unfold fi at h1
  rw [Bool.and_eq_true] at h1
  have h3 := h1.2
  rw [if_neg (by omega), if_pos h2] at h3
  exact (of_decide_eq_true h3).2.1
theorem zV {v : ad} (h : ju v.kind v.number v.text = true) : (v.kind = 0) \/ (v.kind = 1 /\ (v.number = 0 \/ v.number = 1)) \/ (v.kind = 2 /\ -999999999 <= v.number /\ v.number <= 999999999) \/ (v.kind = 3 /\ v.text.size <= 200) \/ (v.kind = 4 /\ v.text.size <= 200) \/ ((v.kind = 5 \/ v.kind = 6 \/ v.kind = 7) /\ 0 <= v.number) := by
 unfold ju at h
 rcases rB v.kind with h0 | h0 | h0 | h0 | h0 | h0 | h0 | h0 | h0
 ·exact .inl h0
 ·rw [if_neg (by omega), if_pos h0, Bool.and_eq_true] at h
  have := of_decide_eq_true h.1
  exact .inr (.inl ⟨h0, by omega⟩)
 ·rw [if_neg (by omega), if_neg (by omega), if_pos h0, Bool.and_eq_true] at h
  have := of_decide_eq_true h.1
  exact .inr (.inr (.inl ⟨h0, by omega, by omega⟩))
 ·rw [if_neg (by omega), if_neg (by omega), if_neg (by omega), if_pos h0, Bool.and_eq_true] at h
  have h2 := h.2
  unfold fb at h2
  rw [Bool.and_eq_true] at h2
  have := of_decide_eq_true h2.2
  exact .inr (.inr (.inr (.inl ⟨h0, by omega⟩)))
 ·rw [if_neg (by omega), if_neg (by omega), if_neg (by omega), if_neg (by omega), if_pos h0, Bool.and_eq_true] at h
  have h2 := aaK h.2
  rw [aP] at h2
  exact .inr (.inr (.inr (.inr (.inl ⟨h0, h2⟩))))
 all_goals first
   | (rw [if_neg (by omega), if_neg (by omega), if_neg (by omega), if_neg (by omega), if_neg (by omega), if_pos (by omega), Bool.and_eq_true] at h
      have := of_decide_eq_true h.1
      exact .inr (.inr (.inr (.inr (.inr ⟨by omega, this⟩)))))
   | (rw [if_neg (by omega), if_neg (by omega), if_neg (by omega), if_neg (by omega), if_neg (by omega), if_neg (by omega)] at h
      cases h)
inductive PrW (st : aJ) (v : ad) : Prop
 | nil (h : v.kind = 0)
 | bool (h : v.kind = 1) (h1 : v.number = 0 \/ v.number = 1)
 | int (h : v.kind = 2) (h1 : -999999999 <= v.number /\ v.number <= 999999999)
 | text (h : v.kind = 3) (h1 : v.text.size <= 200)
 | sym (h : v.kind = 4) (h1 : v.text.size <= 200)
 | cls (h : v.kind = 5) (k : Nat) (h1 : v.number = k) (h2 : k < st.classes.length)
 | blk (h : v.kind = 7)
 | obj (h : v.kind = 6) (k : Nat) (h1 : v.number = k) (h2 : k < st.objects.length)
theorem aa1 {st : aJ} {nb : Int} {v : ad} (h : bI st nb v = true) : PrW st v := by
 unfold bI at h
 rw [Bool.and_eq_true] at h
 rcases zV h.1 with h0 | ⟨h0, h1⟩ | ⟨h0, h1⟩ | ⟨h0, h1⟩ | ⟨h0, h1⟩ | ⟨h0, h1⟩
 ·exact .nil h0
 ·exact .bool h0 h1
 ·exact .int h0 h1
 ·exact .text h0 h1
 ·exact .sym h0 h1
 ·rcases h0 with h0 | h0 | h0
  ·have h2 := h.2
   rw [if_pos h0] at h2
   have := of_decide_eq_true h2
   exact .cls h0 v.number.toNat (by omega) (by omega)
  ·have h2 := h.2
   rw [if_neg (by omega), if_pos h0] at h2
   have := of_decide_eq_true h2
   exact .obj h0 v.number.toNat (by omega) (by omega)
  ·exact .blk h0
theorem iB {st : aJ} {k : Nat} (h : k < st.classes.length) : uE st (k : Int) = st.classes[k].name := by
 unfold uE
 rw [Int.toNat_natCast, List.getElem?_eq_getElem h]
theorem zx (n : ByteArray) : (adF n).size <= n.size + 3 := by
 unfold adF
 split
 ·rw [ByteArray.size_append, sJ]; simp only [List.size_toArray, List.length_cons, List.length_nil]; omega
 ·rw [ByteArray.size_append, sJ]; simp only [List.size_toArray, List.length_cons, List.length_nil]; omega
theorem ug {st : aJ} {nb : Int} (ok : acR st nb) {v : ad} (hv : bI st nb v = true) {b : ByteArray} (h : cP st v = some b) : b.size <= 300 := by
 unfold cP at h
 rcases aa1 hv with h0 | ⟨h0, h1⟩ | ⟨h0, h1⟩ | ⟨h0, h1⟩ | ⟨h0, h1⟩ | ⟨h0, k, h1, h2⟩ | h0 | ⟨h0, k, h1, h2⟩
 ·rw [if_pos h0] at h; cases h; decide +kernel
 ·rw [if_neg (by omega), if_pos h0] at h; cases h
  split <;> decide +kernel
 ·rw [if_neg (by omega), if_neg (by omega), if_pos h0] at h; cases h
  have := nC (n := v.number) (by omega) (by omega); omega
 ·rw [if_neg (by omega), if_neg (by omega), if_neg (by omega), if_pos h0] at h; cases h
  have := tr (gZ v.text); omega
 ·rw [if_neg (by omega), if_neg (by omega), if_neg (by omega), if_neg (by omega), if_pos h0] at h; cases h
  simp only [ByteArray.size_append, sJ, List.size_toArray, List.length_cons, List.length_nil]; omega
 ·rw [if_neg (by omega), if_neg (by omega), if_neg (by omega), if_neg (by omega), if_neg (by omega), if_pos h0, h1, iB h2] at h; cases h
  have := (ok.nm _ (List.getElem_mem h2)).2.1; omega
 ·rw [if_neg (by omega), if_neg (by omega), if_neg (by omega), if_neg (by omega), if_neg (by omega), if_neg (by omega), if_pos h0] at h; cases h
  decide +kernel
 ·rw [if_neg (by omega), if_neg (by omega), if_neg (by omega), if_neg (by omega), if_neg (by omega), if_neg (by omega), if_neg (by omega), h1, Int.toNat_natCast, List.getElem?_eq_getElem h2] at h
  dsimp only at h
  split at h
  ·cases h
  ·cases h
   obtain ⟨c1, c2⟩ := ok.cl _ (List.getElem_mem h2)
   obtain ⟨q, hq⟩ : ∃ q : Nat, st.objects[k].class_ = q := ⟨st.objects[k].class_.toNat, by omega⟩
   have hql : q < st.classes.length := by omega
   rw [hq, iB hql]
   have := (ok.nm _ (List.getElem_mem hql)).2.1
   have := zx st.classes[q].name
   omega
theorem jb {st : aJ} {nb : Int} (ok : acR st nb) {v : ad} (hv : bI st nb v = true) (d : Nat) : (aY st d v).size <= 300 := by
 cases d with
 | zero =>
   unfold aY
   split
   ·rename_i b h; exact ug ok hv h
   ·decide +kernel
 | succ d =>
   unfold aY
   split
   ·rename_i b h; exact ug ok hv h
   ·have := tr (⟨#[40]⟩ ++ jH ((uz st v).map (aY st d)) spB ++ ⟨#[41]⟩)
    show (aeu _).size <= 300
    unfold aeu
    omega
def ab1 (b : aw) (k : Int) : ByteArray := match b.classes[k.toNat]? with | some c => c.name | none => ⟨#[]⟩
def mB (b : aw) (k : Int) : List az -> Option ByteArray
 | [] => none
 | e :: r => if e.code = k then some (ab1 b e.owner ++ ⟨#[32]⟩ ++ e.selector) else mB b k r
def iL (b : aw) (k : Int) : ByteArray := if k = b.main then ⟨#[109, 97, 105, 110]⟩ else match mB b k b.entries with
 | some t => t
 | none => match b.codes[k.toNat]? with
   | some c => (if c.block then ⟨#[98, 108, 111, 99, 107, 32]⟩ else ⟨#[99, 111, 100, 101, 32]⟩) ++ gn k
   | none => ⟨#[]⟩
def iA (m : ai) (c : ap) : ByteArray := iL m.base c.code ++ ⟨#[32, 97, 116, 32]⟩ ++ gn c.pc ++ ⟨#[32, 115, 101, 108, 102, 32]⟩ ++ aY m.store 3 c.self
def j8 (m : ai) (i : Int) : ByteArray := match m.contexts[i.toNat]? with | some c => iA m c | none => ⟨#[]⟩
noncomputable def cu (m : ai) : List ByteArray := (cK m).map (j8 m)
theorem qq {b : aw} {k : Int} {es : List az} {i : Nat} (h : i < es.length) : mB b k (es.drop i) = if es[i].code = k then some (ab1 b es[i].owner ++ ⟨#[32]⟩ ++ es[i].selector) else mB b k (es.drop (i + 1)) := by
 rw [List.drop_eq_getElem_cons h]
 rfl
theorem rg {b : aw} {k : Nat} (h : k < b.classes.length) : ab1 b (k : Int) = b.classes[k].name := by
 unfold ab1
 rw [Int.toNat_natCast, List.getElem?_eq_getElem h]
structure aeS (b : aw) : Prop where
 nm : ∀ c ∈ b.classes, qM c.name
 en : ∀ e ∈ b.entries, (0 <= e.owner /\ e.owner < b.classes.length) /\ e.selector.size <= 200
 ln : b.codes.length <= 200 /\ b.entries.length <= 96
open Classical in
theorem aaJ {m : ai} (h : bX m = true) : aeS m.base := by
 have hi : abz m := of_decide_eq_true h
 have hv : eK m.base := of_decide_eq_true hi.ver
 obtain ⟨h1, h2, _, h4, _⟩ := hv
 have h5 : kN m.base.classes.length m.base.codes m.base.entries /\ m.base.entries.length <= 96 := of_decide_eq_true h4
 refine ⟨xR h1, fun e he => ?_, h2, h5.2⟩
 obtain ⟨i, hl, rfl⟩ := List.getElem_of_mem he
 have h6 := (h5.1 i hl).1.1
 have h7 : 16 <= m.base.entries[i].owner /\ m.base.entries[i].owner <= (m.base.classes.length : Int) - 1 := of_decide_eq_true h6.2.1
 have h8 := aaK h6.1
 rw [aP] at h8
 exact ⟨by omega, h8⟩
open Classical in
theorem agb {m : ai} (h : bX m = true) {a : Nat} (ha : a < m.contexts.length) (h0 : m.contexts[a].mark = 0) : ∃ q : Nat, m.contexts[a].code = q /\ q < m.base.codes.length := by
 have hp : abz m := of_decide_eq_true h
 obtain ⟨_, o, ho, _⟩ := dE hp.ver
 have h1 := (iZ ((hp.outs o ho).1 a ha)).2.2.2.2.2
 rw [if_pos h0] at h1
 unfold plB at h1
 simp only [Bool.and_eq_true] at h1
 obtain ⟨_, _, _, h4, _⟩ := h1
 have h4 : 0 <= m.contexts[a].code /\ m.contexts[a].code <= (m.base.codes.length : Int) - 1 := of_decide_eq_true h4
 exact ⟨m.contexts[a].code.toNat, by omega, by omega⟩
open Classical in
theorem abW {m : ai} (h : bX m = true) {a : Nat} (ha : a < m.contexts.length) : bI m.store m.blocks.length m.contexts[a].self = true := by
 have hp : abz m := of_decide_eq_true h
 obtain ⟨_, o, ho, _⟩ := dE hp.ver
 exact (iZ ((hp.outs o ho).1 a ha)).2.1
theorem aak {m : ai} : ∀ (n : Nat) (k i : Int), i ∈ frF m n k -> ∃ (q : Nat) (hq : q < m.contexts.length), i = q /\ m.contexts[q].mark = 0
 | 0, _, _, h => by simp [frF] at h
 | n + 1, k, i, h => by
   simp only [frF] at h
   cases hc : cxA m k with
   | none => rw [hc] at h; simp at h
   | some c =>
     rw [hc] at h
     dsimp only at h
     obtain ⟨h0, hl, he⟩ := j7 hc
     rcases List.mem_append.1 h with h1 | h1
     ·split at h1
      ·rename_i hm
       rw [List.mem_singleton] at h1
       exact ⟨k.toNat, hl, by omega, by rw [he]; exact hm⟩
      ·simp at h1
     ·exact aak n _ i h1
theorem qj {m : ai} {i : Int} (h : i ∈ cK m) : ∃ (q : Nat) (hq : q < m.contexts.length), i = q /\ m.contexts[q].mark = 0 := by
 unfold cK at h
 split at h
 ·exact aak _ _ _ h
 ·simp at h
theorem sD {m : ai} {q : Nat} (h : q < m.contexts.length) : j8 m (q : Int) = iA m m.contexts[q] := by
 unfold j8
 rw [Int.toNat_natCast, List.getElem?_eq_getElem h]
theorem qy {b : aw} (ok : aeS b) {k : Int} : ∀ (es : List az), (∀ e ∈ es, e ∈ b.entries) -> ∀ t, mB b k es = some t -> t.size <= 300
 | [], _, t, h => by cases h
 | e :: r, hm, t, h => by
   unfold mB at h
   split at h
   ·cases h
    have h1 := ok.en e (hm e List.mem_cons_self)
    obtain ⟨q, hq⟩ : ∃ q : Nat, e.owner = q := ⟨e.owner.toNat, by omega⟩
    have hql : q < b.classes.length := by omega
    have h2 := (ok.nm _ (List.getElem_mem hql)).2.1
    rw [hq, rg hql]
    simp only [ByteArray.size_append, sJ, List.size_toArray, List.length_cons, List.length_nil]
    omega
   ·exact qy ok r (fun x hx => hm x (List.mem_cons_of_mem _ hx)) t h
theorem nE {b : aw} (ok : aeS b) {k : Nat} (hk : k < b.codes.length) : (iL b (k : Int)).size <= 300 := by
 unfold iL
 split
 ·decide +kernel
 ·split
  ·rename_i t h
   exact qy ok _ (fun _ h => h) t h
  ·rw [Int.toNat_natCast, List.getElem?_eq_getElem hk]
   have h1 := nC (n := (k : Int)) (by omega) (by have := ok.ln.1; omega)
   dsimp only
   split <;> simp only [ByteArray.size_append, sJ, List.size_toArray, List.length_cons, List.length_nil] <;> omega
theorem lC {m : ai} (h : m.small 1048576) : (cu m).length <= 1048576 := by
 unfold cu
 rw [List.length_map]
 exact gN h
section
variable {G : World -> Prop}
theorem adj (n : Int) (h : i64 n) : Ct Tryz.prog G 59 [.int .i64 n] (fun _ => .str (gn n)) := i8 fun w _ => fY n w h.1 h.2
theorem yz (t : ByteArray) (ht : t.size <= 1048576) : Ct Tryz.prog G 137 [.agg [.int .i64 4, .str t, .int .i64 0]] (fun _ => .str (gZ t)) := by
 refine am Tryz.func137 rfl Tryz.ntmps137 rfl rfl fun w0 _ hG => ?_
 have hlz := aP t
 repeat' (first | refine W_ ?_ | refine aD ?_ | (refine kQ ?_; intro ss bb) | refine c_ (fun hc => ?_) (fun hc => ?_) | refine g_ (fun hg => ?_) (fun hg => ?_))
 generalize ss = so; generalize bb = b0
 apply ak (X := Nat × Nat) [1] (fun x => [(3, .ms so x.2 0 (39 :: ci (t.data.toList.take x.1)).length), (4, .int .i64 (x.1 : Int))]) (fun x => [(so, x.2, .row 1 (jy (39 :: ci (t.data.toList.take x.1))))]) (fun x => x.1 <= t.size) (fun x => t.size - x.1) (0, b0) (Nat.zero_le _)
 ·exact kp_
 ·exact dg.envCons (yI rfl rfl) nw_
 ·exact .refl _
 rintro ⟨k, b1⟩ hk
 dsimp only at hk |-
 have hql := lu (t.data.toList.take k)
 rw [List.length_take] at hql
 have hln := aO (39 :: ci (t.data.toList.take k))
 have hll : (39 :: ci (t.data.toList.take k)).length <= 2097153 := by rw [List.length_cons]; omega
 by_cases hlt : k < t.size
 ·have hkl : k < t.data.toList.length := by omega
  have hsn := wd hkl
  have hbt : bat t k = (t.data.toList[k].toNat : Int) := zw t hlt
  generalize t.data.toList[k] = c at hsn hbt
  by_cases h39 : c = 39
  ·subst h39
   rw [if_pos rfl] at hsn
   have hb2 : bat t k = 39 := hbt
   have hsn2 : (39 :: ci (t.data.toList.take (k + 1))) = (39 :: ci (t.data.toList.take k)) ++ [39] ++ [39] := by rw [hsn]; simp
   have hsl : (39 :: ci (t.data.toList.take (k + 1))).length = (39 :: ci (t.data.toList.take k)).length + 1 + 1 := by rw [hsn2]; simp
   generalize 39 :: ci (t.data.toList.take k) = L at hln hll hsn2 hsl |-
   have hln2 : (jy (L ++ [39])).length = L.length + 1 := by rw [aO]; simp
   repeat' (first | refine W_ ?_ | refine cH ?_ | ((with_reducible apply ck); rfl; rfl; rfl; kernel_rfl; (repeat (first | with_reducible exact mh | with_reducible refine mt ?_)); exact hln; exact (rfl : _ = 1); omega; exact kB _ 39 rfl; (intro bq; (repeat (first | with_reducible exact Upd.head _ | with_reducible apply Upd.tail))); intro bb) | ((with_reducible apply ck); rfl; rfl; rfl; kernel_rfl; (repeat (first | with_reducible exact mh | with_reducible refine mt ?_)); exact hln2; exact (rfl : _ = 1); omega; exact kB _ 39 hb2; (intro bq; (repeat (first | with_reducible exact Upd.head _ | with_reducible apply Upd.tail))); intro bz) | refine c_ (fun hc => ?_) (fun hc => ?_) | refine g_ (fun hg => ?_) (fun hg => ?_))
   rw [<- hsn2]
   exact ag (k + 1, bz) (by (try dsimp only); omega) (by (try dsimp only); omega) (.of _ (dg.envCons (yI rfl hsl.symm) nw_) od_ pk_)
  ·rw [if_neg h39] at hsn
   have hb2 : ¬ bat t k = 39 := fun h => h39 (UInt8.toNat_inj.1 (by have : ((39 : UInt8).toNat : Int) = 39 := rfl; omega))
   have hsn2 : (39 :: ci (t.data.toList.take (k + 1))) = (39 :: ci (t.data.toList.take k)) ++ [c] := by rw [hsn]; simp
   have hsl : (39 :: ci (t.data.toList.take (k + 1))).length = (39 :: ci (t.data.toList.take k)).length + 1 := by rw [hsn2]; simp
   generalize 39 :: ci (t.data.toList.take k) = L at hln hll hsn2 hsl |-
   repeat' (first | refine W_ ?_ | refine cH ?_ | ((with_reducible apply ck); rfl; rfl; rfl; kernel_rfl; (repeat (first | with_reducible exact mh | with_reducible refine mt ?_)); exact hln; exact (rfl : _ = 1); omega; exact kB _ c hbt; (intro bq; (repeat (first | with_reducible exact Upd.head _ | with_reducible apply Upd.tail))); intro bz) | refine c_ (fun hc => ?_) (fun hc => ?_) | refine g_ (fun hg => ?_) (fun hg => ?_))
   rw [<- hsn2]
   exact ag (k + 1, bz) (by (try dsimp only); omega) (by (try dsimp only); omega) (.of _ (dg.envCons (yI rfl hsl.symm) nw_) od_ pk_)
 ·obtain rfl : k = t.size := by omega
  rw [List.take_of_length_le (by omega)] at hln hll |-
  have hq : gZ t = ⟨((39 :: ci t.data.toList) ++ [39]).toArray⟩ := rfl
  rw [hq]
  generalize 39 :: ci t.data.toList = L at hln hll |-
  have hln3 : (L ++ [(39 : UInt8)]).length = L.length + 1 := by simp
  repeat' (first | refine W_ ?_ | refine cH ?_ | ((with_reducible apply ck); rfl; rfl; rfl; kernel_rfl; (repeat (first | with_reducible exact mh | with_reducible refine mt ?_)); exact hln; exact (rfl : _ = 1); omega; exact kB _ 39 rfl; (intro bq; (repeat (first | with_reducible exact Upd.head _ | with_reducible apply Upd.tail))); intro bz) | ((with_reducible apply lV); rfl; rfl; (repeat (first | with_reducible exact mh | with_reducible refine mt ?_)); exact hln3; kernel_rfl; kernel_rfl; kernel_rfl) | refine c_ (fun hc => ?_) (fun hc => ?_) | refine g_ (fun hg => ?_) (fun hg => ?_))
  exact r1_
theorem xB (s : ByteArray) : Ct Tryz.prog G 136 [.str s] (fun _ => .str (aby s)) := by
 refine am Tryz.func136 rfl Tryz.ntmps136 rfl rfl fun w0 _ hG => ?_
 unfold aby
 by_cases h : s.size <= 200
 ·rw [if_pos h]
  repeat' (first | refine W_ ?_ | refine c_ (fun hc => ?_) (fun hc => ?_) | refine g_ (fun hg => ?_) (fun hg => ?_))
  exact r1_
 ·rw [if_neg h]
  have h2 : 200 <= s.size := by omega
  repeat' (first | refine W_ ?_ | ((with_reducible apply nu); rfl; rfl; rfl; kernel_rfl; exact (rfl : (200 : Int) = ((200 : Nat) : Int)); exact h2) | refine c_ (fun hc => ?_) (fun hc => ?_) | refine g_ (fun hg => ?_) (fun hg => ?_))
  exact r1_
theorem tH (hst : aB G) (n : ByteArray) (hn : qM n) : Ct Tryz.prog G 138 [.str n] (fun _ => .str (adF n)) := by
 refine am Tryz.func138 rfl Tryz.ntmps138 rfl rfl fun w0 _ hG => ?_
 obtain ⟨h1, h2, _⟩ := hn
 have hh := sc (G := G) w0.heap.size qt (n.extract 0 1) (by decide)
 have hh2 : ij qt (n.extract 0 1) = wm n := rfl
 rw [hh2] at hh
 unfold adF
 cases hV : wm n with
 | true =>
   rw [hV] at hh
   repeat' (first | refine W_ ?_ | refine cH ?_ | refine ab hG hst (hh) ?_ | refine c_ (fun hc => ?_) (fun hc => ?_) | refine g_ (fun hg => ?_) (fun hg => ?_))
   exact r1_
 | false =>
   rw [hV] at hh
   repeat' (first | refine W_ ?_ | refine cH ?_ | refine ab hG hst (hh) ?_ | refine c_ (fun hc => ?_) (fun hc => ?_) | refine g_ (fun hg => ?_) (fun hg => ?_))
   exact r1_
end
theorem bC {st : aJ} {v : ad} {b : ByteArray} (d : Nat) (h : cP st v = some b) : aY st d v = b := by
 cases d <;> (unfold aY; rw [h])
theorem pN {st : aJ} {v : ad} (h : cP st v = none) : aY st 0 v = ⟨#[46, 46, 46]⟩ := by unfold aY; rw [h]
theorem ui {st : aJ} {v : ad} (d : Nat) (h : cP st v = none) : aY st (d + 1) v = aeu ((uz st v).map (aY st d)) := by
 rw [aY]
 rw [h]
theorem xv {st : aJ} {k : Nat} {t : ByteArray} (h : k < st.classes.length) : cP st ⟨5, (k : Int), t⟩ = some st.classes[k].name := by
 unfold cP
 dsimp only
 rw [if_neg (by decide), if_neg (by decide), if_neg (by decide), if_neg (by decide), if_neg (by decide), if_pos rfl, iB h]
theorem wH {st : aJ} {k : Nat} {t : ByteArray} (h : k < st.objects.length) : cP st ⟨6, (k : Int), t⟩ = if st.objects[k].kind = 2 then none else some (adF (uE st st.objects[k].class_)) := by
 unfold cP
 dsimp only
 rw [if_neg (by decide), if_neg (by decide), if_neg (by decide), if_neg (by decide), if_neg (by decide), if_neg (by decide), if_neg (by decide)]
 rw [Int.toNat_natCast, List.getElem?_eq_getElem h]
theorem zJ {st : aJ} {k : Nat} {t : ByteArray} (h : k < st.objects.length) : uz st ⟨6, (k : Int), t⟩ = st.objects[k].fields := by
 unfold uz
 dsimp only
 rw [Int.toNat_natCast, List.getElem?_eq_getElem h]
theorem mN {c : Nat} {xs : List ByteArray} {sep : ByteArray} (hs : sep.size <= 1) (hx : ∀ x ∈ xs, ByteArray.size x <= c) : ∀ k, k <= xs.length -> (fR xs sep k).length <= k * (c + 1)
 | 0, _ => by rw [pE]; simp
 | k + 1, hk => by
   have ih := mN hs hx k (by omega)
   have hlt : k < xs.length := by omega
   have h1 := hx _ (List.getElem_mem hlt)
   have h2 := aP xs[k]
   by_cases h0 : k = 0
   ·subst h0
    rw [tL sep hlt]
    omega
   ·rw [qg hlt (by omega)]
    simp only [List.length_append, aP]
    rw [Nat.succ_mul]
    omega
theorem p8 {xs : List ByteArray} {sep : ByteArray} : (jH xs sep).size = (fR xs sep xs.length).length := by
 unfold jH fR
 rw [List.take_of_length_le (Nat.le_refl _)]
 show (List.toArray _).size = _
 simp
section
variable {G : World -> Prop}
theorem qf (hst : aB G) (f lo : Nat) (st : aJ) (nb : Int) (ok : acR st nb) (hs : st.small 1048576) (d : Nat) (hd : d <= 3) (ih : ∀ e : Nat, e + 1 = d -> ∀ v : ad, bI st nb v = true -> Ct Tryz.prog G 60 [.cp f (st.tw lo), .agg [.int .i64 v.kind, .int .i64 v.number, .str v.text], .int .i64 (e : Int)] (fun _ => .str (aY st e v))) (v : ad) (hv : bI st nb v = true) : Ct Tryz.prog G 60 [.cp f (st.tw lo), .agg [.int .i64 v.kind, .int .i64 v.number, .str v.text], .int .i64 (d : Int)] (fun _ => .str (aY st d v)) := by
 refine am Tryz.func60 rfl Tryz.ntmps60 rfl rfl fun w0 _ hG => ?_
 have c1 := aa.len lo st.classes
 have c2 := ay.len lo st.objects
 have z1 := hs.1.1
 have z2 := hs.2.1.1
 have hw := aa1 hv
 obtain ⟨kd, nm, tx⟩ := v
 dsimp only at hw |-
 unfold aJ.tw at ih |-
 rcases hw with h0 | ⟨h0, h1⟩ | ⟨h0, h1⟩ | ⟨h0, h1⟩ | ⟨h0, h1⟩ | ⟨h0, k, h1, h2⟩ | h0 | ⟨h0, k, h1, h2⟩
 all_goals (dsimp only at h0; subst h0)
 ·rw [bC d (show cP st ⟨0, nm, tx⟩ = some ⟨#[110, 105, 108]⟩ by unfold cP; dsimp only; rw [if_pos rfl])]
  repeat' (first | refine W_ ?_ | refine aD ?_ | refine c_ (fun hc => ?_) (fun hc => ?_) | refine g_ (fun hg => ?_) (fun hg => ?_))
  exact r1_
 ·dsimp only at h1
  rcases h1 with h1 | h1
  ·subst h1
   rw [bC d (show cP st ⟨1, 0, tx⟩ = some ⟨#[102, 97, 108, 115, 101]⟩ by unfold cP; dsimp only; rw [if_neg (by decide), if_pos rfl]; rfl)]
   repeat' (first | refine W_ ?_ | refine aD ?_ | refine c_ (fun hc => ?_) (fun hc => ?_) | refine g_ (fun hg => ?_) (fun hg => ?_))
   exact r1_
  ·subst h1
   rw [bC d (show cP st ⟨1, 1, tx⟩ = some ⟨#[116, 114, 117, 101]⟩ by unfold cP; dsimp only; rw [if_neg (by decide), if_pos rfl]; rfl)]
   repeat' (first | refine W_ ?_ | refine aD ?_ | refine c_ (fun hc => ?_) (fun hc => ?_) | refine g_ (fun hg => ?_) (fun hg => ?_))
   exact r1_
 ·dsimp only at h1
  have hfm := adj (G := G) nm (by unfold i64; omega)
  rw [bC d (show cP st ⟨2, nm, tx⟩ = some (gn nm) by unfold cP; dsimp only; rw [if_neg (by decide), if_neg (by decide), if_pos rfl])]
  repeat' (first | refine W_ ?_ | refine aD ?_ | refine ab hG hst (hfm) ?_ | refine c_ (fun hc => ?_) (fun hc => ?_) | refine g_ (fun hg => ?_) (fun hg => ?_))
  exact r1_
 ·dsimp only at h1
  have htk := yz (G := G) tx (by omega)
  have hct := xB (G := G) (gZ tx)
  rw [bC d (show cP st ⟨3, nm, tx⟩ = some (aby (gZ tx)) by unfold cP; dsimp only; rw [if_neg (by decide), if_neg (by decide), if_neg (by decide), if_pos rfl])]
  repeat' (first | refine W_ ?_ | refine aD ?_ | refine eW ?_ | refine ab hG hst (htk) ?_ | refine ab hG hst (hct) ?_ | refine c_ (fun hc => ?_) (fun hc => ?_) | refine g_ (fun hg => ?_) (fun hg => ?_))
  exact r1_
 ·dsimp only at h1
  rw [bC d (show cP st ⟨4, nm, tx⟩ = some (⟨#[35]⟩ ++ tx) by unfold cP; dsimp only; rw [if_neg (by decide), if_neg (by decide), if_neg (by decide), if_neg (by decide), if_pos rfl])]
  repeat' (first | refine W_ ?_ | refine aD ?_ | refine c_ (fun hc => ?_) (fun hc => ?_) | refine g_ (fun hg => ?_) (fun hg => ?_))
  exact r1_
 ·dsimp only at h1
  subst h1
  have hrow := d8 (lo := lo) h2
  rw [bC d (xv h2)]
  generalize st.classes[k] = c at hrow |-
  repeat' (first | refine V_ ?_ | refine aD ?_ | refine c_ (fun hc => ?_) (fun hc => ?_) | refine g_ (fun hg => ?_) (fun hg => ?_))
  exact r1_
 ·rw [bC d (show cP st ⟨7, nm, tx⟩ = some ⟨#[97, 32, 66, 108, 111, 99, 107]⟩ by unfold cP; dsimp only; rw [if_neg (by decide), if_neg (by decide), if_neg (by decide), if_neg (by decide), if_neg (by decide), if_neg (by decide), if_pos rfl])]
  repeat' (first | refine W_ ?_ | refine aD ?_ | refine c_ (fun hc => ?_) (fun hc => ?_) | refine g_ (fun hg => ?_) (fun hg => ?_))
  exact r1_
 ·dsimp only at h1
  subst h1
  have hrow := ld (lo := lo) h2
  have hlf := wH (t := tx) h2
  have hfl := zJ (t := tx) h2
  obtain ⟨q1, q2⟩ := ok.cl _ (List.getElem_mem h2)
  have q3 := ok.fd _ (List.getElem_mem h2)
  have q4 := ok.ar _ (List.getElem_mem h2)
  generalize st.objects[k] = o at hrow hlf hfl q1 q2 q3 q4
  by_cases hk : o.kind = 2
  ·rw [if_pos hk] at hlf
   have q5 := q4 hk
   cases d with
   | zero =>
     rw [pN hlf]
     repeat' (first | refine W_ ?_ | refine aD ?_ | ((with_reducible apply i7 (id := 18) 8); kernel_rfl; kernel_rfl; kernel_rfl; (repeat (first | exact Cut.zero _ | apply Cut.succ)); rfl; rfl; rfl; rfl; rfl; kernel_rfl; rfl) | ((with_reducible apply u_y); exact yu_; rfl) | (with_reducible refine qk ?_; intro ss bb) | (refine aj ?_; intro ss bb) | refine ac ?_ | refine c_ (fun hc => ?_) (fun hc => ?_) | refine g_ (fun hg => ?_) (fun hg => ?_))
     exact r1_
   | succ e =>
     rw [ui e hlf, hfl]
     have ihe := ih e rfl
     have hfc := ad.len lo o.fields
     repeat' (first | refine W_ ?_ | refine aD ?_ | ((with_reducible apply i7 (id := 18) 8); kernel_rfl; kernel_rfl; kernel_rfl; (repeat (first | exact Cut.zero _ | apply Cut.succ)); rfl; rfl; rfl; rfl; rfl; kernel_rfl; rfl) | ((with_reducible apply u_y); exact yu_; rfl) | (with_reducible refine qk ?_; intro ss bb) | (refine aj ?_; intro ss bb) | refine ac ?_ | ((with_reducible apply o9 (n := 0)); rfl; rfl; kernel_rfl; kernel_rfl; rfl; kernel_rfl; rfl; rfl; rfl; rfl; intro ss bb) | refine c_ (fun hc => ?_) (fun hc => ?_) | refine g_ (fun hg => ?_) (fun hg => ?_))
     rename_i s7 b7
     generalize ss = so; generalize bb = b0
     apply ak (X := Nat × Nat) [0, 2, 7] (fun x => [(8, .ms so x.2 0 x.1), (9, .int .i64 (x.1 : Int))]) (fun x => [(so, x.2, .row 1 (a8 ((o.fields.take x.1).map (aY st e)))), (s7, b7, .box [.int .i64 o.kind, .int .i64 o.class_, .sl lo 3 (o.fields.map (ad.tw lo)), .sl lo 1 (aS o.numbers)])]) (fun x => x.1 <= o.fields.length) (fun x => o.fields.length - x.1) (0, b0) (Nat.zero_le _)
     ·exact kp_
     ·exact nw_
     ·exact .refl _
     rintro ⟨j, b1⟩ hj
     dsimp only at hj |-
     by_cases hjl : j < o.fields.length
     ·have hr3 := gO (lo := lo) hjl
      have hpr := ihe _ (q3 _ (List.getElem_mem hjl))
      have hln : (a8 ((o.fields.take j).map (aY st e))).length = j := by rw [aZ, List.length_map, List.length_take]; omega
      have hsn : (o.fields.take (j + 1)).map (aY st e) = (o.fields.take j).map (aY st e) ++ [aY st e o.fields[j]] := kO hjl
      generalize (o.fields.take j).map (aY st e) = L at hln hsn |-
      generalize o.fields[j] = w at hr3 hpr hsn
      repeat' (first | refine W_ ?_ | refine ab hG hst (hpr) ?_ | refine cH ?_ | ((with_reducible apply ck); rfl; rfl; rfl; kernel_rfl; (repeat (first | with_reducible exact mh | with_reducible refine mt ?_)); exact hln; exact (rfl : _ = 1); omega; exact nI _ _; (intro bq; (repeat (first | with_reducible exact Upd.head _ | with_reducible apply Upd.tail))); intro bz) | refine c_ (fun hc => ?_) (fun hc => ?_) | refine g_ (fun hg => ?_) (fun hg => ?_))
      rw [<- hsn]
      exact ag (j + 1, bz) (by (try dsimp only); omega) (by (try dsimp only); omega) (.of _ nw_ od_ pk_)
     ·obtain rfl : j = o.fields.length := by omega
      rw [List.take_length]
      have hxl : (o.fields.map (aY st e)).length = o.fields.length := List.length_map _
      have hxs : ∀ x ∈ o.fields.map (aY st e), ByteArray.size x <= 300 := fun x hx => by
        obtain ⟨w, hw, rfl⟩ := List.mem_map.1 hx
        exact jb ok (q3 w hw) e
      have hln : (a8 (o.fields.map (aY st e))).length = o.fields.length := by rw [aZ]; exact hxl
      have hjl2 := fun k hk => mN (sep := spB) (by decide) hxs k hk
      have hjn : Ct Tryz.prog G 139 [.sl 0 1 (a8 (o.fields.map (aY st e))), .str ⟨#[32]⟩] (fun _ => .str (jH (o.fields.map (aY st e)) spB)) := vF (G := G) (o.fields.map (aY st e)) spB (by decide) (by omega) (fun k hk => by have := hjl2 k hk; rw [Nat.mul_comm] at this; omega) (fun x hx => by have := hxs x hx; omega)
      have hjz := hjl2 _ (Nat.le_refl _)
      rw [<- p8, hxl, Nat.mul_comm] at hjz
      unfold aeu
      have hct := xB (G := G) (⟨#[40]⟩ ++ jH (o.fields.map (aY st e)) spB ++ ⟨#[41]⟩)
      generalize jH (o.fields.map (aY st e)) spB = J at hjn hjz hct |-
      generalize o.fields.map (aY st e) = xs at hln hxl hjn |-
      repeat' (first | refine W_ ?_ | refine fO hG hst (hjn) ?_ | refine ab hG hst (hct) ?_ | refine c_ (fun hc => ?_) (fun hc => ?_) | refine g_ (fun hg => ?_) (fun hg => ?_))
      exact r1_
  ·rw [if_neg hk] at hlf
   obtain ⟨q, hq⟩ : ∃ q : Nat, o.class_ = q := ⟨o.class_.toNat, by omega⟩
   have hql : q < st.classes.length := by omega
   rw [hq, iB hql] at hlf
   have hr2 := d8 (lo := lo) hql
   have hart := tH hst st.classes[q].name (ok.nm _ (List.getElem_mem hql))
   rw [bC d hlf]
   rw [hq] at hrow
   generalize st.classes[q] = c at hr2 hart |-
   repeat' (first | refine W_ ?_ | refine aD ?_ | ((with_reducible apply i7 (id := 18) 8); kernel_rfl; kernel_rfl; kernel_rfl; (repeat (first | exact Cut.zero _ | apply Cut.succ)); rfl; rfl; rfl; rfl; rfl; kernel_rfl; rfl) | ((with_reducible apply u_y); exact yu_; rfl) | (with_reducible refine qk ?_; intro ss bb) | (refine aj ?_; intro ss bb) | refine ac ?_ | with_reducible refine fQ (by kernel_rfl) (by kernel_rfl) ?_ | with_reducible refine jz ?_ | with_reducible refine fV ?_ | with_reducible refine fS rfl ?_ | refine jB rfl rfl rfl rr_ ?_ | refine fU rfl rfl rfl rr_ rfl rfl rfl ?_ | refine eG rfl rfl rfl rr_ rfl rfl ?_ | (refine o8 rfl rfl rfl rr_ dd_ ?_) | (refine oU rfl rfl rfl rr_ dd_ ?_) | (refine dh rfl rfl rfl rr_ (fun hg => ?_) (fun hg => ?_)) | (refine cN rfl rfl rfl rr_ (fun hg => ?_) (fun hg => ?_)) | ((with_reducible apply d_y); exact y_; rfl) | refine ae hG hst (hart) ?_ | refine c_ (fun hc => ?_) (fun hc => ?_) | refine g_ (fun hg => ?_) (fun hg => ?_))
   exact r1_
theorem ly (hst : aB G) (f lo : Nat) (st : aJ) (nb : Int) (ok : acR st nb) (hs : st.small 1048576) : ∀ d : Nat, d <= 3 -> ∀ v : ad, bI st nb v = true -> Ct Tryz.prog G 60 [.cp f (st.tw lo), .agg [.int .i64 v.kind, .int .i64 v.number, .str v.text], .int .i64 (d : Int)] (fun _ => .str (aY st d v))
 | 0, hd, v, hv => qf hst f lo st nb ok hs 0 hd (fun e he => by omega) v hv
 | d + 1, hd, v, hv => qf hst f lo st nb ok hs (d + 1) hd (fun e he => by
     obtain rfl : e = d := by omega
     exact ly hst f lo st nb ok hs e (by omega)) v hv
end
theorem afL {w : World} {objs : aH} {t1 t2 t3 : TV} {vs : Array Value} (hs : vs.size = [t1, t2, t3].length) (hr : ∀ (i : Nat) (t : TV) (v : Value), [t1, t2, t3][i]? = some t -> vs[i]? = some v -> Rep w objs t v) : ∃ v1 v2 v3, vs = #[v1, v2, v3] /\ Rep w objs t1 v1 /\ Rep w objs t2 v2 /\ Rep w objs t3 v3 := by
 match vs, hs with
 | ⟨[a, b, c]⟩, _ => exact ⟨a, b, c, rfl, hr 0 _ _ rfl rfl, hr 1 _ _ rfl rfl, hr 2 _ _ rfl rfl⟩
theorem adW (t : ByteArray) (ht : t.size <= 1048576) : Ct Tryz.prog GL 214 [.str t, .str ⟨#[39]⟩, .str ⟨#[39, 39]⟩] (fun _ => .str ⟨(ci t.data.toList).toArray⟩) := fun w vs hp hG hsz hr => by
 obtain ⟨v, u, x, rfl, h1, h2, h3⟩ := afL hsz hr
 rw [h1.str_inv, h2.str_inv, h3.str_inv]
 obtain ⟨m, hm⟩ := hG
 have hc := Lib.countB_mul_le (⟨#[39]⟩ : ByteArray) (by decide) t.size t (Nat.le_refl _)
 have h1' : (⟨#[39]⟩ : ByteArray).size = 1 := rfl
 have h2' : (⟨#[39, 39]⟩ : ByteArray).size = 2 := rfl
 rw [h1'] at hc
 refine (Tryz.strings_ReplaceAll t ⟨#[39]⟩ ⟨#[39, 39]⟩ m w (by omega) hm (by decide) (by rw [h2']; omega)).mono ?_
 rintro e w' ⟨rfl, hb⟩
 exact ⟨_, rfl, hb, fun _ _ => by
   have := acx 39 39 39 t.data.toList
   rw [show Lib.replaceAll t.data.toList (⟨#[39]⟩ : ByteArray).data.toList (⟨#[39, 39]⟩ : ByteArray).data.toList = ci t.data.toList from this]
   exact .str _⟩
theorem acg (t : ByteArray) : ⟨#[39]⟩ ++ (⟨(ci t.data.toList).toArray⟩ : ByteArray) ++ ⟨#[39]⟩ = gZ t := by
 apply ByteArray.ext
 simp [gZ, ByteArray.data_append]
theorem aal {n : ByteArray} (h : 1 <= n.size) : n.extract 0 1 = ⟨#[n[0]'(by omega)]⟩ := by
 apply ByteArray.ext
 rw [ByteArray.data_extract]
 apply Array.ext
 ·simp; omega
 ·intro i h1 h2
  have : i = 0 := by simp at h2; omega
  subst this
  simp
  rfl
theorem aeN (b : UInt8) (h : (b.toNat : Int) < 128) : decide (0 <= Lib.indexByte [65, 69, 73, 79, 85] ((b.toNat : Int)).toNat.toUInt8) = ij qt ⟨#[b]⟩ := by
 rw [Int.toNat_natCast, show b.toNat.toUInt8 = b from UInt8.ofNat_toNat]
 simp only [ij, qt, Lib.toList_data, List.any_cons, List.any_nil, Bool.or_false]
 have hx : ∀ x : UInt8, ((#[x] : Array UInt8).toList == (#[b] : Array UInt8).toList) = (x == b) := fun x => by simp
 simp only [hx]
 have hi : ∀ (x : UInt8) (l : List UInt8), decide (0 <= Lib.indexByte (x :: l) b) = (x == b || decide (0 <= Lib.indexByte l b)) := fun x l => by
   rw [Lib.indexByte]
   by_cases hxb : (x == b) = true
   ·rw [if_pos hxb, hxb]; simp
   ·rw [if_neg hxb]
    have hf : (x == b) = false := by simpa using hxb
    rw [hf, Bool.false_or]
    by_cases hm : (Lib.indexByte l b == -1) = true
    ·rw [if_pos hm, beq_iff_eq.1 hm]
    ·rw [if_neg hm, decide_eq_decide]
     have := Lib.indexByte_ge l b
     have hne : Lib.indexByte l b ≠ -1 := fun e => hm (beq_iff_eq.2 e)
     omega
 rw [hi, hi, hi, hi, hi]
 rw [show decide (0 <= Lib.indexByte [] b) = false from rfl, Bool.or_false]
theorem vl {G : World -> Prop} (n : ByteArray) (hn : qM n) : Ct Tryz.prog G 145 [.str ⟨#[65, 69, 73, 79, 85]⟩, .int .i32 (bat n 0)] (fun _ => .bool (wm n)) := fun w vs hp hG hsz hr => by
 obtain ⟨v, u, rfl, h1, h2⟩ := adM hsz hr
 rw [h1.str_inv, h2.int_inv]
 have hb := qh n 0
 obtain ⟨g1, g2, g3⟩ := hn
 refine (Tryz.strings_ContainsRune_ascii ⟨#[65, 69, 73, 79, 85]⟩ (bat n 0) w hb.1 g3).mono ?_
 rintro e w' ⟨rfl, rfl⟩
 refine ⟨_, rfl, Below.refl _ _, fun _ _ => ?_⟩
 have h0 : 0 < n.size := by omega
 have he := zw n h0
 have hv : wm n = ij qt ⟨#[n[0]'h0]⟩ := by unfold wm; rw [aal g1]
 rw [hv, <- aeN _ (by rw [<- he]; exact g3), <- he]
 exact .bool _
theorem yy {G : World -> Prop} (xs : List ByteArray) (hN : xs.length <= 1000) (hx : ∀ x ∈ xs, ByteArray.size x <= 1000) : Ct Tryz.prog G 144 [.sl 0 1 (a8 xs), .str ⟨#[32]⟩] (fun _ => .str (jH xs spB)) := by
 cases xs with
 | nil =>
   intro w vs hp hG hsz hr
   obtain ⟨v, u, rfl, h1, h2⟩ := adM hsz hr
   rw [h2.str_inv]
   obtain ⟨A, c, rfl, _⟩ := iC h1
   refine (Tryz.strings_Join_none A c ⟨#[32]⟩ w).mono ?_
   rintro e w' ⟨rfl, rfl⟩
   exact ⟨_, rfl, Below.refl _ _, fun _ _ => .str _⟩
 | cons x r =>
   refine adn (x :: r) spB (by simp) (by omega) ?_
   have h1 := mN (sep := spB) (by decide) hx _ (Nat.le_refl (x :: r).length)
   unfold fR at h1
   rw [List.take_of_length_le (Nat.le_refl _)] at h1
   have h2 : (x :: r).length * (1000 + 1) <= 1000 * (1000 + 1) := Nat.mul_le_mul_right _ hN
   omega
theorem pM {G : World -> Prop} (s : ByteArray) (hs : s.size <= 9223372036854775807) : Ct Tryz.prog G 142 [.str s] (fun _ => .str (aby s)) := by
 refine am Tryz.func142 rfl Tryz.ntmps142 rfl rfl fun w0 _ hG => ?_
 unfold aby
 by_cases h : s.size <= 200
 ·rw [if_pos h]
  have hm : (if (200 : Int) < s.size then 200 else (s.size : Int)) = (s.size : Nat) := if_neg (by omega)
  have he : s.extract 0 s.size = s := by
    apply ByteArray.ext
    rw [ByteArray.data_extract]
    show s.data.extract 0 s.data.size = s.data
    exact Array.extract_size
  repeat' (first | refine W_ ?_ | ((with_reducible apply ad8); rfl; rfl; rfl) | ((with_reducible apply nu); rfl; rfl; rfl; kernel_rfl; exact hm; omega) | refine c_ (fun hc => ?_) (fun hc => ?_) | refine g_ (fun hg => ?_) (fun hg => ?_))
  refine aE x_ rfl (.tmp _ _ rfl) (fun _ => ?_)
  exact qH he
 ·rw [if_neg h]
  have hm : (if (200 : Int) < s.size then 200 else (s.size : Int)) = ((200 : Nat) : Int) := if_pos (by omega)
  repeat' (first | refine W_ ?_ | ((with_reducible apply ad8); rfl; rfl; rfl) | ((with_reducible apply nu); rfl; rfl; rfl; kernel_rfl; exact hm; omega) | refine c_ (fun hc => ?_) (fun hc => ?_) | refine g_ (fun hg => ?_) (fun hg => ?_))
  exact r1_
theorem y8 (t : ByteArray) (ht : t.size <= 1048576) : Ct Tryz.prog GL 143 [.agg [.int .i64 4, .str t, .int .i64 0]] (fun _ => .str (gZ t)) := by
 refine am Tryz.func143 rfl Tryz.ntmps143 rfl rfl fun w0 _ hG => ?_
 have hst := dA
 have hrp := adW t ht
 have hql := lu t.data.toList
 rw [aP] at hql
 have hz : (⟨(ci t.data.toList).toArray⟩ : ByteArray).size <= 2097152 := by show (ci t.data.toList).toArray.size <= _; rw [List.size_toArray]; omega
 have hq := acg t
 generalize (⟨(ci t.data.toList).toArray⟩ : ByteArray) = Q at hrp hz hq
 repeat' (first | refine W_ ?_ | refine aD ?_ | refine ab hG hst (hrp) ?_ | refine c_ (fun hc => ?_) (fun hc => ?_) | refine g_ (fun hg => ?_) (fun hg => ?_))
 refine aE x_ rfl (.tmp _ _ rfl) (fun _ => ?_)
 exact qH hq
end Go.Proofs.YtofnnnpahglfdaaGreatDoor
