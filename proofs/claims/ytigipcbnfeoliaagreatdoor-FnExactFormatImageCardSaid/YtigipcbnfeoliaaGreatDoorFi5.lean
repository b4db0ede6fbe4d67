/- Part 5 of the proof: the texts Num, Types. -/
import Derived.Test.YtigipcbnfeoliaaGreatDoorFi1
import Derived.Test.YtigipcbnfeoliaaGreatDoorFi2
import Derived.Lib.AppendIntMem
set_option linter.all false
set_option maxHeartbeats 400000
set_option maxRecDepth 8000
namespace Go.Proofs.YtigipcbnfeoliaaGreatDoor
open Go Go.RowKit
def kh (w : World) : Prop := Lib.TabIs Tryz.prog w "internal/strconv.uint64pow10" .u64 Lib.pow10Tab
theorem kh.below {w w' : World} (h : kh w) (hb : Below w.heap.size w w') : kh w' := Lib.tabBelow_of_tabIs h w' hb
def ba (n : Int) : ByteArray := ⟨(Lib.itoa n).toArray⟩
theorem jo : ∀ (k u : Nat), u < 10 ^ (k + 1) -> Lib.nDigits u <= k + 1
 | 0, u, h => by rw [Lib.nDigits_small (by simpa using h)]; omega
 | k + 1, u, h => by
   by_cases h1 : u < 10
   ·rw [Lib.nDigits_small h1]; omega
   ·rw [Lib.nDigits_big h1]
    have := jo k (u / 10) (by rw [Nat.pow_succ] at h; omega)
    omega
theorem f5 {n : Int} (h0 : -9223372036854775808 <= n) (h1 : n <= 9223372036854775807) : (ba n).size <= 20 := by
 show (Lib.itoa n).toArray.size <= 20
 rw [List.size_toArray, Lib.itoa]
 split
 ·rw [List.length_cons, Lib.decDigits_length]; have := jo 18 n.natAbs (by simp; omega); omega
 ·rw [Lib.decDigits_length]; have := jo 18 n.toNat (by simp; omega); omega
theorem dA (n : Int) (w : World) (ht : kh w) (h0 : -9223372036854775808 <= n) (h1 : n <= 9223372036854775807) : Calls Tryz.prog 83 #[.int .i64 n] w fun e w' => e = .returned (.string (ba n)) /\ Below w.heap.size w w' := by
 go_enter Tryz.func83, Tryz.ntmps83
 go_wp2_with (go_at_call 171; refine (Tryz.strconv_Itoa n h0 h1 _ ht).mono ?_; rintro e w' ⟨rfl, k, os, rfl⟩)
 go_ret
 exact ⟨rfl, Lib.below_grow _ _ (Nat.le_refl _) _ _⟩
def pre (u : Nat) : List UInt8 := if u = 0 then [] else Lib.decDigits u
theorem wZ {u : Nat} (h : u ≠ 0) : pre u = pre (u / 10) ++ [UInt8.ofNat (48 + u % 10)] := by
 unfold pre
 rw [if_neg h, Lib.decDigits]
 by_cases h1 : u < 10
 ·rw [dif_pos h1, if_pos (by omega), Nat.mod_eq_of_lt h1]; rfl
 ·rw [dif_neg h1, if_neg (by omega)]
theorem qX {u : Nat} (h : u < 10000000000000000000) : (pre u).length <= 19 := by
 unfold pre
 split
 ·simp
 ·rw [Lib.decDigits_length]; exact jo 18 u (by simpa using h)
theorem wI {n : Int} (hz : n ≠ 0) : ba n = if n < 0 then ⟨(45 :: pre n.natAbs).toArray⟩ else ⟨(pre n.natAbs).toArray⟩ := by
 have h1 : pre n.natAbs = Lib.decDigits n.natAbs := by unfold pre; rw [if_neg (by omega)]
 rw [h1]
 unfold ba Lib.itoa
 by_cases h : n < 0
 ·rw [if_pos h, if_pos h]
 ·rw [if_neg h, if_neg h, show n.toNat = n.natAbs by omega]
theorem act (m : Int) : Int.tmod m 10 = if m < 0 then -((m.natAbs % 10 : Nat) : Int) else ((m.natAbs % 10 : Nat) : Int) := by
 by_cases h : m < 0
 ·rw [if_pos h]
  have h2 : Int.tmod m 10 = -((-m) % 10) := by rw [<- Int.tmod_eq_emod_of_nonneg (by omega), Int.neg_tmod]; omega
  rw [h2]; omega
 ·rw [if_neg h, Int.tmod_eq_emod_of_nonneg (by omega)]; omega
theorem xH (src : TypeId) (e : TypeId) (w : World) (d : Nat) (hd : d < 256) (v : Int) (hv : v = d) (hs : Tryz.prog.underlying src = some (.slice e)) (he : Tryz.prog.underlying e = some (.int .u8)) :
   (convert src 9 (.slice (some ⟨w.heap.size, 0, none⟩) 1 1)).run Tryz.prog (w.alloc (.cells #[.int .u8 v] e)) = .ok (.string ⟨#[UInt8.ofNat d]⟩) (w.alloc (.cells #[.int .u8 v] e)) := by
 subst hv
 refine run_convert_bytes_back (P := Tryz.prog) _ src 9 e ⟨w.heap.size, 0, none⟩ 1 [UInt8.ofNat d] hs he Tryz.underlying9 fun j hj => ?_
 have hj0 : j = 0 := by simp at hj; omega
 subst hj0
 have h := Blk.cell (Blk.new w e #[.int .u8 (d : Int)]) 0
 rw [show (⟨w.heap.size, 0, none⟩ : Addr).add 0 = ⟨w.heap.size, 0, none⟩ from rfl, h]
 show some (Value.int .u8 (d : Int)) = some (.int .u8 ((UInt8.ofNat d).toNat : Int))
 rw [UInt8.toNat_ofNat', Nat.mod_eq_of_lt hd]
theorem acp (m : Int) : (Int.tdiv m 10).natAbs = m.natAbs / 10 := by rw [Int.natAbs_tdiv]; rfl
theorem gM (n : Int) (w : World) (h0 : -9223372036854775808 <= n) (h1 : n <= 9223372036854775807) : Calls Tryz.prog 80 #[.int .i64 n] w fun e w' => e = .returned (.string (ba n)) /\ Below w.heap.size w w' := by
 by_cases hz : n = 0
 ·subst hz
  go_enter Tryz.func80, Tryz.ntmps80
  go_wp2
  go_ret
  exact ⟨co (by decide +kernel), Below.refl _ _⟩
 have Hlen := Lib.hid (qX (u := n.natAbs) (by omega))
 have HP := Lib.hid (wI hz)
 by_cases hneg : n < 0
 all_goals
   go_enter Tryz.func80, Tryz.ntmps80
   go_wp2
   go_loopw [0, 4] (fun nv ov wr => ∃ (m : Int) (s : ByteArray), nv = .int .i64 m /\ ov = .string s /\ -9223372036854775808 <= m /\ m <= 9223372036854775807 /\ pre m.natAbs ++ s.data.toList = pre n.natAbs /\ Below w.heap.size w wr) (fun nv _ _ => (intOf nv).natAbs)
   case atStart => exact ⟨n, _, rfl, rfl, h0, h1, by simp, Below.refl _ _⟩
   case round =>
     obtain ⟨m, s, rfl, rfl, hm0, hm1, hr, hb⟩ := hrel
     have hsz : s.size <= 19 := by
       have := congrArg List.length hr
       rw [List.length_append, aO] at this
       have := Hlen.out
       omega
     have Hr := Lib.hid hr
     clear hr
     by_cases hm : m = 0
     ·subst hm
      go_wp2
      go_ret
      refine ⟨co ?_, hb⟩
      have h2 := Hr.out
      rw [HP.out]
      rw [show (0 : Int).natAbs = 0 from rfl, show pre 0 = [] from rfl, List.nil_append] at h2
      first
        | (rw [if_pos hneg]; exact gS (by rw [ByteArray.data_append, Array.toList_append, h2]; rfl))
        | (rw [if_neg (by omega)]; exact gS h2)
     ·have ha := act m
      have hd9 : m.natAbs % 10 <= 9 := by omega
      have hp := wZ (u := m.natAbs) (by omega)
      have hq := acp m
      generalize hd : m.natAbs % 10 = d at ha hd9 hp
      obtain ⟨b, hbd⟩ : ∃ b, UInt8.ofNat (48 + d) = b := ⟨_, rfl⟩
      rw [hbd] at hp
      have Hp := Lib.hid hp
      have Hq := Lib.hid hq
      have hcv := xH 220 5 wr (48 + d) (by omega) (48 + (d : Int)) (by omega) Tryz.underlying220 Tryz.underlying5
      rw [hbd] at hcv
      clear hp hd hq hbd
      have hnext : pre (Int.tdiv m 10).natAbs ++ ((⟨#[b]⟩ : ByteArray) ++ s).data.toList = pre n.natAbs := by
        rw [Hq.out, <- Hr.out, Hp.out, ByteArray.data_append, Array.toList_append, List.append_assoc]
      have Hn := Lib.hid hnext
      clear hnext
      have hbel : ∀ o, Below w.heap.size w (wr.alloc o) := fun o => hb.trans (((Below.refl _ _).alloc (Nat.le_refl _) o).mono hb.size)
      have hm10 : (Int.tdiv m 10).natAbs < m.natAbs := by rw [Hq.out]; omega
      have Hm10 := Lib.hid hm10
      clear hm10 hb
      by_cases hs : m < 0
      ·rw [if_pos hs] at ha
       by_cases hd0 : d = 0
       ·subst hd0
        rw [show -((0 : Nat) : Int) = 0 from rfl] at ha
        rw [show 48 + ((0 : Nat) : Int) = 48 from rfl] at hcv
        go_wp2
        go_roundw
        case rel => exact ⟨_, _, rfl, rfl, by have := Hm10.out; omega, by have := Hm10.out; omega, Hn.out, hbel _⟩
        case measure => exact Hm10.out
       ·have hd1 : -(d : Int) < 0 := by omega
        go_wp2
        go_roundw
        case rel => exact ⟨_, _, rfl, rfl, by have := Hm10.out; omega, by have := Hm10.out; omega, Hn.out, hbel _⟩
        case measure => exact Hm10.out
      ·rw [if_neg hs] at ha
       have hd1 : ¬ (d : Int) < 0 := by omega
       have hdv : Int.tdiv m 10 = m / 10 := Int.tdiv_eq_ediv_of_nonneg (by omega)
       have Hm10 := Lib.hid (hdv ▸ Hm10.out)
       have Hn := Lib.hid (hdv ▸ Hn.out)
       clear hdv
       go_wp2
       go_roundw
       case rel => exact ⟨_, _, rfl, rfl, by have := Hm10.out; omega, by have := Hm10.out; omega, Hn.out, hbel _⟩
       case measure => exact Hm10.out
def bl {α : Type} (f : α -> Nat) (l : List α) : Nat := l.length + (l.map f).sum
theorem iV {α : Type} {R : PT -> α -> Prop} {P : α -> Prop} {l : List PT} {xs : List α} (h : AtL R l xs) (hs : PT.saneL l) (hp : ∀ t x, R t x -> t.sane -> P x) : ∀ x ∈ xs, P x := fun x hx => by
 obtain ⟨i, hi, rfl⟩ := List.getElem_of_mem hx
 have hi' : i < l.length := by rw [h.1]; exact hi
 exact hp _ _ (h.get hi') (PT.saneL_mem hs (List.getElem_mem hi'))
structure ab where
 kind : Int
 number : Int
 text : ByteArray
def ab.ty : Ty := .agg [.int .i64, .int .i64, .str]
def ab.sane (x : ab) : Prop := i64 x.kind /\ i64 x.number /\ x.text.size <= maxLen
def ab.pt (x : ab) : PT := .agg [.int .i64 x.kind, .int .i64 x.number, .str x.text]
theorem ab.flat : sJ ab.pt 3 := ⟨fun _ => rfl, fun _ => rfl, fun _ _ => by simp [ab.pt, Own, iK], fun _ _ _ => by simp [ab.pt, d9, cx]⟩
theorem ab.of_ty {t : PT} (h : cH ab.ty t) : ∃ x : ab, t = x.pt := by
 simp only [ab.ty, cH, dI] at h
 obtain ⟨_, rfl, h⟩ := h
 obtain ⟨u0, _, rfl, h0, h⟩ := h
 obtain ⟨v0, rfl⟩ := h0
 obtain ⟨u1, _, rfl, h1, h⟩ := h
 obtain ⟨v1, rfl⟩ := h1
 obtain ⟨u2, _, rfl, h2, h⟩ := h
 obtain ⟨v2, rfl⟩ := h2
 subst h
 exact ⟨⟨v0, v1, v2⟩, rfl⟩
theorem ab.sane_of {x : ab} (h : x.pt.sane) : x.sane := by
 simp only [ab.pt, PT.sane, PT.saneL] at h
 exact ⟨bZ h.1, bZ h.2.1, h.2.2.1⟩
structure ag where
 op : Int
 a : Int
 b : Int
 text : ByteArray
def ag.ty : Ty := .agg [.int .i64, .int .i64, .int .i64, .str]
def ag.sane (x : ag) : Prop := i64 x.op /\ i64 x.a /\ i64 x.b /\ x.text.size <= maxLen
def ag.pt (x : ag) : PT := .agg [.int .i64 x.op, .int .i64 x.a, .int .i64 x.b, .str x.text]
theorem ag.flat : sJ ag.pt 4 := ⟨fun _ => rfl, fun _ => rfl, fun _ _ => by simp [ag.pt, Own, iK], fun _ _ _ => by simp [ag.pt, d9, cx]⟩
theorem ag.of_ty {t : PT} (h : cH ag.ty t) : ∃ x : ag, t = x.pt := by
 simp only [ag.ty, cH, dI] at h
 obtain ⟨_, rfl, h⟩ := h
 obtain ⟨u0, _, rfl, h0, h⟩ := h
 obtain ⟨v0, rfl⟩ := h0
 obtain ⟨u1, _, rfl, h1, h⟩ := h
 obtain ⟨v1, rfl⟩ := h1
 obtain ⟨u2, _, rfl, h2, h⟩ := h
 obtain ⟨v2, rfl⟩ := h2
 obtain ⟨u3, _, rfl, h3, h⟩ := h
 obtain ⟨v3, rfl⟩ := h3
 subst h
 exact ⟨⟨v0, v1, v2, v3⟩, rfl⟩
theorem ag.sane_of {x : ag} (h : x.pt.sane) : x.sane := by
 simp only [ag.pt, PT.sane, PT.saneL] at h
 exact ⟨bZ h.1, bZ h.2.1, bZ h.2.2.1, h.2.2.2.1⟩
structure aw where
 block : Bool
 params : Int
 slots : Int
 instrs : List ag
def aw.ty : Ty := .agg [.bool, .int .i64, .int .i64, .sl 4 ag.ty]
def aw.sane (x : aw) : Prop := i64 x.params /\ i64 x.slots /\ (∀ y ∈ x.instrs, y.sane)
def kd (t : PT) (x : aw) : Prop := ∃ (A3 : Option Addr) (c3 : Nat), t = .agg [.bool x.block, .int .i64 x.params, .int .i64 x.slots, .sl A3 c3 4 ((x.instrs).map ag.pt)]
theorem kd.cells {t : PT} {x : aw} (h : kd t x) : t.cells.length = 4 := by
 obtain ⟨A3, c3, rfl⟩ := h
 rfl
theorem aw.of_ty {t : PT} (h : cH aw.ty t) : ∃ x : aw, kd t x := by
 simp only [aw.ty, cH, dI] at h
 obtain ⟨_, rfl, h⟩ := h
 obtain ⟨u0, _, rfl, h0, h⟩ := h
 obtain ⟨v0, rfl⟩ := h0
 obtain ⟨u1, _, rfl, h1, h⟩ := h
 obtain ⟨v1, rfl⟩ := h1
 obtain ⟨u2, _, rfl, h2, h⟩ := h
 obtain ⟨v2, rfl⟩ := h2
 obtain ⟨u3, _, rfl, h3, h⟩ := h
 obtain ⟨A3, c3, l3, rfl, h3⟩ := h3
 obtain ⟨v3, rfl⟩ := iD fun t ht => ag.of_ty (h3 t ht)
 subst h
 exact ⟨⟨v0, v1, v2, v3⟩, _, _, rfl⟩
theorem aw.sane_of {t : PT} {x : aw} (ha : kd t x) (h : t.sane) : x.sane := by
 obtain ⟨A3, c3, rfl⟩ := ha
 simp only [PT.sane, PT.saneL] at h
 exact ⟨bZ h.2.1, bZ h.2.2.1, fun y hy => ag.sane_of (PT.saneL_mem h.2.2.2.1 (List.mem_map_of_mem (f := ag.pt) hy))⟩
structure av where
 owner : Int
 class_ : Bool
 selector : ByteArray
 code : Int
def av.ty : Ty := .agg [.int .i64, .bool, .str, .int .i64]
def av.sane (x : av) : Prop := i64 x.owner /\ x.selector.size <= maxLen /\ i64 x.code
def av.pt (x : av) : PT := .agg [.int .i64 x.owner, .bool x.class_, .str x.selector, .int .i64 x.code]
theorem av.flat : sJ av.pt 4 := ⟨fun _ => rfl, fun _ => rfl, fun _ _ => by simp [av.pt, Own, iK], fun _ _ _ => by simp [av.pt, d9, cx]⟩
theorem av.of_ty {t : PT} (h : cH av.ty t) : ∃ x : av, t = x.pt := by
 simp only [av.ty, cH, dI] at h
 obtain ⟨_, rfl, h⟩ := h
 obtain ⟨u0, _, rfl, h0, h⟩ := h
 obtain ⟨v0, rfl⟩ := h0
 obtain ⟨u1, _, rfl, h1, h⟩ := h
 obtain ⟨v1, rfl⟩ := h1
 obtain ⟨u2, _, rfl, h2, h⟩ := h
 obtain ⟨v2, rfl⟩ := h2
 obtain ⟨u3, _, rfl, h3, h⟩ := h
 obtain ⟨v3, rfl⟩ := h3
 subst h
 exact ⟨⟨v0, v1, v2, v3⟩, rfl⟩
theorem av.sane_of {x : av} (h : x.pt.sane) : x.sane := by
 simp only [av.pt, PT.sane, PT.saneL] at h
 exact ⟨bZ h.1, h.2.2.1, bZ h.2.2.2.1⟩
structure aa where
 name : ByteArray
 parent : Int
 fields : List ByteArray
def aa.ty : Ty := .agg [.str, .int .i64, .sl 1 (.str)]
def aa.sane (x : aa) : Prop := x.name.size <= maxLen /\ i64 x.parent /\ (∀ s ∈ x.fields, s.size <= maxLen)
def cQ (t : PT) (x : aa) : Prop := ∃ (A2 : Option Addr) (c2 : Nat), t = .agg [.str x.name, .int .i64 x.parent, .sl A2 c2 1 ((x.fields).map PT.str)]
theorem cQ.cells {t : PT} {x : aa} (h : cQ t x) : t.cells.length = 3 := by
 obtain ⟨A2, c2, rfl⟩ := h
 rfl
theorem aa.of_ty {t : PT} (h : cH aa.ty t) : ∃ x : aa, cQ t x := by
 simp only [aa.ty, cH, dI] at h
 obtain ⟨_, rfl, h⟩ := h
 obtain ⟨u0, _, rfl, h0, h⟩ := h
 obtain ⟨v0, rfl⟩ := h0
 obtain ⟨u1, _, rfl, h1, h⟩ := h
 obtain ⟨v1, rfl⟩ := h1
 obtain ⟨u2, _, rfl, h2, h⟩ := h
 obtain ⟨A2, c2, l2, rfl, h2⟩ := h2
 obtain ⟨v2, rfl⟩ := iD fun t ht => h2 t ht
 subst h
 exact ⟨⟨v0, v1, v2⟩, _, _, rfl⟩
theorem aa.sane_of {t : PT} {x : aa} (ha : cQ t x) (h : t.sane) : x.sane := by
 obtain ⟨A2, c2, rfl⟩ := ha
 simp only [PT.sane, PT.saneL] at h
 exact ⟨h.1, bZ h.2.1, fun s hs => PT.saneL_mem h.2.2.1 (List.mem_map_of_mem (f := PT.str) hs)⟩
structure aA where
 classes : List aa
 codes : List aw
 entries : List av
 main : Int
def aA.ty : Ty := .agg [.sl 3 aa.ty, .sl 4 aw.ty, .sl 4 av.ty, .int .i64]
def aA.sane (x : aA) : Prop := (∀ y ∈ x.classes, y.sane) /\ (∀ y ∈ x.codes, y.sane) /\ (∀ y ∈ x.entries, y.sane) /\ i64 x.main
def dr (t : PT) (x : aA) : Prop := ∃ (A0 : Option Addr) (c0 : Nat) (l0 : List PT) (A1 : Option Addr) (c1 : Nat) (l1 : List PT) (A2 : Option Addr) (c2 : Nat), AtL cQ l0 (x.classes) /\ AtL kd l1 (x.codes) /\ t = .agg [.sl A0 c0 3 l0, .sl A1 c1 4 l1, .sl A2 c2 4 ((x.entries).map av.pt), .int .i64 x.main]
theorem dr.cells {t : PT} {x : aA} (h : dr t x) : t.cells.length = 4 := by
 obtain ⟨A0, c0, l0, A1, c1, l1, A2, c2, h0, h1, rfl⟩ := h
 rfl
theorem aA.of_ty {t : PT} (h : cH aA.ty t) : ∃ x : aA, dr t x := by
 simp only [aA.ty, cH, dI] at h
 obtain ⟨_, rfl, h⟩ := h
 obtain ⟨u0, _, rfl, h0, h⟩ := h
 obtain ⟨A0, c0, l0, rfl, h0⟩ := h0
 obtain ⟨v0, k0⟩ := uj fun t ht => aa.of_ty (h0 t ht)
 obtain ⟨u1, _, rfl, h1, h⟩ := h
 obtain ⟨A1, c1, l1, rfl, h1⟩ := h1
 obtain ⟨v1, k1⟩ := uj fun t ht => aw.of_ty (h1 t ht)
 obtain ⟨u2, _, rfl, h2, h⟩ := h
 obtain ⟨A2, c2, l2, rfl, h2⟩ := h2
 obtain ⟨v2, rfl⟩ := iD fun t ht => av.of_ty (h2 t ht)
 obtain ⟨u3, _, rfl, h3, h⟩ := h
 obtain ⟨v3, rfl⟩ := h3
 subst h
 exact ⟨⟨v0, v1, v2, v3⟩, _, _, _, _, _, _, _, _, k0, k1, rfl⟩
theorem aA.sane_of {t : PT} {x : aA} (ha : dr t x) (h : t.sane) : x.sane := by
 obtain ⟨A0, c0, l0, A1, c1, l1, A2, c2, h0, h1, rfl⟩ := ha
 simp only [PT.sane, PT.saneL] at h
 exact ⟨iV h0 h.1 fun _ _ a b => aa.sane_of a b, iV h1 h.2.1 fun _ _ a b => aw.sane_of a b, fun y hy => av.sane_of (PT.saneL_mem h.2.2.1 (List.mem_map_of_mem (f := av.pt) hy)), bZ h.2.2.2.1⟩
structure au where
 kind : Int
 class_ : Int
 fields : List ab
 numbers : List Int
def au.ty : Ty := .agg [.int .i64, .int .i64, .sl 3 ab.ty, .sl 1 (.int .i64)]
def au.sane (x : au) : Prop := i64 x.kind /\ i64 x.class_ /\ (∀ y ∈ x.fields, y.sane) /\ (∀ n ∈ x.numbers, i64 n)
def fF (t : PT) (x : au) : Prop := ∃ (A2 : Option Addr) (c2 : Nat) (A3 : Option Addr) (c3 : Nat), t = .agg [.int .i64 x.kind, .int .i64 x.class_, .sl A2 c2 3 ((x.fields).map ab.pt), .sl A3 c3 1 ((x.numbers).map (PT.int .i64))]
theorem fF.cells {t : PT} {x : au} (h : fF t x) : t.cells.length = 4 := by
 obtain ⟨A2, c2, A3, c3, rfl⟩ := h
 rfl
theorem au.of_ty {t : PT} (h : cH au.ty t) : ∃ x : au, fF t x := by
 simp only [au.ty, cH, dI] at h
 obtain ⟨_, rfl, h⟩ := h
 obtain ⟨u0, _, rfl, h0, h⟩ := h
 obtain ⟨v0, rfl⟩ := h0
 obtain ⟨u1, _, rfl, h1, h⟩ := h
 obtain ⟨v1, rfl⟩ := h1
 obtain ⟨u2, _, rfl, h2, h⟩ := h
 obtain ⟨A2, c2, l2, rfl, h2⟩ := h2
 obtain ⟨v2, rfl⟩ := iD fun t ht => ab.of_ty (h2 t ht)
 obtain ⟨u3, _, rfl, h3, h⟩ := h
 obtain ⟨A3, c3, l3, rfl, h3⟩ := h3
 obtain ⟨v3, rfl⟩ := iD fun t ht => h3 t ht
 subst h
 exact ⟨⟨v0, v1, v2, v3⟩, _, _, _, _, rfl⟩
theorem au.sane_of {t : PT} {x : au} (ha : fF t x) (h : t.sane) : x.sane := by
 obtain ⟨A2, c2, A3, c3, rfl⟩ := ha
 simp only [PT.sane, PT.saneL] at h
 exact ⟨bZ h.1, bZ h.2.1, fun y hy => ab.sane_of (PT.saneL_mem h.2.2.1 (List.mem_map_of_mem (f := ab.pt) hy)), fun n hn => bZ (PT.saneL_mem h.2.2.2.1 (List.mem_map_of_mem (f := PT.int .i64) hn))⟩
structure aQ where
 classes : List aa
 objects : List au
 output : List ByteArray
 ticks : Int
 budget : Int
 made : Int
def aQ.ty : Ty := .agg [.sl 3 aa.ty, .sl 4 au.ty, .sl 1 (.str), .int .i64, .int .i64, .int .i64]
def aQ.sane (x : aQ) : Prop := (∀ y ∈ x.classes, y.sane) /\ (∀ y ∈ x.objects, y.sane) /\ (∀ s ∈ x.output, s.size <= maxLen) /\ i64 x.ticks /\ i64 x.budget /\ i64 x.made
def gl (t : PT) (x : aQ) : Prop := ∃ (A0 : Option Addr) (c0 : Nat) (l0 : List PT) (A1 : Option Addr) (c1 : Nat) (l1 : List PT) (A2 : Option Addr) (c2 : Nat), AtL cQ l0 (x.classes) /\ AtL fF l1 (x.objects) /\ t = .agg [.sl A0 c0 3 l0, .sl A1 c1 4 l1, .sl A2 c2 1 ((x.output).map PT.str), .int .i64 x.ticks, .int .i64 x.budget, .int .i64 x.made]
theorem gl.cells {t : PT} {x : aQ} (h : gl t x) : t.cells.length = 6 := by
 obtain ⟨A0, c0, l0, A1, c1, l1, A2, c2, h0, h1, rfl⟩ := h
 rfl
theorem aQ.of_ty {t : PT} (h : cH aQ.ty t) : ∃ x : aQ, gl t x := by
 simp only [aQ.ty, cH, dI] at h
 obtain ⟨_, rfl, h⟩ := h
 obtain ⟨u0, _, rfl, h0, h⟩ := h
 obtain ⟨A0, c0, l0, rfl, h0⟩ := h0
 obtain ⟨v0, k0⟩ := uj fun t ht => aa.of_ty (h0 t ht)
 obtain ⟨u1, _, rfl, h1, h⟩ := h
 obtain ⟨A1, c1, l1, rfl, h1⟩ := h1
 obtain ⟨v1, k1⟩ := uj fun t ht => au.of_ty (h1 t ht)
 obtain ⟨u2, _, rfl, h2, h⟩ := h
 obtain ⟨A2, c2, l2, rfl, h2⟩ := h2
 obtain ⟨v2, rfl⟩ := iD fun t ht => h2 t ht
 obtain ⟨u3, _, rfl, h3, h⟩ := h
 obtain ⟨v3, rfl⟩ := h3
 obtain ⟨u4, _, rfl, h4, h⟩ := h
 obtain ⟨v4, rfl⟩ := h4
 obtain ⟨u5, _, rfl, h5, h⟩ := h
 obtain ⟨v5, rfl⟩ := h5
 subst h
 exact ⟨⟨v0, v1, v2, v3, v4, v5⟩, _, _, _, _, _, _, _, _, k0, k1, rfl⟩
theorem aQ.sane_of {t : PT} {x : aQ} (ha : gl t x) (h : t.sane) : x.sane := by
 obtain ⟨A0, c0, l0, A1, c1, l1, A2, c2, h0, h1, rfl⟩ := ha
 simp only [PT.sane, PT.saneL] at h
 exact ⟨iV h0 h.1 fun _ _ a b => aa.sane_of a b, iV h1 h.2.1 fun _ _ a b => au.sane_of a b, fun s hs => PT.saneL_mem h.2.2.1 (List.mem_map_of_mem (f := PT.str) hs), bZ h.2.2.2.1, bZ h.2.2.2.2.1, bZ h.2.2.2.2.2.1⟩
structure am where
 code : Int
 outer : Int
 home : Int
 self : ab
def am.ty : Ty := .agg [.int .i64, .int .i64, .int .i64, ab.ty]
def am.sane (x : am) : Prop := i64 x.code /\ i64 x.outer /\ i64 x.home /\ x.self.sane
def am.pt (x : am) : PT := .agg [.int .i64 x.code, .int .i64 x.outer, .int .i64 x.home, x.self.pt]
theorem am.flat : sJ am.pt 6 := ⟨fun _ => rfl, fun _ => rfl, fun _ _ => by simp [am.pt, Own, iK, ab.pt], fun _ _ _ => by simp [am.pt, d9, cx, ab.pt]⟩
theorem am.of_ty {t : PT} (h : cH am.ty t) : ∃ x : am, t = x.pt := by
 simp only [am.ty, cH, dI] at h
 obtain ⟨_, rfl, h⟩ := h
 obtain ⟨u0, _, rfl, h0, h⟩ := h
 obtain ⟨v0, rfl⟩ := h0
 obtain ⟨u1, _, rfl, h1, h⟩ := h
 obtain ⟨v1, rfl⟩ := h1
 obtain ⟨u2, _, rfl, h2, h⟩ := h
 obtain ⟨v2, rfl⟩ := h2
 obtain ⟨u3, _, rfl, h3, h⟩ := h
 obtain ⟨v3, rfl⟩ := ab.of_ty h3
 subst h
 exact ⟨⟨v0, v1, v2, v3⟩, rfl⟩
theorem am.sane_of {x : am} (h : x.pt.sane) : x.sane := by
 simp only [am.pt, PT.sane, PT.saneL] at h
 exact ⟨bZ h.1, bZ h.2.1, bZ h.2.2.1, ab.sane_of h.2.2.2.1⟩
structure aj where
 mark : Int
 code : Int
 pc : Int
 sender : Int
 outer : Int
 home : Int
 self : ab
 slots : List ab
 stack : List ab
 values : List ab
 other : Int
 retry : Bool
def aj.ty : Ty := .agg [.int .i64, .int .i64, .int .i64, .int .i64, .int .i64, .int .i64, ab.ty, .sl 3 ab.ty, .sl 3 ab.ty, .sl 3 ab.ty, .int .i64, .bool]
def aj.sane (x : aj) : Prop := i64 x.mark /\ i64 x.code /\ i64 x.pc /\ i64 x.sender /\ i64 x.outer /\ i64 x.home /\ x.self.sane /\ (∀ y ∈ x.slots, y.sane) /\ (∀ y ∈ x.stack, y.sane) /\ (∀ y ∈ x.values, y.sane) /\ i64 x.other
def eK (t : PT) (x : aj) : Prop := ∃ (A7 : Option Addr) (c7 : Nat) (A8 : Option Addr) (c8 : Nat) (A9 : Option Addr) (c9 : Nat), t = .agg [.int .i64 x.mark, .int .i64 x.code, .int .i64 x.pc, .int .i64 x.sender, .int .i64 x.outer, .int .i64 x.home, x.self.pt, .sl A7 c7 3 ((x.slots).map ab.pt), .sl A8 c8 3 ((x.stack).map ab.pt), .sl A9 c9 3 ((x.values).map ab.pt), .int .i64 x.other, .bool x.retry]
theorem eK.cells {t : PT} {x : aj} (h : eK t x) : t.cells.length = 14 := by
 obtain ⟨A7, c7, A8, c8, A9, c9, rfl⟩ := h
 rfl
theorem aj.of_ty {t : PT} (h : cH aj.ty t) : ∃ x : aj, eK t x := by
 simp only [aj.ty, cH, dI] at h
 obtain ⟨_, rfl, h⟩ := h
 obtain ⟨u0, _, rfl, h0, h⟩ := h
 obtain ⟨v0, rfl⟩ := h0
 obtain ⟨u1, _, rfl, h1, h⟩ := h
 obtain ⟨v1, rfl⟩ := h1
 obtain ⟨u2, _, rfl, h2, h⟩ := h
 obtain ⟨v2, rfl⟩ := h2
 obtain ⟨u3, _, rfl, h3, h⟩ := h
 obtain ⟨v3, rfl⟩ := h3
 obtain ⟨u4, _, rfl, h4, h⟩ := h
 obtain ⟨v4, rfl⟩ := h4
 obtain ⟨u5, _, rfl, h5, h⟩ := h
 obtain ⟨v5, rfl⟩ := h5
 obtain ⟨u6, _, rfl, h6, h⟩ := h
 obtain ⟨v6, rfl⟩ := ab.of_ty h6
 obtain ⟨u7, _, rfl, h7, h⟩ := h
 obtain ⟨A7, c7, l7, rfl, h7⟩ := h7
 obtain ⟨v7, rfl⟩ := iD fun t ht => ab.of_ty (h7 t ht)
 obtain ⟨u8, _, rfl, h8, h⟩ := h
 obtain ⟨A8, c8, l8, rfl, h8⟩ := h8
 obtain ⟨v8, rfl⟩ := iD fun t ht => ab.of_ty (h8 t ht)
 obtain ⟨u9, _, rfl, h9, h⟩ := h
 obtain ⟨A9, c9, l9, rfl, h9⟩ := h9
 obtain ⟨v9, rfl⟩ := iD fun t ht => ab.of_ty (h9 t ht)
 obtain ⟨u10, _, rfl, h10, h⟩ := h
 obtain ⟨v10, rfl⟩ := h10
 obtain ⟨u11, _, rfl, h11, h⟩ := h
 obtain ⟨v11, rfl⟩ := h11
 subst h
 exact ⟨⟨v0, v1, v2, v3, v4, v5, v6, v7, v8, v9, v10, v11⟩, _, _, _, _, _, _, rfl⟩
theorem aj.sane_of {t : PT} {x : aj} (ha : eK t x) (h : t.sane) : x.sane := by
 obtain ⟨A7, c7, A8, c8, A9, c9, rfl⟩ := ha
 simp only [PT.sane, PT.saneL] at h
 exact ⟨bZ h.1, bZ h.2.1, bZ h.2.2.1, bZ h.2.2.2.1, bZ h.2.2.2.2.1, bZ h.2.2.2.2.2.1, ab.sane_of h.2.2.2.2.2.2.1, fun y hy => ab.sane_of (PT.saneL_mem h.2.2.2.2.2.2.2.1 (List.mem_map_of_mem (f := ab.pt) hy)), fun y hy => ab.sane_of (PT.saneL_mem h.2.2.2.2.2.2.2.2.1 (List.mem_map_of_mem (f := ab.pt) hy)), fun y hy => ab.sane_of (PT.saneL_mem h.2.2.2.2.2.2.2.2.2.1 (List.mem_map_of_mem (f := ab.pt) hy)), bZ h.2.2.2.2.2.2.2.2.2.2.1⟩
structure ap where
 at_ : Int
 main : Bool
def ap.ty : Ty := .agg [.int .i64, .bool]
def ap.sane (x : ap) : Prop := i64 x.at_
def ap.pt (x : ap) : PT := .agg [.int .i64 x.at_, .bool x.main]
theorem ap.flat : sJ ap.pt 2 := ⟨fun _ => rfl, fun _ => rfl, fun _ _ => by simp [ap.pt, Own, iK], fun _ _ _ => by simp [ap.pt, d9, cx]⟩
theorem ap.of_ty {t : PT} (h : cH ap.ty t) : ∃ x : ap, t = x.pt := by
 simp only [ap.ty, cH, dI] at h
 obtain ⟨_, rfl, h⟩ := h
 obtain ⟨u0, _, rfl, h0, h⟩ := h
 obtain ⟨v0, rfl⟩ := h0
 obtain ⟨u1, _, rfl, h1, h⟩ := h
 obtain ⟨v1, rfl⟩ := h1
 subst h
 exact ⟨⟨v0, v1⟩, rfl⟩
theorem ap.sane_of {x : ap} (h : x.pt.sane) : x.sane := by
 simp only [ap.pt, PT.sane, PT.saneL] at h
 exact bZ h.1
structure ao where
 base : aA
 store : aQ
 blocks : List am
 contexts : List aj
 processes : List ap
 ready : List Int
 now : Int
 status : Int
 value : ab
 fault : ByteArray
def ao.ty : Ty := .agg [aA.ty, aQ.ty, .sl 6 am.ty, .sl 14 aj.ty, .sl 2 ap.ty, .sl 1 (.int .i64), .int .i64, .int .i64, ab.ty, .str]
def ao.sane (x : ao) : Prop := x.base.sane /\ x.store.sane /\ (∀ y ∈ x.blocks, y.sane) /\ (∀ y ∈ x.contexts, y.sane) /\ (∀ y ∈ x.processes, y.sane) /\ (∀ n ∈ x.ready, i64 n) /\ i64 x.now /\ i64 x.status /\ x.value.sane /\ x.fault.size <= maxLen
def f9 (t : PT) (x : ao) : Prop := ∃ (t0 : PT) (t1 : PT) (A2 : Option Addr) (c2 : Nat) (A3 : Option Addr) (c3 : Nat) (l3 : List PT) (A4 : Option Addr) (c4 : Nat) (A5 : Option Addr) (c5 : Nat), dr t0 x.base /\ gl t1 x.store /\ AtL eK l3 (x.contexts) /\ t = .agg [t0, t1, .sl A2 c2 6 ((x.blocks).map am.pt), .sl A3 c3 14 l3, .sl A4 c4 2 ((x.processes).map ap.pt), .sl A5 c5 1 ((x.ready).map (PT.int .i64)), .int .i64 x.now, .int .i64 x.status, x.value.pt, .str x.fault]
theorem f9.cells {t : PT} {x : ao} (h : f9 t x) : t.cells.length = 20 := by
 obtain ⟨t0, t1, A2, c2, A3, c3, l3, A4, c4, A5, c5, h0, h1, h2, rfl⟩ := h
 have e0 := dr.cells h0
 have e1 := gl.cells h1
 simp [PT.cells, PT.cellsL, List.length_append, List.length_cons, List.length_nil, ab.pt, e0, e1]
theorem ao.of_ty {t : PT} (h : cH ao.ty t) : ∃ x : ao, f9 t x := by
 simp only [ao.ty, cH, dI] at h
 obtain ⟨_, rfl, h⟩ := h
 obtain ⟨u0, _, rfl, h0, h⟩ := h
 obtain ⟨v0, k0⟩ := aA.of_ty h0
 obtain ⟨u1, _, rfl, h1, h⟩ := h
 obtain ⟨v1, k1⟩ := aQ.of_ty h1
 obtain ⟨u2, _, rfl, h2, h⟩ := h
 obtain ⟨A2, c2, l2, rfl, h2⟩ := h2
 obtain ⟨v2, rfl⟩ := iD fun t ht => am.of_ty (h2 t ht)
 obtain ⟨u3, _, rfl, h3, h⟩ := h
 obtain ⟨A3, c3, l3, rfl, h3⟩ := h3
 obtain ⟨v3, k3⟩ := uj fun t ht => aj.of_ty (h3 t ht)
 obtain ⟨u4, _, rfl, h4, h⟩ := h
 obtain ⟨A4, c4, l4, rfl, h4⟩ := h4
 obtain ⟨v4, rfl⟩ := iD fun t ht => ap.of_ty (h4 t ht)
 obtain ⟨u5, _, rfl, h5, h⟩ := h
 obtain ⟨A5, c5, l5, rfl, h5⟩ := h5
 obtain ⟨v5, rfl⟩ := iD fun t ht => h5 t ht
 obtain ⟨u6, _, rfl, h6, h⟩ := h
 obtain ⟨v6, rfl⟩ := h6
 obtain ⟨u7, _, rfl, h7, h⟩ := h
 obtain ⟨v7, rfl⟩ := h7
 obtain ⟨u8, _, rfl, h8, h⟩ := h
 obtain ⟨v8, rfl⟩ := ab.of_ty h8
 obtain ⟨u9, _, rfl, h9, h⟩ := h
 obtain ⟨v9, rfl⟩ := h9
 subst h
 exact ⟨⟨v0, v1, v2, v3, v4, v5, v6, v7, v8, v9⟩, _, _, _, _, _, _, _, _, _, _, _, k0, k1, k3, rfl⟩
theorem ao.sane_of {t : PT} {x : ao} (ha : f9 t x) (h : t.sane) : x.sane := by
 obtain ⟨t0, t1, A2, c2, A3, c3, l3, A4, c4, A5, c5, h0, h1, h2, rfl⟩ := ha
 simp only [PT.sane, PT.saneL] at h
 exact ⟨aA.sane_of h0 h.1, aQ.sane_of h1 h.2.1, fun y hy => am.sane_of (PT.saneL_mem h.2.2.1 (List.mem_map_of_mem (f := am.pt) hy)), iV h2 h.2.2.2.1 fun _ _ a b => aj.sane_of a b, fun y hy => ap.sane_of (PT.saneL_mem h.2.2.2.2.1 (List.mem_map_of_mem (f := ap.pt) hy)), fun n hn => bZ (PT.saneL_mem h.2.2.2.2.2.1 (List.mem_map_of_mem (f := PT.int .i64) hn)), bZ h.2.2.2.2.2.2.1, bZ h.2.2.2.2.2.2.2.1, ab.sane_of h.2.2.2.2.2.2.2.2.1, h.2.2.2.2.2.2.2.2.2.1⟩
structure ff where
 code : Int
 at_ : Int
 kind : Int
def ff.ty : Ty := .agg [.int .i64, .int .i64, .int .i64]
def ff.sane (x : ff) : Prop := i64 x.code /\ i64 x.at_ /\ i64 x.kind
def ff.pt (x : ff) : PT := .agg [.int .i64 x.code, .int .i64 x.at_, .int .i64 x.kind]
theorem ff.flat : sJ ff.pt 3 := ⟨fun _ => rfl, fun _ => rfl, fun _ _ => by simp [ff.pt, Own, iK], fun _ _ _ => by simp [ff.pt, d9, cx]⟩
theorem ff.of_ty {t : PT} (h : cH ff.ty t) : ∃ x : ff, t = x.pt := by
 simp only [ff.ty, cH, dI] at h
 obtain ⟨_, rfl, h⟩ := h
 obtain ⟨u0, _, rfl, h0, h⟩ := h
 obtain ⟨v0, rfl⟩ := h0
 obtain ⟨u1, _, rfl, h1, h⟩ := h
 obtain ⟨v1, rfl⟩ := h1
 obtain ⟨u2, _, rfl, h2, h⟩ := h
 obtain ⟨v2, rfl⟩ := h2
 subst h
 exact ⟨⟨v0, v1, v2⟩, rfl⟩
theorem ff.sane_of {x : ff} (h : x.pt.sane) : x.sane := by
 simp only [ff.pt, PT.sane, PT.saneL] at h
 exact ⟨bZ h.1, bZ h.2.1, bZ h.2.2.1⟩
end Go.Proofs.YtigipcbnfeoliaaGreatDoor
