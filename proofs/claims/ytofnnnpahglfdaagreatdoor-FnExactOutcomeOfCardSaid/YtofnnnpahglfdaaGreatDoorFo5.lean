/- Part 5 of the proof: the texts Num, Types. -/
import Derived.Test.YtofnnnpahglfdaaGreatDoorFo1
import Derived.Test.YtofnnnpahglfdaaGreatDoorFo2
import Derived.Lib.AppendIntMem
set_option linter.all false
set_option maxHeartbeats 400000
set_option maxRecDepth 8000
namespace Go.Proofs.YtofnnnpahglfdaaGreatDoor
open Go Go.RowKit
def acX (w : World) : Prop := Lib.TabIs Tryz.prog w "internal/strconv.uint64pow10" .u64 Lib.pow10Tab
theorem acX.below {w w' : World} (h : acX w) (hb : Below w.heap.size w w') : acX w' := Lib.tabBelow_of_tabIs h w' hb
def gn (n : Int) : ByteArray := ⟨(Lib.itoa n).toArray⟩
theorem iX : ∀ (k u : Nat), u < 10 ^ (k + 1) -> Lib.nDigits u <= k + 1
 | 0, u, h => by rw [Lib.nDigits_small (by simpa using h)]; omega
 | k + 1, u, h => by
   by_cases h1 : u < 10
   ·rw [Lib.nDigits_small h1]; omega
   ·rw [Lib.nDigits_big h1]
    have := iX k (u / 10) (by rw [Nat.pow_succ] at h; omega)
    omega
theorem nC {n : Int} (h0 : -9223372036854775808 <= n) (h1 : n <= 9223372036854775807) : (gn n).size <= 20 := by
 show (Lib.itoa n).toArray.size <= 20
 rw [List.size_toArray, Lib.itoa]
 split
 ·rw [List.length_cons, Lib.decDigits_length]; have := iX 18 n.natAbs (by simp; omega); omega
 ·rw [Lib.decDigits_length]; have := iX 18 n.toNat (by simp; omega); omega
theorem rZ (n : Int) (w : World) (ht : acX w) (h0 : -9223372036854775808 <= n) (h1 : n <= 9223372036854775807) : Calls Tryz.prog 63 #[.int .i64 n] w fun e w' => e = .returned (.string (gn n)) /\ Below w.heap.size w w' := by
 go_enter Tryz.func63, Tryz.ntmps63
 go_wp2_with (go_at_call 141; refine (Tryz.strconv_Itoa n h0 h1 _ ht).mono ?_; rintro e w' ⟨rfl, k, os, rfl⟩)
 go_ret
 exact ⟨rfl, Lib.below_grow _ _ (Nat.le_refl _) _ _⟩
def pre (u : Nat) : List UInt8 := if u = 0 then [] else Lib.decDigits u
theorem w9 {u : Nat} (h : u ≠ 0) : pre u = pre (u / 10) ++ [UInt8.ofNat (48 + u % 10)] := by
 unfold pre
 rw [if_neg h, Lib.decDigits]
 by_cases h1 : u < 10
 ·rw [dif_pos h1, if_pos (by omega), Nat.mod_eq_of_lt h1]; rfl
 ·rw [dif_neg h1, if_neg (by omega)]
theorem pY {u : Nat} (h : u < 10000000000000000000) : (pre u).length <= 19 := by
 unfold pre
 split
 ·simp
 ·rw [Lib.decDigits_length]; exact iX 18 u (by simpa using h)
theorem wI {n : Int} (hz : n ≠ 0) : gn n = if n < 0 then ⟨(45 :: pre n.natAbs).toArray⟩ else ⟨(pre n.natAbs).toArray⟩ := by
 have h1 : pre n.natAbs = Lib.decDigits n.natAbs := by unfold pre; rw [if_neg (by omega)]
 rw [h1]
 unfold gn Lib.itoa
 by_cases h : n < 0
 ·rw [if_pos h, if_pos h]
 ·rw [if_neg h, if_neg h, show n.toNat = n.natAbs by omega]
theorem ace (m : Int) : Int.tmod m 10 = if m < 0 then -((m.natAbs % 10 : Nat) : Int) else ((m.natAbs % 10 : Nat) : Int) := by
 by_cases h : m < 0
 ·rw [if_pos h]
  have h2 : Int.tmod m 10 = -((-m) % 10) := by rw [<- Int.tmod_eq_emod_of_nonneg (by omega), Int.neg_tmod]; omega
  rw [h2]; omega
 ·rw [if_neg h, Int.tmod_eq_emod_of_nonneg (by omega)]; omega
theorem xw (src : TypeId) (e : TypeId) (w : World) (d : Nat) (hd : d < 256) (v : Int) (hv : v = d) (hs : Tryz.prog.underlying src = some (.slice e)) (he : Tryz.prog.underlying e = some (.int .u8)) :
   (convert src 9 (.slice (some ⟨w.heap.size, 0, none⟩) 1 1)).run Tryz.prog (w.alloc (.cells #[.int .u8 v] e)) = .ok (.string ⟨#[UInt8.ofNat d]⟩) (w.alloc (.cells #[.int .u8 v] e)) := by
 subst hv
 refine run_convert_bytes_back (P := Tryz.prog) _ src 9 e ⟨w.heap.size, 0, none⟩ 1 [UInt8.ofNat d] hs he Tryz.underlying9 fun j hj => ?_
 have hj0 : j = 0 := by simp at hj; omega
 subst hj0
 have h := Blk.cell (Blk.new w e #[.int .u8 (d : Int)]) 0
 rw [show (⟨w.heap.size, 0, none⟩ : Addr).add 0 = ⟨w.heap.size, 0, none⟩ from rfl, h]
 show some (Value.int .u8 (d : Int)) = some (.int .u8 ((UInt8.ofNat d).toNat : Int))
 rw [UInt8.toNat_ofNat', Nat.mod_eq_of_lt hd]
theorem abO (m : Int) : (Int.tdiv m 10).natAbs = m.natAbs / 10 := by rw [Int.natAbs_tdiv]; rfl
theorem fY (n : Int) (w : World) (h0 : -9223372036854775808 <= n) (h1 : n <= 9223372036854775807) : Calls Tryz.prog 59 #[.int .i64 n] w fun e w' => e = .returned (.string (gn n)) /\ Below w.heap.size w w' := by
 by_cases hz : n = 0
 ·subst hz
  go_enter Tryz.func59, Tryz.ntmps59
  go_wp2
  go_ret
  exact ⟨iF (by decide +kernel), Below.refl _ _⟩
 have Hlen := Lib.hid (pY (u := n.natAbs) (by omega))
 have HP := Lib.hid (wI hz)
 by_cases hneg : n < 0
 all_goals
   go_enter Tryz.func59, Tryz.ntmps59
   go_wp2
   go_loopw [0, 4] (fun nv ov wr => ∃ (m : Int) (s : ByteArray), nv = .int .i64 m /\ ov = .string s /\ -9223372036854775808 <= m /\ m <= 9223372036854775807 /\ pre m.natAbs ++ s.data.toList = pre n.natAbs /\ Below w.heap.size w wr) (fun nv _ _ => (intOf nv).natAbs)
   case atStart => exact ⟨n, _, rfl, rfl, h0, h1, by simp, Below.refl _ _⟩
   case round =>
     obtain ⟨m, s, rfl, rfl, hm0, hm1, hr, hb⟩ := hrel
     have hsz : s.size <= 19 := by
       have := congrArg List.length hr
       rw [List.length_append, aP] at this
       have := Hlen.out
       omega
     have Hr := Lib.hid hr
     clear hr
     by_cases hm : m = 0
     ·subst hm
      go_wp2
      go_ret
      refine ⟨iF ?_, hb⟩
      have h2 := Hr.out
      rw [HP.out]
      rw [show (0 : Int).natAbs = 0 from rfl, show pre 0 = [] from rfl, List.nil_append] at h2
      first
        | (rw [if_pos hneg]; exact ja (by rw [ByteArray.data_append, Array.toList_append, h2]; rfl))
        | (rw [if_neg (by omega)]; exact ja h2)
     ·have ha := ace m
      have hd9 : m.natAbs % 10 <= 9 := by omega
      have hp := w9 (u := m.natAbs) (by omega)
      have hq := abO m
      generalize hd : m.natAbs % 10 = d at ha hd9 hp
      obtain ⟨b, hbd⟩ : ∃ b, UInt8.ofNat (48 + d) = b := ⟨_, rfl⟩
      rw [hbd] at hp
      have Hp := Lib.hid hp
      have Hq := Lib.hid hq
      have hcv := xw 201 5 wr (48 + d) (by omega) (48 + (d : Int)) (by omega) Tryz.underlying201 Tryz.underlying5
      rw [hbd] at hcv
      clear hp hd hq hbd
      have hnext : pre (Int.tdiv m 10).natAbs ++ ((⟨#[b]⟩ : ByteArray) ++ s).data.toList = pre n.natAbs := by
        rw [Hq.out, <- Hr.out, Hp.out, ByteArray.data_append, Array.toList_append, List.append_assoc]
      have Hn := Lib.hid hnext
      clear hnext
      have hbel : ∀ o, Below w.heap.size w (wr.alloc o) := fun o => hb.trans (((Below.refl _ _).alloc (Nat.le_refl _) o).mono hb.size)
      have hm10 : (Int.tdiv m 10).natAbs < m.natAbs := by rw [Hq.out]; omega
      have Hm10 := Lib.hid hm10
      clear hm10 hb
      by_cases hs : m < 0
      ·rw [if_pos hs] at ha
       by_cases hd0 : d = 0
       ·subst hd0
        rw [show -((0 : Nat) : Int) = 0 from rfl] at ha
        rw [show 48 + ((0 : Nat) : Int) = 48 from rfl] at hcv
        go_wp2
        go_roundw
        case rel => exact ⟨_, _, rfl, rfl, by have := Hm10.out; omega, by have := Hm10.out; omega, Hn.out, hbel _⟩
        case measure => exact Hm10.out
       ·have hd1 : -(d : Int) < 0 := by omega
        go_wp2
        go_roundw
        case rel => exact ⟨_, _, rfl, rfl, by have := Hm10.out; omega, by have := Hm10.out; omega, Hn.out, hbel _⟩
        case measure => exact Hm10.out
      ·rw [if_neg hs] at ha
       have hd1 : ¬ (d : Int) < 0 := by omega
       have hdv : Int.tdiv m 10 = m / 10 := Int.tdiv_eq_ediv_of_nonneg (by omega)
       have Hm10 := Lib.hid (hdv ▸ Hm10.out)
       have Hn := Lib.hid (hdv ▸ Hn.out)
       clear hdv
       go_wp2
       go_roundw
       case rel => exact ⟨_, _, rfl, rfl, by have := Hm10.out; omega, by have := Hm10.out; omega, Hn.out, hbel _⟩
       case measure => exact Hm10.out
def bl {α : Type} (f : α -> Nat) (l : List α) : Nat := l.length + (l.map f).sum
theorem iQ {α : Type} {R : PT -> α -> Prop} {P : α -> Prop} {l : List PT} {xs : List α} (h : AtL R l xs) (hs : PT.saneL l) (hp : ∀ t x, R t x -> t.sane -> P x) : ∀ x ∈ xs, P x := fun x hx => by
 obtain ⟨i, hi, rfl⟩ := List.getElem_of_mem hx
 have hi' : i < l.length := by rw [h.1]; exact hi
 exact hp _ _ (h.get hi') (PT.saneL_mem hs (List.getElem_mem hi'))
structure ad where
 kind : Int
 number : Int
 text : ByteArray
def ad.ty : Ty := .agg [.int .i64, .int .i64, .str]
def ad.sane (x : ad) : Prop := i64 x.kind /\ i64 x.number /\ x.text.size <= maxLen
def ad.pt (x : ad) : PT := .agg [.int .i64 x.kind, .int .i64 x.number, .str x.text]
theorem ad.flat : su ad.pt 3 := ⟨fun _ => rfl, fun _ => rfl, fun _ _ => by simp [ad.pt, Own, jo], fun _ _ _ => by simp [ad.pt, dM, ch]⟩
theorem ad.of_ty {t : PT} (h : cB ad.ty t) : ∃ x : ad, t = x.pt := by
 simp only [ad.ty, cB, dB] at h
 obtain ⟨_, rfl, h⟩ := h
 obtain ⟨u0, _, rfl, h0, h⟩ := h
 obtain ⟨v0, rfl⟩ := h0
 obtain ⟨u1, _, rfl, h1, h⟩ := h
 obtain ⟨v1, rfl⟩ := h1
 obtain ⟨u2, _, rfl, h2, h⟩ := h
 obtain ⟨v2, rfl⟩ := h2
 subst h
 exact ⟨⟨v0, v1, v2⟩, rfl⟩
theorem ad.sane_of {x : ad} (h : x.pt.sane) : x.sane := by
 simp only [ad.pt, PT.sane, PT.saneL] at h
 exact ⟨bR h.1, bR h.2.1, h.2.2.1⟩
structure ah where
 op : Int
 a : Int
 b : Int
 text : ByteArray
def ah.ty : Ty := .agg [.int .i64, .int .i64, .int .i64, .str]
def ah.sane (x : ah) : Prop := i64 x.op /\ i64 x.a /\ i64 x.b /\ x.text.size <= maxLen
def ah.pt (x : ah) : PT := .agg [.int .i64 x.op, .int .i64 x.a, .int .i64 x.b, .str x.text]
theorem ah.flat : su ah.pt 4 := ⟨fun _ => rfl, fun _ => rfl, fun _ _ => by simp [ah.pt, Own, jo], fun _ _ _ => by simp [ah.pt, dM, ch]⟩
theorem ah.of_ty {t : PT} (h : cB ah.ty t) : ∃ x : ah, t = x.pt := by
 simp only [ah.ty, cB, dB] at h
 obtain ⟨_, rfl, h⟩ := h
 obtain ⟨u0, _, rfl, h0, h⟩ := h
 obtain ⟨v0, rfl⟩ := h0
 obtain ⟨u1, _, rfl, h1, h⟩ := h
 obtain ⟨v1, rfl⟩ := h1
 obtain ⟨u2, _, rfl, h2, h⟩ := h
 obtain ⟨v2, rfl⟩ := h2
 obtain ⟨u3, _, rfl, h3, h⟩ := h
 obtain ⟨v3, rfl⟩ := h3
 subst h
 exact ⟨⟨v0, v1, v2, v3⟩, rfl⟩
theorem ah.sane_of {x : ah} (h : x.pt.sane) : x.sane := by
 simp only [ah.pt, PT.sane, PT.saneL] at h
 exact ⟨bR h.1, bR h.2.1, bR h.2.2.1, h.2.2.2.1⟩
structure aA where
 block : Bool
 params : Int
 slots : Int
 instrs : List ah
def aA.ty : Ty := .agg [.bool, .int .i64, .int .i64, .sl 4 ah.ty]
def aA.sane (x : aA) : Prop := i64 x.params /\ i64 x.slots /\ (∀ y ∈ x.instrs, y.sane)
def jQ (t : PT) (x : aA) : Prop := ∃ (A3 : Option Addr) (c3 : Nat), t = .agg [.bool x.block, .int .i64 x.params, .int .i64 x.slots, .sl A3 c3 4 ((x.instrs).map ah.pt)]
theorem jQ.cells {t : PT} {x : aA} (h : jQ t x) : t.cells.length = 4 := by
 obtain ⟨A3, c3, rfl⟩ := h
 rfl
theorem aA.of_ty {t : PT} (h : cB aA.ty t) : ∃ x : aA, jQ t x := by
 simp only [aA.ty, cB, dB] at h
 obtain ⟨_, rfl, h⟩ := h
 obtain ⟨u0, _, rfl, h0, h⟩ := h
 obtain ⟨v0, rfl⟩ := h0
 obtain ⟨u1, _, rfl, h1, h⟩ := h
 obtain ⟨v1, rfl⟩ := h1
 obtain ⟨u2, _, rfl, h2, h⟩ := h
 obtain ⟨v2, rfl⟩ := h2
 obtain ⟨u3, _, rfl, h3, h⟩ := h
 obtain ⟨A3, c3, l3, rfl, h3⟩ := h3
 obtain ⟨v3, rfl⟩ := gX fun t ht => ah.of_ty (h3 t ht)
 subst h
 exact ⟨⟨v0, v1, v2, v3⟩, _, _, rfl⟩
theorem aA.sane_of {t : PT} {x : aA} (ha : jQ t x) (h : t.sane) : x.sane := by
 obtain ⟨A3, c3, rfl⟩ := ha
 simp only [PT.sane, PT.saneL] at h
 exact ⟨bR h.2.1, bR h.2.2.1, fun y hy => ah.sane_of (PT.saneL_mem h.2.2.2.1 (List.mem_map_of_mem (f := ah.pt) hy))⟩
structure az where
 owner : Int
 class_ : Bool
 selector : ByteArray
 code : Int
def az.ty : Ty := .agg [.int .i64, .bool, .str, .int .i64]
def az.sane (x : az) : Prop := i64 x.owner /\ x.selector.size <= maxLen /\ i64 x.code
def az.pt (x : az) : PT := .agg [.int .i64 x.owner, .bool x.class_, .str x.selector, .int .i64 x.code]
theorem az.flat : su az.pt 4 := ⟨fun _ => rfl, fun _ => rfl, fun _ _ => by simp [az.pt, Own, jo], fun _ _ _ => by simp [az.pt, dM, ch]⟩
theorem az.of_ty {t : PT} (h : cB az.ty t) : ∃ x : az, t = x.pt := by
 simp only [az.ty, cB, dB] at h
 obtain ⟨_, rfl, h⟩ := h
 obtain ⟨u0, _, rfl, h0, h⟩ := h
 obtain ⟨v0, rfl⟩ := h0
 obtain ⟨u1, _, rfl, h1, h⟩ := h
 obtain ⟨v1, rfl⟩ := h1
 obtain ⟨u2, _, rfl, h2, h⟩ := h
 obtain ⟨v2, rfl⟩ := h2
 obtain ⟨u3, _, rfl, h3, h⟩ := h
 obtain ⟨v3, rfl⟩ := h3
 subst h
 exact ⟨⟨v0, v1, v2, v3⟩, rfl⟩
theorem az.sane_of {x : az} (h : x.pt.sane) : x.sane := by
 simp only [az.pt, PT.sane, PT.saneL] at h
 exact ⟨bR h.1, h.2.2.1, bR h.2.2.2.1⟩
structure aa where
 name : ByteArray
 parent : Int
 fields : List ByteArray
def aa.ty : Ty := .agg [.str, .int .i64, .sl 1 (.str)]
def aa.sane (x : aa) : Prop := x.name.size <= maxLen /\ i64 x.parent /\ (∀ s ∈ x.fields, s.size <= maxLen)
def cM (t : PT) (x : aa) : Prop := ∃ (A2 : Option Addr) (c2 : Nat), t = .agg [.str x.name, .int .i64 x.parent, .sl A2 c2 1 ((x.fields).map PT.str)]
theorem cM.cells {t : PT} {x : aa} (h : cM t x) : t.cells.length = 3 := by
 obtain ⟨A2, c2, rfl⟩ := h
 rfl
theorem aa.of_ty {t : PT} (h : cB aa.ty t) : ∃ x : aa, cM t x := by
 simp only [aa.ty, cB, dB] at h
 obtain ⟨_, rfl, h⟩ := h
 obtain ⟨u0, _, rfl, h0, h⟩ := h
 obtain ⟨v0, rfl⟩ := h0
 obtain ⟨u1, _, rfl, h1, h⟩ := h
 obtain ⟨v1, rfl⟩ := h1
 obtain ⟨u2, _, rfl, h2, h⟩ := h
 obtain ⟨A2, c2, l2, rfl, h2⟩ := h2
 obtain ⟨v2, rfl⟩ := gX fun t ht => h2 t ht
 subst h
 exact ⟨⟨v0, v1, v2⟩, _, _, rfl⟩
theorem aa.sane_of {t : PT} {x : aa} (ha : cM t x) (h : t.sane) : x.sane := by
 obtain ⟨A2, c2, rfl⟩ := ha
 simp only [PT.sane, PT.saneL] at h
 exact ⟨h.1, bR h.2.1, fun s hs => PT.saneL_mem h.2.2.1 (List.mem_map_of_mem (f := PT.str) hs)⟩
structure aw where
 classes : List aa
 codes : List aA
 entries : List az
 main : Int
def aw.ty : Ty := .agg [.sl 3 aa.ty, .sl 4 aA.ty, .sl 4 az.ty, .int .i64]
def aw.sane (x : aw) : Prop := (∀ y ∈ x.classes, y.sane) /\ (∀ y ∈ x.codes, y.sane) /\ (∀ y ∈ x.entries, y.sane) /\ i64 x.main
def dn (t : PT) (x : aw) : Prop := ∃ (A0 : Option Addr) (c0 : Nat) (l0 : List PT) (A1 : Option Addr) (c1 : Nat) (l1 : List PT) (A2 : Option Addr) (c2 : Nat), AtL cM l0 (x.classes) /\ AtL jQ l1 (x.codes) /\ t = .agg [.sl A0 c0 3 l0, .sl A1 c1 4 l1, .sl A2 c2 4 ((x.entries).map az.pt), .int .i64 x.main]
theorem dn.cells {t : PT} {x : aw} (h : dn t x) : t.cells.length = 4 := by
 obtain ⟨A0, c0, l0, A1, c1, l1, A2, c2, h0, h1, rfl⟩ := h
 rfl
theorem aw.of_ty {t : PT} (h : cB aw.ty t) : ∃ x : aw, dn t x := by
 simp only [aw.ty, cB, dB] at h
 obtain ⟨_, rfl, h⟩ := h
 obtain ⟨u0, _, rfl, h0, h⟩ := h
 obtain ⟨A0, c0, l0, rfl, h0⟩ := h0
 obtain ⟨v0, k0⟩ := tJ fun t ht => aa.of_ty (h0 t ht)
 obtain ⟨u1, _, rfl, h1, h⟩ := h
 obtain ⟨A1, c1, l1, rfl, h1⟩ := h1
 obtain ⟨v1, k1⟩ := tJ fun t ht => aA.of_ty (h1 t ht)
 obtain ⟨u2, _, rfl, h2, h⟩ := h
 obtain ⟨A2, c2, l2, rfl, h2⟩ := h2
 obtain ⟨v2, rfl⟩ := gX fun t ht => az.of_ty (h2 t ht)
 obtain ⟨u3, _, rfl, h3, h⟩ := h
 obtain ⟨v3, rfl⟩ := h3
 subst h
 exact ⟨⟨v0, v1, v2, v3⟩, _, _, _, _, _, _, _, _, k0, k1, rfl⟩
theorem aw.sane_of {t : PT} {x : aw} (ha : dn t x) (h : t.sane) : x.sane := by
 obtain ⟨A0, c0, l0, A1, c1, l1, A2, c2, h0, h1, rfl⟩ := ha
 simp only [PT.sane, PT.saneL] at h
 exact ⟨iQ h0 h.1 fun _ _ a b => aa.sane_of a b, iQ h1 h.2.1 fun _ _ a b => aA.sane_of a b, fun y hy => az.sane_of (PT.saneL_mem h.2.2.1 (List.mem_map_of_mem (f := az.pt) hy)), bR h.2.2.2.1⟩
structure ay where
 kind : Int
 class_ : Int
 fields : List ad
 numbers : List Int
def ay.ty : Ty := .agg [.int .i64, .int .i64, .sl 3 ad.ty, .sl 1 (.int .i64)]
def ay.sane (x : ay) : Prop := i64 x.kind /\ i64 x.class_ /\ (∀ y ∈ x.fields, y.sane) /\ (∀ n ∈ x.numbers, i64 n)
def fo (t : PT) (x : ay) : Prop := ∃ (A2 : Option Addr) (c2 : Nat) (A3 : Option Addr) (c3 : Nat), t = .agg [.int .i64 x.kind, .int .i64 x.class_, .sl A2 c2 3 ((x.fields).map ad.pt), .sl A3 c3 1 ((x.numbers).map (PT.int .i64))]
theorem fo.cells {t : PT} {x : ay} (h : fo t x) : t.cells.length = 4 := by
 obtain ⟨A2, c2, A3, c3, rfl⟩ := h
 rfl
theorem ay.of_ty {t : PT} (h : cB ay.ty t) : ∃ x : ay, fo t x := by
 simp only [ay.ty, cB, dB] at h
 obtain ⟨_, rfl, h⟩ := h
 obtain ⟨u0, _, rfl, h0, h⟩ := h
 obtain ⟨v0, rfl⟩ := h0
 obtain ⟨u1, _, rfl, h1, h⟩ := h
 obtain ⟨v1, rfl⟩ := h1
 obtain ⟨u2, _, rfl, h2, h⟩ := h
 obtain ⟨A2, c2, l2, rfl, h2⟩ := h2
 obtain ⟨v2, rfl⟩ := gX fun t ht => ad.of_ty (h2 t ht)
 obtain ⟨u3, _, rfl, h3, h⟩ := h
 obtain ⟨A3, c3, l3, rfl, h3⟩ := h3
 obtain ⟨v3, rfl⟩ := gX fun t ht => h3 t ht
 subst h
 exact ⟨⟨v0, v1, v2, v3⟩, _, _, _, _, rfl⟩
theorem ay.sane_of {t : PT} {x : ay} (ha : fo t x) (h : t.sane) : x.sane := by
 obtain ⟨A2, c2, A3, c3, rfl⟩ := ha
 simp only [PT.sane, PT.saneL] at h
 exact ⟨bR h.1, bR h.2.1, fun y hy => ad.sane_of (PT.saneL_mem h.2.2.1 (List.mem_map_of_mem (f := ad.pt) hy)), fun n hn => bR (PT.saneL_mem h.2.2.2.1 (List.mem_map_of_mem (f := PT.int .i64) hn))⟩
structure aJ where
 classes : List aa
 objects : List ay
 output : List ByteArray
 ticks : Int
 budget : Int
 made : Int
def aJ.ty : Ty := .agg [.sl 3 aa.ty, .sl 4 ay.ty, .sl 1 (.str), .int .i64, .int .i64, .int .i64]
def aJ.sane (x : aJ) : Prop := (∀ y ∈ x.classes, y.sane) /\ (∀ y ∈ x.objects, y.sane) /\ (∀ s ∈ x.output, s.size <= maxLen) /\ i64 x.ticks /\ i64 x.budget /\ i64 x.made
def fL (t : PT) (x : aJ) : Prop := ∃ (A0 : Option Addr) (c0 : Nat) (l0 : List PT) (A1 : Option Addr) (c1 : Nat) (l1 : List PT) (A2 : Option Addr) (c2 : Nat), AtL cM l0 (x.classes) /\ AtL fo l1 (x.objects) /\ t = .agg [.sl A0 c0 3 l0, .sl A1 c1 4 l1, .sl A2 c2 1 ((x.output).map PT.str), .int .i64 x.ticks, .int .i64 x.budget, .int .i64 x.made]
theorem fL.cells {t : PT} {x : aJ} (h : fL t x) : t.cells.length = 6 := by
 obtain ⟨A0, c0, l0, A1, c1, l1, A2, c2, h0, h1, rfl⟩ := h
 rfl
theorem aJ.of_ty {t : PT} (h : cB aJ.ty t) : ∃ x : aJ, fL t x := by
 simp only [aJ.ty, cB, dB] at h
 obtain ⟨_, rfl, h⟩ := h
 obtain ⟨u0, _, rfl, h0, h⟩ := h
 obtain ⟨A0, c0, l0, rfl, h0⟩ := h0
 obtain ⟨v0, k0⟩ := tJ fun t ht => aa.of_ty (h0 t ht)
 obtain ⟨u1, _, rfl, h1, h⟩ := h
 obtain ⟨A1, c1, l1, rfl, h1⟩ := h1
 obtain ⟨v1, k1⟩ := tJ fun t ht => ay.of_ty (h1 t ht)
 obtain ⟨u2, _, rfl, h2, h⟩ := h
 obtain ⟨A2, c2, l2, rfl, h2⟩ := h2
 obtain ⟨v2, rfl⟩ := gX fun t ht => h2 t ht
 obtain ⟨u3, _, rfl, h3, h⟩ := h
 obtain ⟨v3, rfl⟩ := h3
 obtain ⟨u4, _, rfl, h4, h⟩ := h
 obtain ⟨v4, rfl⟩ := h4
 obtain ⟨u5, _, rfl, h5, h⟩ := h
 obtain ⟨v5, rfl⟩ := h5
 subst h
 exact ⟨⟨v0, v1, v2, v3, v4, v5⟩, _, _, _, _, _, _, _, _, k0, k1, rfl⟩
theorem aJ.sane_of {t : PT} {x : aJ} (ha : fL t x) (h : t.sane) : x.sane := by
 obtain ⟨A0, c0, l0, A1, c1, l1, A2, c2, h0, h1, rfl⟩ := ha
 simp only [PT.sane, PT.saneL] at h
 exact ⟨iQ h0 h.1 fun _ _ a b => aa.sane_of a b, iQ h1 h.2.1 fun _ _ a b => ay.sane_of a b, fun s hs => PT.saneL_mem h.2.2.1 (List.mem_map_of_mem (f := PT.str) hs), bR h.2.2.2.1, bR h.2.2.2.2.1, bR h.2.2.2.2.2.1⟩
structure aq where
 code : Int
 outer : Int
 home : Int
 self : ad
def aq.ty : Ty := .agg [.int .i64, .int .i64, .int .i64, ad.ty]
def aq.sane (x : aq) : Prop := i64 x.code /\ i64 x.outer /\ i64 x.home /\ x.self.sane
def aq.pt (x : aq) : PT := .agg [.int .i64 x.code, .int .i64 x.outer, .int .i64 x.home, x.self.pt]
theorem aq.flat : su aq.pt 6 := ⟨fun _ => rfl, fun _ => rfl, fun _ _ => by simp [aq.pt, Own, jo, ad.pt], fun _ _ _ => by simp [aq.pt, dM, ch, ad.pt]⟩
theorem aq.of_ty {t : PT} (h : cB aq.ty t) : ∃ x : aq, t = x.pt := by
 simp only [aq.ty, cB, dB] at h
 obtain ⟨_, rfl, h⟩ := h
 obtain ⟨u0, _, rfl, h0, h⟩ := h
 obtain ⟨v0, rfl⟩ := h0
 obtain ⟨u1, _, rfl, h1, h⟩ := h
 obtain ⟨v1, rfl⟩ := h1
 obtain ⟨u2, _, rfl, h2, h⟩ := h
 obtain ⟨v2, rfl⟩ := h2
 obtain ⟨u3, _, rfl, h3, h⟩ := h
 obtain ⟨v3, rfl⟩ := ad.of_ty h3
 subst h
 exact ⟨⟨v0, v1, v2, v3⟩, rfl⟩
theorem aq.sane_of {x : aq} (h : x.pt.sane) : x.sane := by
 simp only [aq.pt, PT.sane, PT.saneL] at h
 exact ⟨bR h.1, bR h.2.1, bR h.2.2.1, ad.sane_of h.2.2.2.1⟩
structure ap where
 mark : Int
 code : Int
 pc : Int
 sender : Int
 outer : Int
 home : Int
 self : ad
 slots : List ad
 stack : List ad
 values : List ad
 other : Int
 retry : Bool
def ap.ty : Ty := .agg [.int .i64, .int .i64, .int .i64, .int .i64, .int .i64, .int .i64, ad.ty, .sl 3 ad.ty, .sl 3 ad.ty, .sl 3 ad.ty, .int .i64, .bool]
def ap.sane (x : ap) : Prop := i64 x.mark /\ i64 x.code /\ i64 x.pc /\ i64 x.sender /\ i64 x.outer /\ i64 x.home /\ x.self.sane /\ (∀ y ∈ x.slots, y.sane) /\ (∀ y ∈ x.stack, y.sane) /\ (∀ y ∈ x.values, y.sane) /\ i64 x.other
def ej (t : PT) (x : ap) : Prop := ∃ (A7 : Option Addr) (c7 : Nat) (A8 : Option Addr) (c8 : Nat) (A9 : Option Addr) (c9 : Nat), t = .agg [.int .i64 x.mark, .int .i64 x.code, .int .i64 x.pc, .int .i64 x.sender, .int .i64 x.outer, .int .i64 x.home, x.self.pt, .sl A7 c7 3 ((x.slots).map ad.pt), .sl A8 c8 3 ((x.stack).map ad.pt), .sl A9 c9 3 ((x.values).map ad.pt), .int .i64 x.other, .bool x.retry]
theorem ej.cells {t : PT} {x : ap} (h : ej t x) : t.cells.length = 14 := by
 obtain ⟨A7, c7, A8, c8, A9, c9, rfl⟩ := h
 rfl
theorem ap.of_ty {t : PT} (h : cB ap.ty t) : ∃ x : ap, ej t x := by
 simp only [ap.ty, cB, dB] at h
 obtain ⟨_, rfl, h⟩ := h
 obtain ⟨u0, _, rfl, h0, h⟩ := h
 obtain ⟨v0, rfl⟩ := h0
 obtain ⟨u1, _, rfl, h1, h⟩ := h
 obtain ⟨v1, rfl⟩ := h1
 obtain ⟨u2, _, rfl, h2, h⟩ := h
 obtain ⟨v2, rfl⟩ := h2
 obtain ⟨u3, _, rfl, h3, h⟩ := h
 obtain ⟨v3, rfl⟩ := h3
 obtain ⟨u4, _, rfl, h4, h⟩ := h
 obtain ⟨v4, rfl⟩ := h4
 obtain ⟨u5, _, rfl, h5, h⟩ := h
 obtain ⟨v5, rfl⟩ := h5
 obtain ⟨u6, _, rfl, h6, h⟩ := h
 obtain ⟨v6, rfl⟩ := ad.of_ty h6
 obtain ⟨u7, _, rfl, h7, h⟩ := h
 obtain ⟨A7, c7, l7, rfl, h7⟩ := h7
 obtain ⟨v7, rfl⟩ := gX fun t ht => ad.of_ty (h7 t ht)
 obtain ⟨u8, _, rfl, h8, h⟩ := h
 obtain ⟨A8, c8, l8, rfl, h8⟩ := h8
 obtain ⟨v8, rfl⟩ := gX fun t ht => ad.of_ty (h8 t ht)
 obtain ⟨u9, _, rfl, h9, h⟩ := h
 obtain ⟨A9, c9, l9, rfl, h9⟩ := h9
 obtain ⟨v9, rfl⟩ := gX fun t ht => ad.of_ty (h9 t ht)
 obtain ⟨u10, _, rfl, h10, h⟩ := h
 obtain ⟨v10, rfl⟩ := h10
 obtain ⟨u11, _, rfl, h11, h⟩ := h
 obtain ⟨v11, rfl⟩ := h11
 subst h
 exact ⟨⟨v0, v1, v2, v3, v4, v5, v6, v7, v8, v9, v10, v11⟩, _, _, _, _, _, _, rfl⟩
theorem ap.sane_of {t : PT} {x : ap} (ha : ej t x) (h : t.sane) : x.sane := by
 obtain ⟨A7, c7, A8, c8, A9, c9, rfl⟩ := ha
 simp only [PT.sane, PT.saneL] at h
 exact ⟨bR h.1, bR h.2.1, bR h.2.2.1, bR h.2.2.2.1, bR h.2.2.2.2.1, bR h.2.2.2.2.2.1, ad.sane_of h.2.2.2.2.2.2.1, fun y hy => ad.sane_of (PT.saneL_mem h.2.2.2.2.2.2.2.1 (List.mem_map_of_mem (f := ad.pt) hy)), fun y hy => ad.sane_of (PT.saneL_mem h.2.2.2.2.2.2.2.2.1 (List.mem_map_of_mem (f := ad.pt) hy)), fun y hy => ad.sane_of (PT.saneL_mem h.2.2.2.2.2.2.2.2.2.1 (List.mem_map_of_mem (f := ad.pt) hy)), bR h.2.2.2.2.2.2.2.2.2.2.1⟩
structure au where
 at_ : Int
 main : Bool
def au.ty : Ty := .agg [.int .i64, .bool]
def au.sane (x : au) : Prop := i64 x.at_
def au.pt (x : au) : PT := .agg [.int .i64 x.at_, .bool x.main]
theorem au.flat : su au.pt 2 := ⟨fun _ => rfl, fun _ => rfl, fun _ _ => by simp [au.pt, Own, jo], fun _ _ _ => by simp [au.pt, dM, ch]⟩
theorem au.of_ty {t : PT} (h : cB au.ty t) : ∃ x : au, t = x.pt := by
 simp only [au.ty, cB, dB] at h
 obtain ⟨_, rfl, h⟩ := h
 obtain ⟨u0, _, rfl, h0, h⟩ := h
 obtain ⟨v0, rfl⟩ := h0
 obtain ⟨u1, _, rfl, h1, h⟩ := h
 obtain ⟨v1, rfl⟩ := h1
 subst h
 exact ⟨⟨v0, v1⟩, rfl⟩
theorem au.sane_of {x : au} (h : x.pt.sane) : x.sane := by
 simp only [au.pt, PT.sane, PT.saneL] at h
 exact bR h.1
structure ai where
 base : aw
 store : aJ
 blocks : List aq
 contexts : List ap
 processes : List au
 ready : List Int
 now : Int
 status : Int
 value : ad
 fault : ByteArray
def ai.ty : Ty := .agg [aw.ty, aJ.ty, .sl 6 aq.ty, .sl 14 ap.ty, .sl 2 au.ty, .sl 1 (.int .i64), .int .i64, .int .i64, ad.ty, .str]
def ai.sane (x : ai) : Prop := x.base.sane /\ x.store.sane /\ (∀ y ∈ x.blocks, y.sane) /\ (∀ y ∈ x.contexts, y.sane) /\ (∀ y ∈ x.processes, y.sane) /\ (∀ n ∈ x.ready, i64 n) /\ i64 x.now /\ i64 x.status /\ x.value.sane /\ x.fault.size <= maxLen
def eH (t : PT) (x : ai) : Prop := ∃ (t0 : PT) (t1 : PT) (A2 : Option Addr) (c2 : Nat) (A3 : Option Addr) (c3 : Nat) (l3 : List PT) (A4 : Option Addr) (c4 : Nat) (A5 : Option Addr) (c5 : Nat), dn t0 x.base /\ fL t1 x.store /\ AtL ej l3 (x.contexts) /\ t = .agg [t0, t1, .sl A2 c2 6 ((x.blocks).map aq.pt), .sl A3 c3 14 l3, .sl A4 c4 2 ((x.processes).map au.pt), .sl A5 c5 1 ((x.ready).map (PT.int .i64)), .int .i64 x.now, .int .i64 x.status, x.value.pt, .str x.fault]
theorem eH.cells {t : PT} {x : ai} (h : eH t x) : t.cells.length = 20 := by
 obtain ⟨t0, t1, A2, c2, A3, c3, l3, A4, c4, A5, c5, h0, h1, h2, rfl⟩ := h
 have e0 := dn.cells h0
 have e1 := fL.cells h1
 simp [PT.cells, PT.cellsL, List.length_append, List.length_cons, List.length_nil, ad.pt, e0, e1]
theorem ai.of_ty {t : PT} (h : cB ai.ty t) : ∃ x : ai, eH t x := by
 simp only [ai.ty, cB, dB] at h
 obtain ⟨_, rfl, h⟩ := h
 obtain ⟨u0, _, rfl, h0, h⟩ := h
 obtain ⟨v0, k0⟩ := aw.of_ty h0
 obtain ⟨u1, _, rfl, h1, h⟩ := h
 obtain ⟨v1, k1⟩ := aJ.of_ty h1
 obtain ⟨u2, _, rfl, h2, h⟩ := h
 obtain ⟨A2, c2, l2, rfl, h2⟩ := h2
 obtain ⟨v2, rfl⟩ := gX fun t ht => aq.of_ty (h2 t ht)
 obtain ⟨u3, _, rfl, h3, h⟩ := h
 obtain ⟨A3, c3, l3, rfl, h3⟩ := h3
 obtain ⟨v3, k3⟩ := tJ fun t ht => ap.of_ty (h3 t ht)
 obtain ⟨u4, _, rfl, h4, h⟩ := h
 obtain ⟨A4, c4, l4, rfl, h4⟩ := h4
 obtain ⟨v4, rfl⟩ := gX fun t ht => au.of_ty (h4 t ht)
 obtain ⟨u5, _, rfl, h5, h⟩ := h
 obtain ⟨A5, c5, l5, rfl, h5⟩ := h5
 obtain ⟨v5, rfl⟩ := gX fun t ht => h5 t ht
 obtain ⟨u6, _, rfl, h6, h⟩ := h
 obtain ⟨v6, rfl⟩ := h6
 obtain ⟨u7, _, rfl, h7, h⟩ := h
 obtain ⟨v7, rfl⟩ := h7
 obtain ⟨u8, _, rfl, h8, h⟩ := h
 obtain ⟨v8, rfl⟩ := ad.of_ty h8
 obtain ⟨u9, _, rfl, h9, h⟩ := h
 obtain ⟨v9, rfl⟩ := h9
 subst h
 exact ⟨⟨v0, v1, v2, v3, v4, v5, v6, v7, v8, v9⟩, _, _, _, _, _, _, _, _, _, _, _, k0, k1, k3, rfl⟩
theorem ai.sane_of {t : PT} {x : ai} (ha : eH t x) (h : t.sane) : x.sane := by
 obtain ⟨t0, t1, A2, c2, A3, c3, l3, A4, c4, A5, c5, h0, h1, h2, rfl⟩ := ha
 simp only [PT.sane, PT.saneL] at h
 exact ⟨aw.sane_of h0 h.1, aJ.sane_of h1 h.2.1, fun y hy => aq.sane_of (PT.saneL_mem h.2.2.1 (List.mem_map_of_mem (f := aq.pt) hy)), iQ h2 h.2.2.2.1 fun _ _ a b => ap.sane_of a b, fun y hy => au.sane_of (PT.saneL_mem h.2.2.2.2.1 (List.mem_map_of_mem (f := au.pt) hy)), fun n hn => bR (PT.saneL_mem h.2.2.2.2.2.1 (List.mem_map_of_mem (f := PT.int .i64) hn)), bR h.2.2.2.2.2.2.1, bR h.2.2.2.2.2.2.2.1, ad.sane_of h.2.2.2.2.2.2.2.2.1, h.2.2.2.2.2.2.2.2.2.1⟩
structure eJ where
 code : Int
 at_ : Int
 kind : Int
def eJ.ty : Ty := .agg [.int .i64, .int .i64, .int .i64]
def eJ.sane (x : eJ) : Prop := i64 x.code /\ i64 x.at_ /\ i64 x.kind
def eJ.pt (x : eJ) : PT := .agg [.int .i64 x.code, .int .i64 x.at_, .int .i64 x.kind]
theorem eJ.flat : su eJ.pt 3 := ⟨fun _ => rfl, fun _ => rfl, fun _ _ => by simp [eJ.pt, Own, jo], fun _ _ _ => by simp [eJ.pt, dM, ch]⟩
theorem eJ.of_ty {t : PT} (h : cB eJ.ty t) : ∃ x : eJ, t = x.pt := by
 simp only [eJ.ty, cB, dB] at h
 obtain ⟨_, rfl, h⟩ := h
 obtain ⟨u0, _, rfl, h0, h⟩ := h
 obtain ⟨v0, rfl⟩ := h0
 obtain ⟨u1, _, rfl, h1, h⟩ := h
 obtain ⟨v1, rfl⟩ := h1
 obtain ⟨u2, _, rfl, h2, h⟩ := h
 obtain ⟨v2, rfl⟩ := h2
 subst h
 exact ⟨⟨v0, v1, v2⟩, rfl⟩
theorem eJ.sane_of {x : eJ} (h : x.pt.sane) : x.sane := by
 simp only [eJ.pt, PT.sane, PT.saneL] at h
 exact ⟨bR h.1, bR h.2.1, bR h.2.2.1⟩
end Go.Proofs.YtofnnnpahglfdaaGreatDoor
