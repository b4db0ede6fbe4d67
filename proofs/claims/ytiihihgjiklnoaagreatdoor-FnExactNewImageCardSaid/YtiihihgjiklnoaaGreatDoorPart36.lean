/- Part 36 of the proof: the texts IvI, IvJ, IvU, RsD, ShA, ShB, ShC. -/
import Derived.Test.YtiihihgjiklnoaaGreatDoorPart17
import Derived.Test.YtiihihgjiklnoaaGreatDoorPart34
import Derived.Test.YtiihihgjiklnoaaGreatDoorPart15
import Derived.Test.YtiihihgjiklnoaaGreatDoorPart35
import Derived.Test.YtiihihgjiklnoaaGreatDoorPart28
import Derived.Test.YtiihihgjiklnoaaGreatDoorPart24
/- IsVerified: the entries, on the side of the reference (l16Entries). -/
namespace Go.Proofs.YtiihihgjiklnoaaGreatDoor
set_option maxRecDepth 20000
open Go Go.RowKit
section
variable {G : World → Prop}
set_option maxRecDepth 4000 in
set_option maxHeartbeats 4000000 in
theorem l16Entries_ct (hst : Stable G) (hse : ∀ s : ByteArray, s.size ≤ 1048576 → Ct Tryz.prog G 203 [.str s] (fun _ => .bool (isSelL s.data.toList))) (hca : ∀ s : ByteArray, s.size ≤ 1048576 → Ct Tryz.prog G 204 [.str s] (fun _ => .int .i64 (nArgsL s.data.toList)))
    (f lo : Nat) (cl : List TClassInfo) (cs : List TCode) (es : List TEntry) (mn : Int) (hcl : cl.length ≤ 1048576) (hcs : cs.length ≤ 1048576) (hes : es.length ≤ 1048576 ∧ ∀ y ∈ es, TEntry.small 1048576 y) :
    Ct Tryz.prog G 126 [.cp f [.sl lo 3 (cl.map (TClassInfo.tw lo)), .sl lo 4 (cs.map (TCode.tw lo)), .sl lo 4 (es.map (TEntry.tw lo)), .int .i64 mn]] (fun _ => .bool (entriesB cl.length cs es)) := by
  refine ct_enter Tryz.func126 rfl Tryz.ntmps126 rfl rfl fun w0 _ hG => ?_
  have hl1 := TClassInfo.len lo cl
  have hl2 := TCode.len lo cs
  have hl3 := TEntry.len lo es
  have hel := hes.1
  repeat' (first | refine W_ ?_ | refine c_ (fun hc => ?_) (fun hc => ?_) | refine g_ (fun hg => ?_) (fun hg => ?_))
  apply aw_loopk (X := Nat) [0] (fun i => [(3, .int .i64 (i : Int))]) (fun _ => []) (fun i => i ≤ es.length ∧ ∀ j, j < i → ∀ h : j < es.length, entryOk cl.length cs es[j] ∧ newEntry es j es[j]) (fun i => es.length - i) 0 ⟨Nat.zero_le _, by omega⟩
  exact kp_; exact nw_
  · exact .nil _
  rintro i ⟨hi, hk⟩
  try dsimp only
  by_cases hlt : i < es.length
  · have hra := tentry_row (lo := lo) hlt
    have hsm := hes.2 _ (List.getElem_mem hlt)
    have hbad : ¬ (entryOk cl.length cs es[i] ∧ newEntry es i es[i]) → entriesB cl.length cs es = false := entriesB_bad hlt
    have hks : entryOk cl.length cs es[i] ∧ newEntry es i es[i] → ∀ j, j < i + 1 → ∀ h : j < es.length, entryOk cl.length cs es[j] ∧ newEntry es j es[j] := fun ho => below_succ hk fun _ => ho
    generalize es[i] = e at hra hsm hbad hks
    obtain ⟨ow, ec, sel, cd⟩ := e
    dsimp only at hra
    have hss : sel.size ≤ 1048576 := hsm
    have c1 := hse sel hss
    have c2 := hca sel hss
    have c3 := l1In_ct (G := G) ow 16 ((cl.length : Int) - 1)
    have c4 := l1In_ct (G := G) cd 0 ((cs.length : Int) - 1)
    by_cases h1 : isSelL sel.data.toList = true
    case neg =>
      rw [hbad fun h => h1 h.1.1.1]
      rw [Bool.eq_false_iff.2 h1] at c1
      repeat' (first | refine V_ ?_ | (refine e_alloc ?_; intro ss bb) | refine e_storep ?_ | refine e_calld hG hst (c1) ?_ | refine c_ (fun hc => ?_) (fun hc => ?_) | refine g_ (fun hg => ?_) (fun hg => ?_))
      exact r1_
    by_cases h2 : inR ow 16 ((cl.length : Int) - 1) = true
    case neg =>
      rw [hbad fun h => h2 h.1.1.2.1]
      rw [h1] at c1
      rw [Bool.eq_false_iff.2 h2] at c3
      repeat' (first | refine V_ ?_ | (refine e_alloc ?_; intro ss bb) | refine e_storep ?_ | refine e_calld hG hst (c1) ?_ | refine e_calld hG hst (c3) ?_ | refine c_ (fun hc => ?_) (fun hc => ?_) | refine g_ (fun hg => ?_) (fun hg => ?_))
      exact r1_
    by_cases h3 : inR cd 0 ((cs.length : Int) - 1) = true
    case neg =>
      rw [hbad fun h => h3 h.1.1.2.2]
      rw [h1] at c1
      rw [h2] at c3
      rw [Bool.eq_false_iff.2 h3] at c4
      repeat' (first | refine V_ ?_ | (refine e_alloc ?_; intro ss bb) | refine e_storep ?_ | refine e_calld hG hst (c1) ?_ | refine e_calld hG hst (c3) ?_ | refine e_calld hG hst (c4) ?_ | refine c_ (fun hc => ?_) (fun hc => ?_) | refine g_ (fun hg => ?_) (fun hg => ?_))
      exact r1_
    have h3' := of_decide_eq_true h3
    obtain ⟨q, rfl⟩ : ∃ q : Nat, cd = q := ⟨cd.toNat, by omega⟩
    have hql : q < cs.length := by omega
    have hrq := tcode_row (lo := lo) hql
    have hpl := plainAt_iff (n := nArgsL sel.data.toList) rfl (List.getElem?_eq_getElem hql)
    generalize cs[q] = y at hrq hpl
    obtain ⟨yb, yp, ys, yi⟩ := y
    dsimp only at hrq hpl
    rw [h1] at c1
    rw [h2] at c3
    rw [h3, show (cs.length : Int) - 1 = ((cs.length - 1 : Nat) : Int) by omega] at c4
    cases yb
    case true =>
      rw [hbad fun h => by have := hpl.1 h.1.2; cases this.1]
      repeat' (first | refine V_ ?_ | (refine e_alloc ?_; intro ss bb) | refine e_storep ?_ | refine e_calld hG hst (c1) ?_ | refine e_calld hG hst (c3) ?_ | refine e_calld hG hst (c4) ?_ | refine c_ (fun hc => ?_) (fun hc => ?_) | refine g_ (fun hg => ?_) (fun hg => ?_))
      exact r1_
    by_cases h5 : yp = nArgsL sel.data.toList
    case neg =>
      rw [hbad fun h => by have := hpl.1 h.1.2; exact h5 this.2]
      repeat' (first | refine V_ ?_ | (refine e_alloc ?_; intro ss bb) | refine e_storep ?_ | refine e_calld hG hst (c1) ?_ | refine e_calld hG hst (c3) ?_ | refine e_calld hG hst (c4) ?_ | refine e_calld hG hst (c2) ?_ | refine c_ (fun hc => ?_) (fun hc => ?_) | refine g_ (fun hg => ?_) (fun hg => ?_))
      exact r1_
    have h5' : ¬ yp ≠ nArgsL sel.data.toList := fun h => h h5
    repeat' (first | refine V_ ?_ | (refine e_alloc ?_; intro ss bb) | refine e_storep ?_ | refine e_calld hG hst (c1) ?_ | refine e_calld hG hst (c3) ?_ | refine e_calld hG hst (c4) ?_ | refine e_calld hG hst (c2) ?_ | refine c_ (fun hc => ?_) (fun hc => ?_) | refine g_ (fun hg => ?_) (fun hg => ?_))
    apply aw_loopk (X := Nat) [0, 3, 4] (fun k => [(5, .int .i64 (k : Int))]) (fun _ => [(ss, bb, .box [.int .i64 ow, .bool ec, .str sel, .int .i64 (q : Int)])]) (fun k => k ≤ i ∧ ∀ y ∈ es.take k, ¬ sameEntry ⟨ow, ec, sel, q⟩ y) (fun k => i - k) 0 ⟨Nat.zero_le _, by simp⟩
    exact kp_; exact nw_
    · exact .refl _
    rintro k ⟨hki, hkn⟩
    try dsimp only
    by_cases hlk : k < i
    · have hlk2 : k < es.length := by omega
      have hrk := tentry_row (lo := lo) hlk2
      have hta := take_all (p := fun y => ¬ sameEntry ⟨ow, ec, sel, q⟩ y) hlk2 hkn
      have hmem : es[k] ∈ es.take i := List.mem_take_iff_getElem.2 ⟨k, by omega, rfl⟩
      generalize es[k] = z at hrk hta hmem
      obtain ⟨zo, zc, zs, zd⟩ := z
      dsimp only at hrk
      by_cases hz : sameEntry ⟨ow, ec, sel, q⟩ ⟨zo, zc, zs, zd⟩
      · rw [hbad fun h => h.2 _ hmem hz]
        obtain ⟨z1, z2, z3⟩ := hz
        dsimp only at z1 z2 z3
        have z4 : (zc == ec) = true := by rw [z2]; simp
        repeat' (first | refine V_ ?_ | refine c_ (fun hc => ?_) (fun hc => ?_) | refine g_ (fun hg => ?_) (fun hg => ?_))
        all_goals first
          | (exfalso; simp_all; done)
          | (exact r1_)
      · have hnx := hta hz
        unfold sameEntry at hz
        dsimp only at hz
        repeat' (first | refine V_ ?_ | refine c_ (fun hc => ?_) (fun hc => ?_) | refine g_ (fun hg => ?_) (fun hg => ?_))
        all_goals first
          | exact aq_round (k + 1) ⟨by omega, hnx⟩ (by omega) (.of _ nw_ od_ pk_)
          | (exfalso; simp_all; done)
    · obtain rfl : k = i := by omega
      repeat' (first | refine W_ ?_ | refine c_ (fun hc => ?_) (fun hc => ?_) | refine g_ (fun hg => ?_) (fun hg => ?_))
      exact aq_round (k + 1) ⟨by omega, hks ⟨⟨⟨h1, h2, h3⟩, hpl.2 ⟨rfl, h5⟩⟩, hkn⟩⟩ (by omega) (.of _ nw_ od_ (Pick.nil _))
  · rw [entriesB_good fun j hj => hk j (by omega)]
    repeat' (first | refine W_ ?_ | refine c_ (fun hc => ?_) (fun hc => ?_) | refine g_ (fun hg => ?_) (fun hg => ?_))
    exact r1_
end
end Go.Proofs.YtiihihgjiklnoaaGreatDoor
/- IsVerified: the codes around each code, on the side of the reference (l16Outer). -/
namespace Go.Proofs.YtiihihgjiklnoaaGreatDoor
set_option maxRecDepth 20000
open Go Go.RowKit
/-- What both sides give back of the outer codes. -/
noncomputable def outR (cs : List TCode) (K : Nat) : TV := .tup [.sl K 1 (intR ((outersL cs).getD [])), .bool (outersL cs).isSome]
theorem fin_none {B L : Nat} {objs : Objs} {r : Option (List Int)} (h : r = none) : Fin B objs L .nils (.sl L 1 (intR (r.getD []))) := by subst h; exact .nils 1
theorem fin_none_b {B L : Nat} {objs : Objs} {r : Option (List Int)} (h : r = none) : Fin B objs L (.bool false) (.bool r.isSome) := by subst h; exact .bool false
theorem fin_some {B L s b n : Nat} {objs : Objs} {r : Option (List Int)} {o : List Int} (h : r = some o) (hn : o.length = n) (hm : (s, b, TObj.row 1 (intR o)) ∈ objs) : Fin B objs L (.ms s b 0 n) (.sl L 1 (intR (r.getD []))) := by
  subst h; subst hn
  have hl := intR_length o
  exact Fin.msFlat hm (by omega) (by rw [List.drop_zero, List.take_of_length_le (by omega)]; rfl) (intR_flat o)
theorem fin_some_b {B L : Nat} {objs : Objs} {r : Option (List Int)} {o : List Int} (h : r = some o) : Fin B objs L (.bool true) (.bool r.isSome) := by subst h; exact .bool true
section
variable {G : World → Prop}
set_option maxRecDepth 4000 in
set_option maxHeartbeats 4000000 in
theorem l16Outer_ct (hst : Stable G) (f lo : Nat) (ccl cen : TV) (cs : List TCode) (mn : Int) (hcs : cs.length ≤ 1048576 ∧ ∀ y ∈ cs, TCode.small 1048576 y) :
    Ct Tryz.prog G 127 [.cp f [ccl, .sl lo 4 (cs.map (TCode.tw lo)), cen, .int .i64 mn]] (outR cs) := by
  refine ct_enter Tryz.func127 rfl Tryz.ntmps127 rfl rfl fun w0 _ hG => ?_
  have hl2 := TCode.len lo cs
  have hcl := hcs.1
  have h0 : (List.replicate cs.length [TV.int .i64 0]) = intR (fillD cs.length 0) := by simp [fillD, intR]
  repeat' (first | refine W_ ?_ | (refine e_make ?_; intro ss bb) | refine c_ (fun hc => ?_) (fun hc => ?_) | refine g_ (fun hg => ?_) (fun hg => ?_))
  generalize ss = sd; generalize bb = bd
  apply aw_loopk (X := Nat) [0, 4] (fun i => [(5, .int .i64 (i : Int))]) (fun i => [(sd, bd, .row 1 (intR (fillD cs.length i)))]) (fun i => i ≤ cs.length) (fun i => cs.length - i) 0 (Nat.zero_le _)
  exact kp_; exact nw_
  · rw [← h0]; exact .refl _
  intro i hi
  try dsimp only at hi ⊢
  by_cases hlt : i < cs.length
  · obtain ⟨hrow, hset⟩ := fillD_step hlt
    repeat' (first | refine W_ ?_ | refine e_store ?_ | refine c_ (fun hc => ?_) (fun hc => ?_) | refine g_ (fun hg => ?_) (fun hg => ?_))
    rw [hset]
    refine aq_round (i + 1) (by omega) (by omega) (.of _ nw_ od_ (.refl _))
  · obtain rfl : i = cs.length := by omega
    clear hlt hi
    have hfull : fillD cs.length cs.length = List.replicate cs.length (-1) := by simp [fillD]
    rw [hfull]
    have hst0 : outFrom cs 0 (List.replicate cs.length (-1)) = outersL cs := rfl
    have hin0 := outInv_zero cs.length
    unfold outR
    generalize outersL cs = R at hst0
    generalize List.replicate cs.length (-1 : Int) = o0 at hst0 hin0
    repeat' (first | refine W_ ?_ | refine c_ (fun hc => ?_) (fun hc => ?_) | refine g_ (fun hg => ?_) (fun hg => ?_))
    apply aw_loopk (X := Nat × List Int) [0, 4] (fun x => [(6, .int .i64 (x.1 : Int))]) (fun x => [(sd, bd, .row 1 (intR x.2))]) (fun x => x.1 ≤ cs.length ∧ outInv cs.length x.2 ∧ outFrom cs x.1 x.2 = R) (fun x => cs.length - x.1) (0, o0) ⟨Nat.zero_le _, hin0, hst0⟩
    exact kp_; exact nw_
    · exact .refl _
    clear hin0 hst0
    rintro ⟨i, o⟩ ⟨hi, hin, hR⟩
    dsimp only at hi hin hR ⊢
    have hol : (intR o).length = cs.length := by rw [intR_length]; exact hin.1
    by_cases hlt : i < cs.length
    · have hra := tcode_row (lo := lo) hlt
      have hsm := hcs.2 _ (List.getElem_mem hlt)
      rw [outFrom_step hlt] at hR
      generalize cs[i] = c at hra hsm hR
      obtain ⟨cb, cp, csl, is⟩ := c
      dsimp only at hra hR
      have hil := TInstr.len lo is
      have hisl : is.length ≤ 1048576 := hsm.1
      repeat' (first | refine W_ ?_ | refine c_ (fun hc => ?_) (fun hc => ?_) | refine g_ (fun hg => ?_) (fun hg => ?_))
      apply aw_loopk (X := Nat × List Int) [0, 4, 6] (fun x => [(7, .int .i64 (x.1 : Int))]) (fun x => [(sd, bd, .row 1 (intR x.2))]) (fun x => x.1 ≤ is.length ∧ outInv cs.length x.2 ∧ outRest cs i (is.drop x.1) x.2 = R) (fun x => is.length - x.1) (0, o) ⟨Nat.zero_le _, hin, hR⟩
      exact kp_; exact nw_
      · exact .refl _
      clear hin hR hol
      rintro ⟨k, o⟩ ⟨hk, hin, hR⟩
      dsimp only at hk hin hR ⊢
      have hol : (intR o).length = cs.length := by rw [intR_length]; exact hin.1
      by_cases hlk : k < is.length
      · have hrk := tinstr_row (lo := lo) hlk
        rw [outRest_step hlk] at hR
        generalize is[k] = x at hrk hR
        obtain ⟨op, a, b, t⟩ := x
        unfold outI at hR
        dsimp only at hrk hR
        by_cases h15 : op = 15
        · rw [if_pos h15] at hR
          have h15' : ¬ op ≠ 15 := fun h => h h15
          by_cases hin2 : 0 ≤ a ∧ a ≤ (i : Int) - 1
          · have cin := l1In_ct (G := G) a 0 ((i - 1 : Nat) : Int)
            rw [inR_t (by omega)] at cin
            obtain ⟨q, rfl⟩ : ∃ q : Nat, a = q := ⟨a.toNat, by omega⟩
            have hql : q < o.length := by rw [hin.1]; omega
            have hrq := intR_gd hql
            have hqc : q < cs.length := by omega
            by_cases hg : 0 ≤ gd o (q : Int)
            · rw [if_neg fun h => h.2 hg] at hR
              repeat' (first | refine W_ ?_ | (refine e_alloc ?_; intro ss bb) | refine e_storep ?_ | refine e_call hG hst (cin) ?_ | refine c_ (fun hc => ?_) (fun hc => ?_) | refine g_ (fun hg => ?_) (fun hg => ?_))
              refine aq_ret2 x_ rfl (.tmp _ _ rfl) (.tmp _ _ rfl) (fun _ => ?_) (fun _ => ?_)
              · exact fin_none hR.symm
              · exact fin_none_b hR.symm
            · rw [if_pos ⟨hin2, hg⟩, Int.toNat_natCast] at hR
              dsimp only at hR
              have hset := intR_set o q (i : Int)
              have hin3 := (outI_inv (n := cs.length) (i := i) (x := ⟨15, q, b, t⟩) (o := o) (o' := o.set q (i : Int)) hlt (by unfold outI; rw [if_pos rfl, if_pos ⟨hin2, hg⟩, Int.toNat_natCast]) hin).1
              repeat' (first | refine W_ ?_ | (refine e_alloc ?_; intro ss bb) | refine e_storep ?_ | refine e_call hG hst (cin) ?_ | refine e_store ?_ | refine c_ (fun hc => ?_) (fun hc => ?_) | refine g_ (fun hg => ?_) (fun hg => ?_))
              rw [hset]
              refine aq_round (k + 1, o.set q (i : Int)) ⟨by dsimp only; omega, hin3, hR⟩ (by dsimp only; omega) (.of _ nw_ od_ pk_)
          · have cin := l1In_ct (G := G) a 0 ((i : Int) - 1)
            have cin' := l1In_ct (G := G) a 0 ((i - 1 : Nat) : Int)
            rw [inR_f hin2] at cin
            rw [if_neg fun h => hin2 h.1] at hR
            repeat' (first | refine W_ ?_ | (refine e_alloc ?_; intro ss bb) | refine e_storep ?_ | refine e_call hG hst (cin) ?_ | refine c_ (fun hc => ?_) (fun hc => ?_) | refine g_ (fun hg => ?_) (fun hg => ?_))
            refine aq_ret2 x_ rfl (.tmp _ _ rfl) (.tmp _ _ rfl) (fun _ => ?_) (fun _ => ?_)
            · exact fin_none hR.symm
            · exact fin_none_b hR.symm
        · rw [if_neg h15] at hR
          dsimp only at hR
          repeat' (first | refine W_ ?_ | (refine e_alloc ?_; intro ss bb) | refine e_storep ?_ | refine c_ (fun hc => ?_) (fun hc => ?_) | refine g_ (fun hg => ?_) (fun hg => ?_))
          refine aq_round (k + 1, o) ⟨by dsimp only; omega, hin, hR⟩ (by dsimp only; omega) (.of _ nw_ od_ pk_)
      · rw [outRest_end hlk] at hR
        repeat' (first | refine W_ ?_ | refine c_ (fun hc => ?_) (fun hc => ?_) | refine g_ (fun hg => ?_) (fun hg => ?_))
        refine aq_round (i + 1, o) ⟨by dsimp only; omega, hin, hR⟩ (by dsimp only; omega) (.of _ nw_ od_ pk_)
    · rw [outFrom_end hlt] at hR
      repeat' (first | refine W_ ?_ | refine c_ (fun hc => ?_) (fun hc => ?_) | refine g_ (fun hg => ?_) (fun hg => ?_))
      apply aw_loopk (X := Nat) [0, 4] (fun j => [(9, .int .i64 (j : Int))]) (fun _ => [(sd, bd, .row 1 (intR o))]) (fun j => j ≤ cs.length ∧ ∀ q, q < j → ∀ h : q < cs.length, cs[q].block = decide (0 ≤ gd o (q : Int))) (fun j => cs.length - j) 0 ⟨Nat.zero_le _, by omega⟩
      exact kp_; exact nw_
      · exact .refl _
      rintro j ⟨hj, hja⟩
      try dsimp only
      by_cases hlj : j < cs.length
      · have hra := tcode_row (lo := lo) hlj
        have hrj := intR_gd (o := o) (j := j) (by rw [hin.1]; exact hlj)
        have hbad := outFin_bad (o := o) hlj
        have hnx : cs[j].block = decide (0 ≤ gd o (j : Int)) → ∀ q, q < j + 1 → ∀ h : q < cs.length, cs[q].block = decide (0 ≤ gd o (q : Int)) := fun ho => below_succ hja fun _ => ho
        generalize cs[j] = c at hra hbad hnx
        obtain ⟨cb, cp, csl, is⟩ := c
        dsimp only at hra hbad hnx
        generalize gd o (j : Int) = v at hrj hbad hnx
        by_cases hb : cb = decide (0 ≤ v)
        · repeat' (first | refine V_ ?_ | refine c_ (fun hc => ?_) (fun hc => ?_) | refine g_ (fun hg => ?_) (fun hg => ?_))
          all_goals first
            | exact aq_round (j + 1) ⟨by omega, hnx hb⟩ (by omega) (.of _ nw_ od_ pk_)
            | (exfalso; simp_all; done)
        · rw [hbad hb] at hR
          repeat' (first | refine V_ ?_ | refine c_ (fun hc => ?_) (fun hc => ?_) | refine g_ (fun hg => ?_) (fun hg => ?_))
          all_goals first
            | (exfalso; simp_all; done)
            | (refine aq_ret2 x_ rfl (.tmp _ _ rfl) (.tmp _ _ rfl) (fun _ => ?_) (fun _ => ?_)
               · exact fin_none hR.symm
               · exact fin_none_b hR.symm)
      · rw [outFin_good fun q hq => hja q (by omega)] at hR
        repeat' (first | refine W_ ?_ | refine c_ (fun hc => ?_) (fun hc => ?_) | refine g_ (fun hg => ?_) (fun hg => ?_))
        refine aq_ret2 x_ rfl (.tmp _ _ rfl) (.tmp _ _ rfl) (fun _ => ?_) (fun _ => ?_)
        · exact fin_some hR.symm hin.1 List.mem_cons_self
        · exact fin_some_b hR.symm
end
end Go.Proofs.YtiihihgjiklnoaaGreatDoor
/- IsVerified of the reference (l16Verified, IsVerified). -/
namespace Go.Proofs.YtiihihgjiklnoaaGreatDoor
set_option maxRecDepth 20000
open Go Go.RowKit
set_option maxRecDepth 8000 in
set_option maxHeartbeats 8000000 in
theorem l16Verified_ct (f lo : Nat) (cl : List TClassInfo) (es : List TEntry) (cs : List TCode) (mn : Int) (hcl : cl.length ≤ 1048576 ∧ ∀ y ∈ cl, TClassInfo.small 1048576 y) (hcs : cs.length ≤ 1048576 ∧ ∀ y ∈ cs, TCode.small 1048576 y) (hes : es.length ≤ 1048576 ∧ ∀ y ∈ es, TEntry.small 1048576 y) :
    Ct Tryz.prog GL 48 [.cp f [.sl lo 3 (cl.map (TClassInfo.tw lo)), .sl lo 4 (cs.map (TCode.tw lo)), .sl lo 4 (es.map (TEntry.tw lo)), .int .i64 mn]] (fun _ => .bool (verifiedB ⟨cl, cs, es, mn⟩)) := by
  refine ct_enter Tryz.func48 rfl Tryz.ntmps48 rfl rfl fun w0 _ hG => ?_
  have hst := GL_st
  have hvF := verified_f (x := ⟨cl, cs, es, mn⟩)
  have hvT := verified_t (x := ⟨cl, cs, es, mn⟩)
  unfold verifiedP mainOk outerOk at hvF hvT
  dsimp only at hvF hvT
  generalize verifiedB ⟨cl, cs, es, mn⟩ = V at hvF hvT ⊢
  have hl1 := TClassInfo.len lo cl
  have hl2 := TCode.len lo cs
  have hl3 := TEntry.len lo es
  have hcsl := hcs.1
  have c1 := l8IsClasses_ct hst lo cl hcl
  have c3 := l1In_ct (G := GL) mn 0 ((cs.length : Int) - 1)
  have c5 := l16Entries_ct hst hseS hcaS f lo cl cs es mn hcl.1 hcs.1 hes
  have c6 := l16Outer_ct hst f lo (.sl lo 3 (cl.map (TClassInfo.tw lo))) (.sl lo 4 (es.map (TEntry.tw lo))) cs mn hcs
  by_cases h1 : classesOkB cl = true
  case neg =>
    rw [hvF fun h => h1 h.1]
    rw [Bool.eq_false_iff.2 h1] at c1
    repeat' (first | refine V_ ?_ | refine e_calld hG hst (c1) ?_ | refine c_ (fun hc => ?_) (fun hc => ?_) | refine g_ (fun hg => ?_) (fun hg => ?_))
    exact r1_
  rw [h1] at c1
  by_cases h2 : cs.length ≤ 200
  case neg =>
    rw [hvF fun h => h2 h.2.1]
    repeat' (first | refine V_ ?_ | refine e_calld hG hst (c1) ?_ | refine c_ (fun hc => ?_) (fun hc => ?_) | refine g_ (fun hg => ?_) (fun hg => ?_))
    exact r1_
  by_cases h3 : inR mn 0 ((cs.length : Int) - 1) = true
  case neg =>
    rw [hvF fun h => h3 h.2.2.1.1]
    rw [Bool.eq_false_iff.2 h3] at c3
    repeat' (first | refine V_ ?_ | refine e_calld hG hst (c1) ?_ | refine e_calld hG hst (c3) ?_ | refine c_ (fun hc => ?_) (fun hc => ?_) | refine g_ (fun hg => ?_) (fun hg => ?_))
    exact r1_
  have h3' := of_decide_eq_true h3
  obtain ⟨q, rfl⟩ : ∃ q : Nat, mn = q := ⟨mn.toNat, by omega⟩
  have hql : q < cs.length := by omega
  have hrq := tcode_row (lo := lo) hql
  have hpl := plainAt_iff (n := 0) rfl (List.getElem?_eq_getElem hql)
  generalize cs[q] = y at hrq hpl
  obtain ⟨yb, yp, ys, yi⟩ := y
  dsimp only at hrq hpl
  rw [h3, show (cs.length : Int) - 1 = ((cs.length - 1 : Nat) : Int) by omega] at c3
  cases yb
  case true =>
    rw [hvF fun h => by have := hpl.1 h.2.2.1.2; cases this.1]
    repeat' (first | refine V_ ?_ | refine e_calld hG hst (c1) ?_ | refine e_calld hG hst (c3) ?_ | refine c_ (fun hc => ?_) (fun hc => ?_) | refine g_ (fun hg => ?_) (fun hg => ?_))
    exact r1_
  by_cases h4 : yp = 0
  case neg =>
    rw [hvF fun h => by have := hpl.1 h.2.2.1.2; exact h4 this.2]
    repeat' (first | refine V_ ?_ | refine e_calld hG hst (c1) ?_ | refine e_calld hG hst (c3) ?_ | refine c_ (fun hc => ?_) (fun hc => ?_) | refine g_ (fun hg => ?_) (fun hg => ?_))
    exact r1_
  have h4' : ¬ yp ≠ 0 := fun h => h h4
  by_cases h5 : entriesB cl.length cs es = true
  case neg =>
    rw [hvF fun h => h5 h.2.2.2.1]
    rw [Bool.eq_false_iff.2 h5] at c5
    repeat' (first | refine V_ ?_ | refine e_calld hG hst (c1) ?_ | refine e_calld hG hst (c3) ?_ | refine e_calld hG hst (c5) ?_ | refine c_ (fun hc => ?_) (fun hc => ?_) | refine g_ (fun hg => ?_) (fun hg => ?_))
    exact r1_
  rw [h5] at c5
  have hhead := hpl.2 ⟨rfl, h4⟩
  unfold outR at c6
  cases hR : outersL cs
  case none =>
    rw [hR] at c6
    have hf : V = false := hvF fun h => by
      obtain ⟨o, ho, _⟩ := h.2.2.2.2
      rw [hR] at ho; cases ho
    rw [hf]
    clear hvF hvT
    replace c6 : Ct Tryz.prog GL 127 [.cp f [.sl lo 3 (cl.map (TClassInfo.tw lo)), .sl lo 4 (cs.map (TCode.tw lo)), .sl lo 4 (es.map (TEntry.tw lo)), .int .i64 (q : Int)]] (fun K => .tup [.sl K 1 [], .bool false]) := c6
    repeat' (first | refine V_ ?_ | refine e_calld hG hst (c1) ?_ | refine e_calld hG hst (c3) ?_ | refine e_calld hG hst (c5) ?_ | refine e_call hG hst (c6) ?_ | refine c_ (fun hc => ?_) (fun hc => ?_) | refine g_ (fun hg => ?_) (fun hg => ?_))
    apply aw_loopk (X := Nat) [0, 3, 4] (fun i => [(5, .int .i64 (i : Int))]) (fun _ => []) (fun i => i = 0) (fun i => 1 - i) 0 rfl
    exact kp_; exact nw_
    · exact .refl _
    rintro i rfl
    try dsimp only
    have hpos : ((0 : Nat) : Int) < (cs.length : Int) := by omega
    repeat' (first | refine W_ ?_ | refine c_ (fun hc => ?_) (fun hc => ?_) | refine g_ (fun hg => ?_) (fun hg => ?_))
    exact r1_
  case some o =>
    rw [hR] at c6
    replace c6 : Ct Tryz.prog GL 127 [.cp f [.sl lo 3 (cl.map (TClassInfo.tw lo)), .sl lo 4 (cs.map (TCode.tw lo)), .sl lo 4 (es.map (TEntry.tw lo)), .int .i64 (q : Int)]] (fun K => .tup [.sl K 1 (intR o), .bool true]) := c6
    obtain ⟨hinv, hfit⟩ := outersL_inv hR
    have hblk := fun i c hc => outersL_block hR (i := i) (c := c) hc
    have hvF2 : ¬ codesOk cs cl.length o → V = false := fun h => hvF fun k => by
      obtain ⟨o', ho', hc'⟩ := k.2.2.2.2
      rw [hR] at ho'; cases ho'
      exact h hc'
    have hvT2 : codesOk cs cl.length o → V = true := fun h => hvT ⟨h1, h2, ⟨h3, hhead⟩, h5, o, hR, h⟩
    clear hvF hvT hR
    repeat' (first | refine V_ ?_ | refine e_calld hG hst (c1) ?_ | refine e_calld hG hst (c3) ?_ | refine e_calld hG hst (c5) ?_ | refine e_call hG hst (c6) ?_ | refine c_ (fun hc => ?_) (fun hc => ?_) | refine g_ (fun hg => ?_) (fun hg => ?_))
    apply aw_loopk (X := Nat × Bool) [0, 3] (fun x => [(5, .int .i64 (x.1 : Int)), (4, .bool x.2)]) (fun _ => []) (fun x => x.1 ≤ cs.length ∧ (x.2 = true → ∀ j, j < x.1 → ∀ h : j < cs.length, codeOk cs cl.length o j cs[j]) ∧ (x.2 = false → V = false)) (fun x => cs.length - x.1) (0, true) ⟨Nat.zero_le _, fun _ => by omega, fun h => by cases h⟩
    exact kp_; exact nw_
    · exact .refl _
    rintro ⟨i, ok⟩ ⟨hi, ha, hb⟩
    dsimp only at hi ha hb ⊢
    by_cases hlt : i < cs.length
    · cases ok
      case false =>
        rw [hb rfl]
        repeat' (first | refine W_ ?_ | refine c_ (fun hc => ?_) (fun hc => ?_) | refine g_ (fun hg => ?_) (fun hg => ?_))
        exact r1_
      have hg : cs[i]? = some cs[i] := List.getElem?_eq_getElem hlt
      have hct := l16Code_ct f lo w0.heap.size cl (.sl lo 4 (es.map (TEntry.tw lo))) cs q hcl.1 hcs o hinv i cs[i] hg (hblk i _ hg)
      have hT := codeB_t (cs := cs) (nc := cl.length) (o := o) (k := i) (x := cs[i])
      have hF := codeB_f (cs := cs) (nc := cl.length) (o := o) (k := i) (x := cs[i])
      have hnx : codeOk cs cl.length o i cs[i] → ∀ j, j < i + 1 → ∀ h : j < cs.length, codeOk cs cl.length o j cs[j] := fun ho => below_succ (ha rfl) fun _ => ho
      by_cases hco : codeOk cs cl.length o i cs[i]
      · rw [hT hco] at hct
        repeat' (first | refine W_ ?_ | refine e_call hG hst (hct) ?_ | refine c_ (fun hc => ?_) (fun hc => ?_) | refine g_ (fun hg => ?_) (fun hg => ?_))
        exact aq_round (i + 1, true) ⟨by dsimp only; omega, fun _ => hnx hco, fun h => (by cases h)⟩ (by dsimp only; omega) (.of _ nw_ od_ pk_)
      · rw [hF hco] at hct
        repeat' (first | refine W_ ?_ | refine e_call hG hst (hct) ?_ | refine c_ (fun hc => ?_) (fun hc => ?_) | refine g_ (fun hg => ?_) (fun hg => ?_))
        exact aq_round (i + 1, false) ⟨by dsimp only; omega, fun h => (by cases h), fun _ => hvF2 fun h => hco (h i hlt)⟩ (by dsimp only; omega) (.of _ nw_ od_ pk_)
    · have hVe : V = ok := by
        cases ok
        · exact hb rfl
        · exact hvT2 fun j hj => ha rfl j (by omega) hj
      rw [hVe]
      repeat' (first | refine W_ ?_ | refine c_ (fun hc => ?_) (fun hc => ?_) | refine g_ (fun hg => ?_) (fun hg => ?_))
      exact r1_
end Go.Proofs.YtiihihgjiklnoaaGreatDoor
/- ReachableSelectors of the reference. -/
namespace Go.Proofs.YtiihihgjiklnoaaGreatDoor
set_option maxRecDepth 20000
set_option maxHeartbeats 2000000
open Go Go.RowKit
end Go.Proofs.YtiihihgjiklnoaaGreatDoor
/- The reference's ShakeBase. -/
namespace Go.Proofs.YtiihihgjiklnoaaGreatDoor
set_option maxRecDepth 20000
set_option maxHeartbeats 2000000
open Go Go.RowKit
section
variable {P : Program} {w0 : World} {N : Nat} {Q : Exit → Act → World → Prop} {env : Env} {objs : Objs}
theorem aq_nilC {x : Exit} {s b : Nat} {cells : List TV} (i m : Nat) (hm : 0 < m) (hi : cells[i]? = some .nils) (h : ∀ ss, AQ w0 N Q x env ((s, b, .box (cells.set i (.ms ss 0 0 0))) :: (ss, 0, .row m []) :: objs)) : AQ w0 N Q x env ((s, b, .box cells) :: objs) := ⟨fun a w hs => by
  obtain ⟨ss, h1⟩ := hs.nilC i m hm hi
  exact (h ss).run a w h1⟩
end
end Go.Proofs.YtiihihgjiklnoaaGreatDoor
/- impl.ShakeBase: its function literal, slices.IndexFunc and slices.DeleteFunc on a row that the caller owns. -/
namespace Go.Proofs.YtiihihgjiklnoaaGreatDoor
set_option maxRecDepth 20000
set_option maxHeartbeats 2000000
open Go Go.RowKit
section
variable {G : World → Prop}
end
end Go.Proofs.YtiihihgjiklnoaaGreatDoor
/- slices.DeleteFunc on a row that the caller owns. -/
namespace Go.Proofs.YtiihihgjiklnoaaGreatDoor
set_option maxRecDepth 20000
set_option maxHeartbeats 2000000
open Go Go.RowKit
section
variable {G : World → Prop}
end
end Go.Proofs.YtiihihgjiklnoaaGreatDoor
