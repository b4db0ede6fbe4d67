/- Part 16 of the proof: the texts IvG. -/
import Derived.Test.YtigipcbnfeoliaaGreatDoorFi3
import Derived.Test.YtigipcbnfeoliaaGreatDoorFi12
set_option linter.all false
set_option maxHeartbeats 4000000
set_option maxRecDepth 20000
namespace Go.Proofs.YtigipcbnfeoliaaGreatDoor
open Go Go.RowKit
section
variable {G : World -> Prop}
theorem jI (hst : aC G) (lo : Nat) (l : List aa) (hsm : l.length <= 1048576 /\ ∀ y ∈ l, aa.small 1048576 y) : Ct Tryz.prog G 188 [.sl lo 3 (l.map (aa.tw lo))] (fun _ => .bool (bS l)) := by
 refine aq Tryz.func188 rfl Tryz.ntmps188 rfl rfl fun w0 _ hG => ?_
 have hlen := aa.len lo l
 have hbl := aa.len w0.heap.size bI
 rw [fH] at hbl
 have hl1 := hsm.1
 by_cases hl : 16 <= l.length /\ l.length <= 24
 ·repeat' (first | refine W_ ?_ | (refine ak ?_; intro ss bb) | refine j6 ?_ | refine ae ?_ | ((with_reducible apply adv); rfl; kernel_rfl; exact hG; exact hst; exact yQ hst [.str ⟨#[]⟩, .bool false, .nils, .nils, .nils]; (apply dg.cons; rfl; exact cz.mpSame List.mem_cons_self); exact dg.nil))
  apply ai (X := Nat) [0, 4] (fun i => [(5, .int .i64 (i : Int))]) (fun _ => []) (fun i => i <= l.length /\ ∀ j, j < i -> ∀ h : j < l.length, en l j l[j]) (fun i => l.length - i) 0 ⟨Nat.zero_le _, by simp⟩
  exact kp_; exact nw_
  ·exact .nil _
  rintro i ⟨hi, hk⟩
  try dsimp only
  by_cases hlt : i < l.length
  ·have hra : (l.map (aa.tw lo))[i]? = some (l[i].tw lo) := aL hlt
   have hbi := hsm.2 _ (List.getElem_mem hlt)
   have hbad := lb hlt
   have hks : en l i l[i] -> ∀ j, j < i + 1 -> ∀ h : j < l.length, en l j l[j] := fun ho => ca hk fun _ => ho
   generalize l[i] = x at hra hbi hbad hks
   rw [show x.tw lo = [.str x.name, .int .i64 x.parent, .sl lo 1 (aT x.fields)] from rfl] at hra
   by_cases hlow : i < 16
   ·obtain ⟨bi, hb, _, _, h3, _⟩ := jq hlow
    have hrb : (bI.map (aa.tw w0.heap.size))[i]? = some [.str bi.name, .int .i64 bi.parent, .sl w0.heap.size 1 (aT bi.fields)] := by rw [List.getElem?_map, hb]; rfl
    rw [nV hlow hb] at hbad hks
    have hbf : bi.fields.length <= 1048576 := by rw [<- h3]; unfold il; split <;> simp
    have heq := jw (G := G) lo w0.heap.size x.fields bi.fields hbi.2.1 hbf
    clear h3
    by_cases ho : x.name = bi.name /\ x.parent = bi.parent /\ x.fields = bi.fields
    ·have n1 : ¬ x.name ≠ bi.name := fun h => h ho.1
     have n2 : ¬ x.parent ≠ bi.parent := fun h => h ho.2.1
     rw [decide_eq_true ho.2.2] at heq
     repeat' (first | refine V_ ?_ | (refine ak ?_; intro ss bb) | refine ae ?_ | refine ad hG hst (heq) ?_)
     exact ah (i + 1) ⟨by omega, hks ho⟩ (by omega) (.of _ nw_ od_ (cZ.nil _))
    ·rw [hbad ho]
     clear hks hbad
     by_cases hfe : x.fields = bi.fields
     ·rw [decide_eq_true hfe] at heq
      repeat' (first | refine V_ ?_ | (refine ak ?_; intro ss bb) | refine ae ?_ | refine ad hG hst (heq) ?_ | refine g_ (fun hg => ?_) (fun hg => ?_))
      all_goals first
        | (exfalso; exact ho ⟨Decidable.of_not_not (by assumption), Decidable.of_not_not (by assumption), hfe⟩)
        | (exact r1_)
     ·rw [decide_eq_false hfe] at heq
      repeat' (first | refine V_ ?_ | (refine ak ?_; intro ss bb) | refine ae ?_ | refine ad hG hst (heq) ?_ | refine g_ (fun hg => ?_) (fun hg => ?_))
      all_goals
        exact r1_
   ·rw [mw hlow] at hbad hks
    obtain ⟨nm, par, fs⟩ := x
    dsimp only at hra hbi hbad hks
    have hx1 : nm.size <= 1048576 := hbi.1
    have hx2 : fs.length <= 1048576 := hbi.2.1
    have hx3 : ∀ y ∈ fs, ByteArray.size y <= 1048576 := hbi.2.2
    have hfl := aG fs
    clear hbl
    repeat' (first | refine H_ 12 ?_ | (refine ak ?_; intro ss bb) | refine ae ?_)
    refine ⟨dv ?_⟩
    generalize ss = s3; generalize bb = b3
    apply fK (X := Unit) [0, 4, 5, 6] (fun _ => [(88, .bool (!decide (db l i ⟨nm, par, fs⟩)))]) (fun _ => [(s3, b3, .box [.str nm, .int .i64 par, .sl lo 1 (aT fs)])]) (fun _ => True)
    case hk => (repeat (first | exact jB.nil | (apply jB.cons; rfl)))
    ·repeat' (first | refine W_ ?_ | refine ac hG hst (gU hst _ hx1) ?_ | refine ac hG hst (bm _ _ _) ?_ | refine g_ (fun hg => ?_) (fun hg => ?_))
     all_goals
       refine ee () trivial (.of _ (bX.envCons (jZ rfl ?_) bX.envNil) od_ pk_)
       clear hbad hks hk hra hbi
       simp only [Bool.not_eq_true', Bool.not_eq_false', inR, decide_eq_true_eq, decide_eq_false_iff_not] at *
       by_cases h8 : (8 : Int) < (fs.length : Int)
       all_goals (try simp only [h8, decide_true, decide_false])
       all_goals first
         | (have : db l i ⟨nm, par, fs⟩ := ⟨by assumption, by dsimp only; omega, by dsimp only; omega, by dsimp only; omega⟩
            simp only [decide_eq_true this, Bool.not_true]
            done)
         | (have : ¬ db l i ⟨nm, par, fs⟩ := fun h => by
              obtain ⟨h1, h2, h3, h4⟩ := h
              dsimp only at h1 h2 h3 h4
              first
                | omega
                | (simp only [h1] at *; done)
                | (simp_all; done)
            simp only [decide_eq_false this, Bool.not_false]
            done)
    intro _ _
    by_cases hh : db l i ⟨nm, par, fs⟩
    ·rw [decide_eq_true hh, Bool.not_true]
     have hh2 := hh.2
     obtain ⟨⟨hp0, hp1⟩, _, hf8⟩ := hh2
     dsimp only at hp0 hp1 hf8
     obtain ⟨p, rfl⟩ : ∃ p : Nat, par = p := ⟨par.toNat, by omega⟩
     have hpl : p < l.length := by omega
     have hrp : (l.map (aa.tw lo))[p]? = some (l[p].tw lo) := aL hpl
     have hbp := hsm.2 _ (List.getElem_mem hpl)
     have hpf := ji (x := ⟨nm, (p : Int), fs⟩) rfl (List.getElem?_eq_getElem hpl)
     generalize l[p] = y at hrp hbp hpf
     obtain ⟨pn, pp, pf⟩ := y
     replace hrp : (l.map (aa.tw lo))[p]? = some [.str pn, .int .i64 pp, .sl lo 1 (aT pf)] := hrp
     have hx4 : pf.length <= 1048576 := hbp.2.1
     have hpl2 := aG pf
     repeat' refine W_ ?_
     apply ai (X := Nat) [0, 4, 5, 6] (fun k => [(7, .int .i64 (k : Int))]) (fun _ => [(s3, b3, .box [.str nm, .int .i64 (p : Int), .sl lo 1 (aT fs)])]) (fun k => k <= i /\ ∀ y ∈ l.take k, y.name ≠ nm) (fun k => i - k) 0 ⟨Nat.zero_le _, by simp⟩
     exact kp_; exact nw_
     ·exact .refl _
     rintro k ⟨hki, hkn⟩
     try dsimp only
     by_cases hlk : k < i
     ·have hlk2 : k < l.length := by omega
      have hrk : (l.map (aa.tw lo))[k]? = some (l[k].tw lo) := aL hlk2
      have hta := aY (p := fun y : aa => y.name ≠ nm) hlk2 hkn
      have hmem : l[k] ∈ l.take i := List.mem_take_iff_getElem.2 ⟨k, by omega, rfl⟩
      generalize l[k] = z at hrk hta hmem
      obtain ⟨zn, zp, zf⟩ := z
      replace hrk : (l.map (aa.tw lo))[k]? = some [.str zn, .int .i64 zp, .sl lo 1 (aT zf)] := hrk
      by_cases hzn : zn = nm
      ·rw [hbad fun h => h.2.1 _ hmem hzn]
       repeat' refine V_ ?_
       exact r1_
      ·repeat' refine V_ ?_
       exact ah (k + 1) ⟨by omega, hta hzn⟩ (by omega) (.of _ nw_ od_ pk_)
     ·obtain rfl : k = i := by omega
      clear hlk
      by_cases hhe : pf.length <= fs.length /\ fs.take pf.length = pf
      ·have heq := jw (G := G) lo lo (fs.take pf.length) pf (by simp; omega) hx4
       rw [decide_eq_true hhe.2] at heq
       have hsl : (aT fs).take pf.length = aT (fs.take pf.length) := by simp [aT, List.map_take]
       have hle := hhe.1
       repeat' (first | refine V_ ?_ | refine ko ?_ | refine ad hG hst (heq) ?_)
       apply ai (X := Nat) [0, 4, 5, 6] (fun k => [(9, .int .i64 (k : Int))]) (fun _ => [(s3, b3, .box [.str nm, .int .i64 (p : Int), .sl lo 1 (aT fs)])]) (fun k => k <= fs.length /\ ∀ j, j < k -> ∀ h : j < fs.length, fieldAt fs j fs[j] = true) (fun k => fs.length - k) 0 ⟨Nat.zero_le _, by omega⟩
       exact kp_; exact nw_
       ·exact .refl _
       rintro q ⟨hq, hqa⟩
       try dsimp only
       by_cases hqf : q < fs.length
       ·have hfr := cB hqf
        have hqs := hx3 _ (List.getElem_mem hqf)
        have hqb := mG hqf
        have hqn : fieldAt fs q fs[q] = true -> ∀ j, j < q + 1 -> ∀ h : j < fs.length, fieldAt fs j fs[j] = true := fun h => ca hqa fun _ => h
        generalize fs[q] = f at hfr hqs hqb hqn
        have hname := gU (G := G) hst f hqs
        have hhas := xr (G := G) lo (fs.take q) f (by simp; omega)
        have hsq : (aT fs).take q = aT (fs.take q) := by simp [aT, List.map_take]
        have hqle : q <= fs.length := hq
        by_cases hqo : fieldAt fs q f = true
        ·have hqo2 := hqo
         unfold fieldAt at hqo2
         rw [Bool.and_eq_true, Bool.not_eq_true'] at hqo2
         rw [hqo2.1] at hname
         rw [hqo2.2] at hhas
         repeat' (first | refine V_ ?_ | refine ko ?_ | refine ad hG hst (hname) ?_ | refine ad hG hst (hhas) ?_)
         exact ah (q + 1) ⟨by omega, hqn hqo⟩ (by omega) (.of _ nw_ od_ pk_)
        ·rw [hbad fun h => hqb (Bool.eq_false_iff.2 hqo) h.2.2.2]
         by_cases hqs1 : cq f.data.toList = true
         ·have hqs2 : j0 (fs.take q) f = true := by
            unfold fieldAt at hqo
            rw [hqs1, Bool.true_and] at hqo
            simpa using hqo
          rw [hqs1] at hname
          rw [hqs2] at hhas
          repeat' (first | refine V_ ?_ | refine ko ?_ | refine ad hG hst (hname) ?_ | refine ad hG hst (hhas) ?_)
          exact r1_
         ·rw [Bool.eq_false_iff.2 hqs1] at hname
          repeat' (first | refine V_ ?_ | refine ad hG hst (hname) ?_)
          exact r1_
       ·obtain rfl : q = fs.length := by omega
        repeat' refine W_ ?_
        exact ah (k + 1) ⟨by omega, hks ⟨hh, hkn, ⟨by rw [hpf]; exact hhe.1, by rw [hpf]; exact hhe.2⟩, fun j hj => hqa j hj hj⟩⟩ (by omega) (.of _ nw_ od_ (cZ.nil _))
      ·rw [hbad fun h => hhe (by have := h.2.2.1; unfold abX at this; rw [hpf] at this; exact this)]
       by_cases hle : pf.length <= fs.length
       ·have heq := jw (G := G) lo lo (fs.take pf.length) pf (by simp; omega) hx4
        rw [decide_eq_false fun h => hhe ⟨hle, h⟩] at heq
        have hsl : (aT fs).take pf.length = aT (fs.take pf.length) := by simp [aT, List.map_take]
        repeat' (first | refine V_ ?_ | refine ko ?_ | refine ad hG hst (heq) ?_)
        exact r1_
       ·repeat' refine V_ ?_
        exact r1_
    ·rw [decide_eq_false hh, Bool.not_false, hbad fun h => hh h.1]
     repeat' refine W_ ?_
     exact r1_
  ·rw [jJ hl fun j hj => hk j (by omega)]
   repeat' refine W_ ?_
   exact r1_
 ·rw [kx hl]
  repeat' (first | refine W_ ?_ | refine g_ (fun hg => ?_) (fun hg => ?_))
  all_goals first
    | (exfalso; omega)
    | (exact r1_)
end
end Go.Proofs.YtigipcbnfeoliaaGreatDoor
