/- Part 28 of the proof: the texts IvU, ImB, ImF, RsD, ShA, ShB. -/
import Derived.Test.YtiihihgjiklnoaaGreatDoorQb10
import Derived.Test.YtiihihgjiklnoaaGreatDoorQb25
import Derived.Test.YtiihihgjiklnoaaGreatDoorQb22
import Derived.Test.YtiihihgjiklnoaaGreatDoorQb24
import Derived.Test.YtiihihgjiklnoaaGreatDoorQb21
import Derived.Test.YtiihihgjiklnoaaGreatDoorQb26
import Derived.Test.YtiihihgjiklnoaaGreatDoorQb20
import Derived.Test.YtiihihgjiklnoaaGreatDoorQb12
/- IsVerified of the reference (l16Verified, IsVerified). -/
namespace Go.Proofs.YtiihihgjiklnoaaGreatDoor
set_option maxRecDepth 20000
open Go Go.RowKit
set_option maxRecDepth 8000 in
set_option maxHeartbeats 8000000 in
theorem nY (f lo : Nat) (cl : List aa) (es : List aw) (cs : List ay) (mn : Int) (hcl : cl.length ≤ 1048576 ∧ ∀ y ∈ cl, aa.small 1048576 y) (hcs : cs.length ≤ 1048576 ∧ ∀ y ∈ cs, ay.small 1048576 y) (hes : es.length ≤ 1048576 ∧ ∀ y ∈ es, aw.small 1048576 y) :
    Ct Tryz.prog GL 48 [.cp f [.sl lo 3 (cl.map (aa.tw lo)), .sl lo 4 (cs.map (ay.tw lo)), .sl lo 4 (es.map (aw.tw lo)), .int .i64 mn]] (fun _ => .bool (cV ⟨cl, cs, es, mn⟩)) := by
  refine ao Tryz.func48 rfl Tryz.ntmps48 rfl rfl fun w0 _ hG => ?_
  have hst := df
  have hvF := oz (x := ⟨cl, cs, es, mn⟩)
  have hvT := oM (x := ⟨cl, cs, es, mn⟩)
  unfold eb yu uk at hvF hvT
  dsimp only at hvF hvT
  generalize cV ⟨cl, cs, es, mn⟩ = V at hvF hvT ⊢
  have hl1 := aa.len lo cl
  have hl2 := ay.len lo cs
  have hl3 := aw.len lo es
  have hcsl := hcs.1
  have c1 := iZ hst lo cl hcl
  have c3 := a7 (G := GL) mn 0 ((cs.length : Int) - 1)
  have c5 := qf hst ac2 adA f lo cl cs es mn hcl.1 hcs.1 hes
  have c6 := md hst f lo (.sl lo 3 (cl.map (aa.tw lo))) (.sl lo 4 (es.map (aw.tw lo))) cs mn hcs
  by_cases h1 : bP cl = true
  case neg =>
    rw [hvF fun h => h1 h.1]
    rw [Bool.eq_false_iff.2 h1] at c1
    repeat' (first | refine V_ ?_ | refine ac hG hst (c1) ?_ | refine c_ (fun hc => ?_) (fun hc => ?_) | refine g_ (fun hg => ?_) (fun hg => ?_))
    exact r1_
  rw [h1] at c1
  by_cases h2 : cs.length ≤ 200
  case neg =>
    rw [hvF fun h => h2 h.2.1]
    repeat' (first | refine V_ ?_ | refine ac hG hst (c1) ?_ | refine c_ (fun hc => ?_) (fun hc => ?_) | refine g_ (fun hg => ?_) (fun hg => ?_))
    exact r1_
  by_cases h3 : inR mn 0 ((cs.length : Int) - 1) = true
  case neg =>
    rw [hvF fun h => h3 h.2.2.1.1]
    rw [Bool.eq_false_iff.2 h3] at c3
    repeat' (first | refine V_ ?_ | refine ac hG hst (c1) ?_ | refine ac hG hst (c3) ?_ | refine c_ (fun hc => ?_) (fun hc => ?_) | refine g_ (fun hg => ?_) (fun hg => ?_))
    exact r1_
  have h3' := of_decide_eq_true h3
  obtain ⟨q, rfl⟩ : ∃ q : Nat, mn = q := ⟨mn.toNat, by omega⟩
  have hql : q < cs.length := by omega
  have hrq := bL (lo := lo) hql
  have hpl := f4 (n := 0) rfl (List.getElem?_eq_getElem hql)
  generalize cs[q] = y at hrq hpl
  obtain ⟨yb, yp, ys, yi⟩ := y
  dsimp only at hrq hpl
  rw [h3, show (cs.length : Int) - 1 = ((cs.length - 1 : Nat) : Int) by omega] at c3
  cases yb
  case true =>
    rw [hvF fun h => by have := hpl.1 h.2.2.1.2; cases this.1]
    repeat' (first | refine V_ ?_ | refine ac hG hst (c1) ?_ | refine ac hG hst (c3) ?_ | refine c_ (fun hc => ?_) (fun hc => ?_) | refine g_ (fun hg => ?_) (fun hg => ?_))
    exact r1_
  by_cases h4 : yp = 0
  case neg =>
    rw [hvF fun h => by have := hpl.1 h.2.2.1.2; exact h4 this.2]
    repeat' (first | refine V_ ?_ | refine ac hG hst (c1) ?_ | refine ac hG hst (c3) ?_ | refine c_ (fun hc => ?_) (fun hc => ?_) | refine g_ (fun hg => ?_) (fun hg => ?_))
    exact r1_
  have h4' : ¬ yp ≠ 0 := fun h => h h4
  by_cases h5 : eV cl.length cs es = true
  case neg =>
    rw [hvF fun h => h5 h.2.2.2.1]
    rw [Bool.eq_false_iff.2 h5] at c5
    repeat' (first | refine V_ ?_ | refine ac hG hst (c1) ?_ | refine ac hG hst (c3) ?_ | refine ac hG hst (c5) ?_ | refine c_ (fun hc => ?_) (fun hc => ?_) | refine g_ (fun hg => ?_) (fun hg => ?_))
    exact r1_
  rw [h5] at c5
  have hhead := hpl.2 ⟨rfl, h4⟩
  unfold aaU at c6
  cases hR : ew cs
  case none =>
    rw [hR] at c6
    have hf : V = false := hvF fun h => by
      obtain ⟨o, ho, _⟩ := h.2.2.2.2
      rw [hR] at ho; cases ho
    rw [hf]
    clear hvF hvT
    replace c6 : Ct Tryz.prog GL 127 [.cp f [.sl lo 3 (cl.map (aa.tw lo)), .sl lo 4 (cs.map (ay.tw lo)), .sl lo 4 (es.map (aw.tw lo)), .int .i64 (q : Int)]] (fun K => .tup [.sl K 1 [], .bool false]) := c6
    repeat' (first | refine V_ ?_ | refine ac hG hst (c1) ?_ | refine ac hG hst (c3) ?_ | refine ac hG hst (c5) ?_ | refine ab hG hst (c6) ?_ | refine c_ (fun hc => ?_) (fun hc => ?_) | refine g_ (fun hg => ?_) (fun hg => ?_))
    apply aj (X := Nat) [0, 3, 4] (fun i => [(5, .int .i64 (i : Int))]) (fun _ => []) (fun i => i = 0) (fun i => 1 - i) 0 rfl
    exact kp_; exact nw_
    · exact .refl _
    rintro i rfl
    try dsimp only
    have hpos : ((0 : Nat) : Int) < (cs.length : Int) := by omega
    repeat' (first | refine W_ ?_ | refine c_ (fun hc => ?_) (fun hc => ?_) | refine g_ (fun hg => ?_) (fun hg => ?_))
    exact r1_
  case some o =>
    rw [hR] at c6
    replace c6 : Ct Tryz.prog GL 127 [.cp f [.sl lo 3 (cl.map (aa.tw lo)), .sl lo 4 (cs.map (ay.tw lo)), .sl lo 4 (es.map (aw.tw lo)), .int .i64 (q : Int)]] (fun K => .tup [.sl K 1 (aO o), .bool true]) := c6
    obtain ⟨hinv, hfit⟩ := js hR
    have hblk := fun i c hc => qd hR (i := i) (c := c) hc
    have hvF2 : ¬ qJ cs cl.length o → V = false := fun h => hvF fun k => by
      obtain ⟨o', ho', hc'⟩ := k.2.2.2.2
      rw [hR] at ho'; cases ho'
      exact h hc'
    have hvT2 : qJ cs cl.length o → V = true := fun h => hvT ⟨h1, h2, ⟨h3, hhead⟩, h5, o, hR, h⟩
    clear hvF hvT hR
    repeat' (first | refine V_ ?_ | refine ac hG hst (c1) ?_ | refine ac hG hst (c3) ?_ | refine ac hG hst (c5) ?_ | refine ab hG hst (c6) ?_ | refine c_ (fun hc => ?_) (fun hc => ?_) | refine g_ (fun hg => ?_) (fun hg => ?_))
    apply aj (X := Nat × Bool) [0, 3] (fun x => [(5, .int .i64 (x.1 : Int)), (4, .bool x.2)]) (fun _ => []) (fun x => x.1 ≤ cs.length ∧ (x.2 = true → ∀ j, j < x.1 → ∀ h : j < cs.length, fF cs cl.length o j cs[j]) ∧ (x.2 = false → V = false)) (fun x => cs.length - x.1) (0, true) ⟨Nat.zero_le _, fun _ => by omega, fun h => by cases h⟩
    exact kp_; exact nw_
    · exact .refl _
    rintro ⟨i, ok⟩ ⟨hi, ha, hb⟩
    dsimp only at hi ha hb ⊢
    by_cases hlt : i < cs.length
    · cases ok
      case false =>
        rw [hb rfl]
        repeat' (first | refine W_ ?_ | refine c_ (fun hc => ?_) (fun hc => ?_) | refine g_ (fun hg => ?_) (fun hg => ?_))
        exact r1_
      have hg : cs[i]? = some cs[i] := List.getElem?_eq_getElem hlt
      have hct := wC f lo w0.heap.size cl (.sl lo 4 (es.map (aw.tw lo))) cs q hcl.1 hcs o hinv i cs[i] hg (hblk i _ hg)
      have hT := yW (cs := cs) (nc := cl.length) (o := o) (k := i) (x := cs[i])
      have hF := xF (cs := cs) (nc := cl.length) (o := o) (k := i) (x := cs[i])
      have hnx : fF cs cl.length o i cs[i] → ∀ j, j < i + 1 → ∀ h : j < cs.length, fF cs cl.length o j cs[j] := fun ho => bW (ha rfl) fun _ => ho
      by_cases hco : fF cs cl.length o i cs[i]
      · rw [hT hco] at hct
        repeat' (first | refine W_ ?_ | refine ab hG hst (hct) ?_ | refine c_ (fun hc => ?_) (fun hc => ?_) | refine g_ (fun hg => ?_) (fun hg => ?_))
        exact ah (i + 1, true) ⟨by dsimp only; omega, fun _ => hnx hco, fun h => (by cases h)⟩ (by dsimp only; omega) (.of _ nw_ od_ pk_)
      · rw [hF hco] at hct
        repeat' (first | refine W_ ?_ | refine ab hG hst (hct) ?_ | refine c_ (fun hc => ?_) (fun hc => ?_) | refine g_ (fun hg => ?_) (fun hg => ?_))
        exact ah (i + 1, false) ⟨by dsimp only; omega, fun h => (by cases h), fun _ => hvF2 fun h => hco (h i hlt)⟩ (by dsimp only; omega) (.of _ nw_ od_ pk_)
    · have hVe : V = ok := by
        cases ok
        · exact hb rfl
        · exact hvT2 fun j hj => ha rfl j (by omega) hj
      rw [hVe]
      repeat' (first | refine W_ ?_ | refine c_ (fun hc => ?_) (fun hc => ?_) | refine g_ (fun hg => ?_) (fun hg => ?_))
      exact r1_
set_option maxRecDepth 20000
set_option maxHeartbeats 2000000
inductive IsB (cl : List aa) (a : Int) : Int → Prop
  | here : IsB cl a a
  | up (k : Nat) (h : k < cl.length) (hne : (k : Int) ≠ a) (hr : IsB cl a cl[k].parent) : IsB cl a k
theorem vz {cl : List aa} {a : Int} {k : Nat} (h : k < cl.length) (hne : (k : Int) ≠ a) : IsB cl a k ↔ IsB cl a cl[k].parent := by
  constructor
  · intro hb
    generalize hk : (k : Int) = q at hb
    cases hb with
    | here => exact absurd hk hne
    | up k' h' hne' hr =>
      obtain rfl : k = k' := by omega
      exact hr
  · exact .up k h hne
theorem yX {cl : List aa} {a k : Int} (h : k < 0) : IsB cl a k ↔ k = a := by
  constructor
  · intro hb
    cases hb with
    | here => rfl
    | up k' h' hne' hr => omega
  · rintro rfl; exact .here
theorem abl {cl : List aa} {a : Int} {k : Int} (h : (cl.length : Int) ≤ k) : IsB cl a k ↔ k = a := by
  constructor
  · intro hb
    cases hb with
    | here => rfl
    | up k' h' hne' hr => omega
  · rintro rfl; exact .here
open Classical in
noncomputable def tF (cl : List aa) (a k : Int) : Bool := decide (IsB cl a k)
def fT (cl : List aa) : Prop := ∀ (i : Nat) (h : i < cl.length), -1 ≤ cl[i].parent ∧ cl[i].parent < i
theorem tD : ∀ (i : Nat) (_h : i < 16), ∀ b, bF[i]? = some b → -1 ≤ b.parent ∧ b.parent < i := by
  intro i _h b hb
  match i, _h with
  | 0, _ => cases hb; decide
  | 1, _ => cases hb; decide
  | 2, _ => cases hb; decide
  | 3, _ => cases hb; decide
  | 4, _ => cases hb; decide
  | 5, _ => cases hb; decide
  | 6, _ => cases hb; decide
  | 7, _ => cases hb; decide
  | 8, _ => cases hb; decide
  | 9, _ => cases hb; decide
  | 10, _ => cases hb; decide
  | 11, _ => cases hb; decide
  | 12, _ => cases hb; decide
  | 13, _ => cases hb; decide
  | 14, _ => cases hb; decide
  | 15, _ => cases hb; decide
  | n + 16, _h => omega
open Classical in
theorem jE {cl : List aa} (h : bP cl = true) : iI cl := of_decide_eq_true h
theorem qg {cl : List aa} (h : bP cl = true) : fT cl := fun i hi => by
  have h1 := (jE h).2 i hi
  unfold dZ at h1
  split at h1
  · rename_i h16
    obtain ⟨b, hb, _, hp, _⟩ := h1
    rw [hp]
    exact tD i h16 b hb
  · have := h1.1.2.1
    omega
section
variable {G : World → Prop}
theorem iq {lo : Nat} {l : List aa} {i : Nat} (h : i < l.length) : (l.map (aa.tw lo))[i]? = some [.str l[i].name, .int .i64 l[i].parent, .sl lo 1 (bE l[i].fields)] := aH h
open Classical in
theorem od (lo : Nat) (cl : List aa) (hcl : fT cl) (k0 a : Int) (hk0 : -1 ≤ k0 ∧ k0 < cl.length) : Ct Tryz.prog G 275 [.sl lo 3 (cl.map (aa.tw lo)), .int .i64 k0, .int .i64 a] (fun _ => .bool (tF cl a k0)) := by
  refine ao Tryz.func275 rfl Tryz.ntmps275 rfl rfl fun w0 _ hG => ?_
  have hlen := aa.len lo cl
  repeat' (first | refine W_ ?_ | refine c_ (fun hc => ?_) (fun hc => ?_) | refine g_ (fun hg => ?_) (fun hg => ?_))
  apply aj (X := Int) [0, 2] (fun k => [(1, .int .i64 k)]) (fun _ => []) (fun k => (-1 ≤ k ∧ k < cl.length) ∧ (IsB cl a k0 ↔ IsB cl a k)) (fun k => (k + 1).toNat) k0 ⟨hk0, Iff.rfl⟩
  exact kp_; exact nw_
  · exact .refl _
  rintro k ⟨hk, hiff⟩
  try dsimp only
  by_cases hneg : k < 0
  · have e : tF cl a k0 = decide (k = a) := decide_eq_decide.2 (hiff.trans (yX hneg))
    rw [e]
    repeat' (first | refine W_ ?_ | refine c_ (fun hc => ?_) (fun hc => ?_) | refine g_ (fun hg => ?_) (fun hg => ?_))
    refine aB x_ rfl (.tmp _ _ rfl) (fun _ => ?_)
    exact aJ rfl
  obtain ⟨n, rfl⟩ : ∃ n : Nat, k = n := ⟨k.toNat, by omega⟩
  have hn : n < cl.length := by omega
  by_cases hka : (n : Int) = a
  · have e : tF cl a k0 = true := decide_eq_true (hiff.2 (hka ▸ .here))
    have hne : ¬ ((n : Int) ≠ a) := fun h => h hka
    rw [e]
    repeat' (first | refine W_ ?_ | refine c_ (fun hc => ?_) (fun hc => ?_) | refine g_ (fun hg => ?_) (fun hg => ?_))
    refine aB x_ rfl (.tmp _ _ rfl) (fun _ => ?_)
    exact aJ (decide_eq_true hka)
  · have hrow := iq (lo := lo) hn
    have hp := hcl n hn
    have hst2 := hiff.trans (vz hn hka)
    have hne : (n : Int) ≠ a := hka
    generalize cl[n] = c at hrow hp hst2
    repeat' (first | refine W_ ?_ | refine c_ (fun hc => ?_) (fun hc => ?_) | refine g_ (fun hg => ?_) (fun hg => ?_))
    exact ah c.parent ⟨by omega, hst2⟩ (by omega) (.of _ nw_ od_ pk_)
open Classical in
theorem uG (lo : Nat) (cl : List aa) (hcl : fT cl) (k0 a : Int) (ha : 0 ≤ a ∧ a < cl.length) : Ct Tryz.prog G 273 [.sl lo 3 (cl.map (aa.tw lo)), .int .i64 k0, .int .i64 a] (fun _ => .bool (tF cl a k0)) := by
  refine ao Tryz.func273 rfl Tryz.ntmps273 rfl rfl fun w0 _ hG => ?_
  have hlen := aa.len lo cl
  repeat' (first | refine W_ ?_ | refine c_ (fun hc => ?_) (fun hc => ?_) | refine g_ (fun hg => ?_) (fun hg => ?_))
  apply aj (X := Int) [0, 2] (fun k => [(1, .int .i64 k)]) (fun _ => []) (fun k => IsB cl a k0 ↔ IsB cl a k) (fun k => (k + 1).toNat) k0 Iff.rfl
  exact kp_; exact nw_
  · exact .refl _
  rintro k hiff
  try dsimp only
  by_cases hneg : k < 0
  · have e : tF cl a k0 = false := decide_eq_false fun h => by have := (yX hneg).1 (hiff.1 h); omega
    rw [e]
    repeat' (first | refine W_ ?_ | refine c_ (fun hc => ?_) (fun hc => ?_) | refine g_ (fun hg => ?_) (fun hg => ?_))
    exact r1_
  by_cases hbig : (cl.length : Int) ≤ k
  · have e : tF cl a k0 = false := decide_eq_false fun h => by have := (abl hbig).1 (hiff.1 h); omega
    rw [e]
    repeat' (first | refine W_ ?_ | refine c_ (fun hc => ?_) (fun hc => ?_) | refine g_ (fun hg => ?_) (fun hg => ?_))
    exact r1_
  obtain ⟨n, rfl⟩ : ∃ n : Nat, k = n := ⟨k.toNat, by omega⟩
  have hn : n < cl.length := by omega
  by_cases hka : (n : Int) = a
  · have e : tF cl a k0 = true := decide_eq_true (hiff.2 (hka ▸ .here))
    rw [e]
    repeat' (first | refine W_ ?_ | refine c_ (fun hc => ?_) (fun hc => ?_) | refine g_ (fun hg => ?_) (fun hg => ?_))
    exact r1_
  · have hrow := iq (lo := lo) hn
    have hp := hcl n hn
    have hst2 := hiff.trans (vz hn hka)
    generalize cl[n] = c at hrow hp hst2
    repeat' (first | refine W_ ?_ | refine c_ (fun hc => ?_) (fun hc => ?_) | refine g_ (fun hg => ?_) (fun hg => ?_))
    exact ah c.parent hst2 (by omega) (.of _ nw_ od_ pk_)
end
def ck (st : aM) (nb : Int) (x : ae) : Bool := jA x.kind x.number x.text && (if x.kind = 5 then decide (x.number < st.classes.length) else if x.kind = 6 then decide (x.number < st.objects.length) else if x.kind = 7 then decide (x.number < nb) else true)
theorem mG (lo : Nat) (st : aM) (nb : Int) (x : ae) (ht : x.text.size ≤ 1048576) : Ct Tryz.prog GL 180 [.agg (st.tw lo), .agg [.int .i64 x.kind, .int .i64 x.number, .str x.text], .int .i64 nb] (fun _ => .bool (ck st nb x)) := by
  refine ao Tryz.func180 rfl Tryz.ntmps180 rfl rfl fun w0 _ hG => ?_
  have hst := df
  have hv := n7 x.kind x.number x.text ht
  have h1 := aa.len lo st.classes
  have h2 := au.len lo st.objects
  unfold ck
  unfold aM.tw
  generalize jA x.kind x.number x.text = b at hv ⊢
  cases b with
  | false =>
    rw [Bool.false_and]
    repeat' (first | refine W_ ?_ | refine aE ?_ | refine ab hG hst (hv) ?_ | refine c_ (fun hc => ?_) (fun hc => ?_) | refine g_ (fun hg => ?_) (fun hg => ?_))
    exact r1_
  | true =>
    rw [Bool.true_and]
    repeat' (first | refine W_ ?_ | refine aE ?_ | refine ab hG hst (hv) ?_ | refine c_ (fun hc => ?_) (fun hc => ?_) | refine g_ (fun hg => ?_) (fun hg => ?_))
    all_goals
      refine aB x_ rfl (.tmp _ _ rfl) (fun _ => ?_)
      exact aJ (by simp [*])
theorem e8 (f lo : Nat) (st : aM) (nb : Int) (x : ae) (ht : x.text.size ≤ 1048576) : Ct Tryz.prog GL 163 [.cp f (st.tw lo), .agg [.int .i64 x.kind, .int .i64 x.number, .str x.text], .int .i64 nb] (fun _ => .bool (ck st nb x)) := by
  refine ao Tryz.func163 rfl Tryz.ntmps163 rfl rfl fun w0 _ hG => ?_
  have hst := df
  have hv := fH x.kind x.number x.text ht
  have h1 := aa.len lo st.classes
  have h2 := au.len lo st.objects
  unfold ck
  unfold aM.tw
  generalize jA x.kind x.number x.text = b at hv ⊢
  cases b with
  | false =>
    rw [Bool.false_and]
    repeat' (first | refine V_ ?_ | refine aE ?_ | refine ab hG hst (hv) ?_ | refine ac hG hst (hv) ?_ | refine c_ (fun hc => ?_) (fun hc => ?_) | refine g_ (fun hg => ?_) (fun hg => ?_))
    exact r1_
  | true =>
    rw [Bool.true_and]
    repeat' (first | refine V_ ?_ | refine aE ?_ | refine ab hG hst (hv) ?_ | refine ac hG hst (hv) ?_ | refine c_ (fun hc => ?_) (fun hc => ?_) | refine g_ (fun hg => ?_) (fun hg => ?_))
    all_goals
      refine aB x_ rfl (.tmp _ _ rfl) (fun _ => ?_)
      exact aJ (by simp [*])
def cxA (m : ak) (k : Int) : Option am := if 0 ≤ k then m.contexts[k.toNat]? else none
theorem xm {m : ak} {k : Int} (h : k < 0) : cxA m k = none := by unfold cxA; rw [if_neg (by omega)]
theorem jn {m : ak} {k : Nat} (h : k < m.contexts.length) : cxA m (k : Int) = some m.contexts[k] := by
  unfold cxA
  rw [if_pos (by omega), Int.toNat_natCast, List.getElem?_eq_getElem h]
theorem lE {m : ak} {k : Int} {c : am} (h : cxA m k = some c) : 0 ≤ k ∧ ∃ hk : k.toNat < m.contexts.length, m.contexts[k.toNat] = c := by
  unfold cxA at h
  split at h
  · rename_i h0
    exact ⟨h0, List.getElem?_eq_some_iff.1 h⟩
  · cases h
def cdA (m : ak) (k : Int) : Option ay := if 0 ≤ k then m.base.codes[k.toNat]? else none
theorem abS {m : ak} {k : Nat} (h : k < m.base.codes.length) : cdA m (k : Int) = some m.base.codes[k] := by
  unfold cdA
  rw [if_pos (by omega), Int.toNat_natCast, List.getElem?_eq_getElem h]
theorem aav {m : ak} {k : Int} {c : ay} (h : cdA m k = some c) : 0 ≤ k ∧ ∃ hk : k.toNat < m.base.codes.length, m.base.codes[k.toNat] = c := by
  unfold cdA at h
  split at h
  · rename_i h0
    exact ⟨h0, List.getElem?_eq_some_iff.1 h⟩
  · cases h
def fz (m : ak) : Prop := ∀ (i : Nat) (h : i < m.contexts.length), -1 ≤ m.contexts[i].sender ∧ m.contexts[i].sender < i
inductive OnW (m : ak) (a : Int) : Int → Prop
  | here : OnW m a a
  | up (k : Nat) (h : k < m.contexts.length) (hne : (k : Int) ≠ a) (hr : OnW m a m.contexts[k].sender) : OnW m a k
theorem uD {m : ak} {a : Int} {k : Nat} (h : k < m.contexts.length) (hne : (k : Int) ≠ a) : OnW m a k ↔ OnW m a m.contexts[k].sender := by
  constructor
  · intro hb
    generalize hk : (k : Int) = q at hb
    cases hb with
    | here => exact absurd hk hne
    | up k' h' hne' hr =>
      obtain rfl : k = k' := by omega
      exact hr
  · exact .up k h hne
theorem yj {m : ak} {a k : Int} (h : k < 0) : OnW m a k ↔ k = a := by
  constructor
  · intro hb
    cases hb with
    | here => rfl
    | up k' h' hne' hr => omega
  · rintro rfl; exact .here
theorem acP {m : ak} (hs : fz m) {a k : Int} (h : OnW m a k) (hk : k < m.contexts.length) : a < m.contexts.length := by
  induction h with
  | here => exact hk
  | up k h hne hr ih => exact ih (by have := hs k h; omega)
open Classical in
noncomputable def onB (m : ak) (a k : Int) : Bool := decide (OnW m a k)
def dps (x : ay) : List Int := (bR x.instrs).getD []
def abd (m : ak) (c : am) (less : Int) : Bool := match cdA m c.code with
  | some x => decide (c.pc < x.instrs.length) && (decide (0 ≤ gd (dps x) c.pc) && decide ((c.stack.length : Int) = IntKind.i64.wrap (gd (dps x) c.pc - less)))
  | none => false
noncomputable def mW (m : ak) (c : am) (less : Int) : Bool := if c.mark = 0 then abd m c less else if c.mark = 3 ∨ c.mark = 5 then onB m c.other c.sender else true
inductive we (m : ak) : Int → Int → Prop
  | out (less k : Int) (h : k < 0) : we m less k
  | up (less : Int) (k : Nat) (h : k < m.contexts.length) (hs : mW m m.contexts[k] less = true) (hr : we m 1 m.contexts[k].sender) : we m less k
theorem lR {m : ak} {less : Int} {k : Nat} (h : k < m.contexts.length) : we m less k ↔ mW m m.contexts[k] less = true ∧ we m 1 m.contexts[k].sender := by
  constructor
  · intro hb
    generalize hk : (k : Int) = q at hb
    cases hb with
    | out l k' h' => omega
    | up l k' h' hs hr =>
      obtain rfl : k = k' := by omega
      exact ⟨hs, hr⟩
  · rintro ⟨h1, h2⟩; exact .up less k h h1 h2
def di (m : ak) (a : Int) : Prop := ∃ c, cxA m a = some c ∧ c.mark = 0 ∧ we m 0 a
open Classical in
noncomputable def iW (m : ak) (a : Int) : Bool := decide (di m a)
def tn (o : au) : List Int := if o.kind = 3 then o.numbers.drop 1 else []
def sU (m : ak) : List Int := m.store.objects.flatMap tn
def mS (m : ak) : List Int := if m.status = 0 then [m.now] else []
def rK (m : ak) (L : List Int) : Prop := (∀ p ∈ L, 0 ≤ p ∧ p < m.processes.length) ∧ L.Nodup ∧ ∀ p ∈ L, ∀ q, m.processes[p.toNat]? = some q → di m q.at_
theorem oQ {m : ak} {L L' : List Int} (h : L.Perm L') (k : rK m L) : rK m L' := ⟨fun p hp => k.1 p (h.mem_iff.2 hp), h.nodup_iff.1 k.2.1, fun p hp => k.2.2 p (h.mem_iff.2 hp)⟩
theorem pd {m : ak} : rK m (m.ready ++ mS m ++ sU m) ↔ rK m (mS m ++ m.ready ++ sU m) :=
  ⟨oQ (List.perm_append_comm.append_right _), oQ (List.perm_append_comm.append_right _)⟩
def xd (m : ak) (n0 n1 n2 : Int) : Prop := (n0 = -1 ∧ n1 = -1 ∧ n2 = 0) ∨ (n2 = 1 ∧ ∃ c, cxA m n1 = some c ∧ c.mark = 3 ∧ 0 ≤ n0 ∧ OnW m n0 c.sender)
def vi (m : ak) (o : au) : Prop := o.kind = 1 → ∀ n0 n1 n2, o.numbers = [n0, n1, n2] → xd m n0 n1 n2
def ac4 (m : ak) (v : ae) (most : Int) : Prop := v.kind = 7 ∧ ∃ b x, m.blocks[v.number.toNat]? = some b ∧ cdA m b.code = some x ∧ x.params ≤ most
open Classical in
noncomputable def sL (m : ak) (v : ae) (most : Int) : Bool := decide (ac4 m v most)
def mkA (m : ak) (k : Int) : Int := match cxA m k with | some d => d.mark | none => 0
def doB (m : ak) (k i : Int) : Bool := inR i 0 (k - 1) && decide (mkA m i = 1)
def v1 (l : List ae) (g : ae → Bool) : Bool := match l with
  | [a] => g a
  | _ => false
def v3 (l : List ae) (g : ae → ae → ae → Bool) : Bool := match l with
  | [a, b, c] => g a b c
  | _ => false
theorem zl {l : List ae} {g : ae → Bool} (h : ¬ l.length = 1) : v1 l g = false := by
  match l, h with
  | [], _ => rfl
  | [a], h => exact absurd rfl h
  | _ :: _ :: _, _ => rfl
theorem ace {l : List ae} {g : ae → ae → ae → Bool} (h : ¬ l.length = 3) : v3 l g = false := by
  match l, h with
  | [], _ => rfl
  | [_], _ => rfl
  | [_, _], _ => rfl
  | [a, b, c], h => exact absurd rfl h
  | _ :: _ :: _ :: _ :: _, _ => rfl
theorem zR (a : ae) (g : ae → Bool) : v1 [a] g = g a := rfl
theorem acj (a b c : ae) (g : ae → ae → ae → Bool) : v3 [a, b, c] g = g a b c := rfl
noncomputable def aaB (m : ak) (k : Int) (c : am) : Bool :=
  if c.mark = 1 then v3 c.values fun a b d => decide (a.kind = 5) && (tF m.store.classes 1 a.number && (sL m b 1 && sL m d 0))
  else if c.mark = 2 then v1 c.values fun a => sL m a 0
  else if c.mark = 3 then v1 c.values fun a => decide (a.kind = 6) && doB m k c.other
  else if c.mark = 4 then decide (c.values.length = 1)
  else if c.mark = 5 then inR c.other (-1) (k - 1) && (decide (c.values.length = 1) && (!c.retry || doB m k c.other))
  else false
def eqV (x y : ae) : Bool := decide (x.kind = y.kind) && (decide (x.number = y.number) && (decide (x.text = y.text) && true))
def shB (c : am) : Bool := decide (c.code = 0) && (decide (c.pc = 0) && (decide (c.outer = -1) && (decide (c.home = -1) && (eqV c.self ⟨0, 0, ⟨#[]⟩⟩ && (decide (c.slots.length = 0) && (decide (c.stack.length = 0) && (!c.retry || decide (c.mark = 5))))))))
def abL (c : am) : Bool := decide (c.mark = 3) || (decide (c.mark = 5) || decide (c.other = 0))
def ac7 (m : ak) (o : List Int) (k : Int) (c : am) (x : ay) : Bool :=
  if x.block = true then inR c.outer 0 (k - 1) && (match cxA m c.outer with | some p => decide (p.mark = 0) && (decide (p.code = gd o c.code) && (decide (c.home = p.home) && eqV c.self p.self)) | none => false)
  else decide (c.outer = -1) && decide (c.home = k)
def plB (m : ak) (o : List Int) (k : Int) (c : am) : Bool :=
  decide (c.values.length = 0) && (decide (c.other = 0) && (!c.retry && (inR c.code 0 ((m.base.codes.length : Int) - 1) && (match cdA m c.code with | some x => decide ((c.slots.length : Int) = x.slots) && (inR c.pc 0 x.instrs.length && (decide (c.stack.length ≤ 250) && ac7 m o k c x)) | none => false))))
def tj (m : ak) (v : ae) : Prop := ck m.store m.blocks.length v = true
def nB (m : ak) (l : List ae) : Bool := l.all (ck m.store m.blocks.length)
theorem uO {m : ak} {l : List ae} (h : nB m l = true) : ∀ v ∈ l, tj m v := fun v hv => List.all_eq_true.1 h v hv
noncomputable def pe (m : ak) (o : List Int) (k : Int) (c : am) : Bool :=
  inR c.sender (-1) (k - 1) && (ck m.store m.blocks.length c.self && (nB m c.slots && (nB m c.stack && (nB m c.values && (if c.mark = 0 then plB m o k c else shB c && (aaB m k c && abL c))))))
def ja (m : ak) (o : List Int) (b : ap) : Bool :=
  inR b.code 0 ((m.base.codes.length : Int) - 1) && ((match cdA m b.code with | some x => x.block | none => false) && (inR b.outer 0 ((m.contexts.length : Int) - 1) && (match cxA m b.outer with | some c => decide (c.mark = 0) && (decide (c.code = gd o b.code) && (decide (b.home = c.home) && eqV b.self c.self)) | none => false)))
def abk (m : ak) (o : List Int) : Prop := (∀ (i : Nat) (h : i < m.contexts.length), pe m o i m.contexts[i] = true) ∧ ∀ b ∈ m.blocks, ja m o b = true
theorem ox {m : ak} {o : List Int} {k : Int} {c : am} (h : pe m o k c = true) : (-1 ≤ c.sender ∧ c.sender ≤ k - 1) ∧ tj m c.self ∧ nB m c.slots = true ∧ nB m c.stack = true ∧ nB m c.values = true ∧ (if c.mark = 0 then plB m o k c else shB c && (aaB m k c && abL c)) = true := by
  unfold pe at h
  simp only [Bool.and_eq_true] at h
  obtain ⟨h1, h2, h3, h4, h5, h6⟩ := h
  exact ⟨of_decide_eq_true h1, h2, h3, h4, h5, h6⟩
theorem nu {m : ak} {o : List Int} (h : ∀ (i : Nat) (h : i < m.contexts.length), pe m o i m.contexts[i] = true) : fz m := fun i hi => by
  have := (ox (h i hi)).1
  omega
theorem sf {m : ak} {o : List Int} {k : Int} {c : am} (h : pe m o k c = true) (h0 : c.mark = 0) : ∃ x, cdA m c.code = some x ∧ (0 ≤ c.code ∧ c.code < m.base.codes.length) ∧ (0 ≤ c.pc ∧ c.pc ≤ x.instrs.length) ∧ c.stack.length ≤ 250 := by
  have h1 := (ox h).2.2.2.2.2
  rw [if_pos h0] at h1
  unfold plB at h1
  simp only [Bool.and_eq_true] at h1
  obtain ⟨_, _, _, h4, h5⟩ := h1
  have h4 := of_decide_eq_true h4
  cases hx : cdA m c.code with
  | none => rw [hx] at h5; cases h5
  | some x =>
    rw [hx] at h5
    simp only [Bool.and_eq_true] at h5
    obtain ⟨_, h6, h7, _⟩ := h5
    exact ⟨x, rfl, by omega, of_decide_eq_true h6, of_decide_eq_true h7⟩
set_option maxRecDepth 20000
set_option maxHeartbeats 2000000
set_option maxRecDepth 20000
set_option maxHeartbeats 2000000
section
variable {P : Program} {w0 : World} {N : Nat} {Q : Exit → Act → World → Prop} {env : Env} {objs : aI}
end
set_option maxRecDepth 20000
set_option maxHeartbeats 2000000
section
variable {G : World → Prop}
end
end Go.Proofs.YtiihihgjiklnoaaGreatDoor
