/- Part 21 of the proof: the texts IvQ, IvR, IvT, IvM, IvJ. -/
import Derived.Test.YtiihihgjiklnoaaGreatDoorQb18
import Derived.Test.YtiihihgjiklnoaaGreatDoorQb17
import Derived.Test.YtiihihgjiklnoaaGreatDoorQb10
import Derived.Test.YtiihihgjiklnoaaGreatDoorQb4
import Derived.Test.YtiihihgjiklnoaaGreatDoorQb7
/- IsVerified: what both sides compute of the entries, the blocks' codes and the instructions (no program in sight). -/
namespace Go.Proofs.YtiihihgjiklnoaaGreatDoor
open Go Go.RowKit
def pS (cs : List ay) (k n : Int) : Prop := ∃ x, cs[k.toNat]? = some x ∧ x.block = false ∧ x.params = n
theorem f4 {cs : List ay} {k n : Int} {j : Nat} {x : ay} (hk : k = j) (hx : cs[j]? = some x) : pS cs k n ↔ x.block = false ∧ x.params = n := by
  unfold pS
  subst hk
  rw [Int.toNat_natCast, hx]
  constructor
  · rintro ⟨y, hy, h⟩; cases hy; exact h
  · exact fun h => ⟨x, rfl, h⟩
def eu (nc : Nat) (cs : List ay) (e : aw) : Prop :=
  (cw e.selector.data.toList = true ∧ inR e.owner 16 ((nc : Int) - 1) = true ∧ inR e.code 0 ((cs.length : Int) - 1) = true) ∧ pS cs e.code (bT e.selector.data.toList)
def dU (e f : aw) : Prop := f.owner = e.owner ∧ f.class_ = e.class_ ∧ f.selector = e.selector
def dt (es : List aw) (i : Nat) (e : aw) : Prop := ∀ f ∈ es.take i, ¬ dU e f
def l6 (nc : Nat) (cs : List ay) (es : List aw) : Prop := ∀ (i : Nat) (h : i < es.length), eu nc cs es[i] ∧ dt es i es[i]
open Classical in
noncomputable def eV (nc : Nat) (cs : List ay) (es : List aw) : Bool := decide (l6 nc cs es ∧ es.length ≤ 96)
theorem ta {nc : Nat} {cs : List ay} {es : List aw} {i : Nat} (h : i < es.length) (hb : ¬ (eu nc cs es[i] ∧ dt es i es[i])) : ¬ l6 nc cs es := fun k => hb (k i h)
theorem rS {nc : Nat} {cs : List ay} {es : List aw} (h : ∀ j, j < es.length → ∀ h : j < es.length, eu nc cs es[j] ∧ dt es j es[j]) : l6 nc cs es := fun i hi => h i hi hi

open Classical in
theorem k8 {nc : Nat} {cs : List ay} {es : List aw} {i : Nat} (h : i < es.length) (hb : ¬ (eu nc cs es[i] ∧ dt es i es[i])) : eV nc cs es = false := decide_eq_false fun k => ta h hb k.1
open Classical in
theorem ke {nc : Nat} {cs : List ay} {es : List aw} (h : ∀ j, j < es.length → ∀ h : j < es.length, eu nc cs es[j] ∧ dt es j es[j]) : eV nc cs es = decide ((es.length : Int) ≤ 96) := by
  unfold eV
  rw [decide_eq_decide]
  exact ⟨fun h => by omega, fun k => ⟨rS h, by omega⟩⟩
open Classical in
theorem pC {nc : Nat} {cs : List ay} {es : List aw} (h : ¬ es.length ≤ 96) : eV nc cs es = false := decide_eq_false fun k => h k.2
def ze (i : Nat) (x : ag) (o : List Int) : Option (List Int) :=
  if x.op = 15 then (if (0 ≤ x.a ∧ x.a ≤ (i : Int) - 1) ∧ ¬ 0 ≤ gd o x.a then some (o.set x.a.toNat i) else none) else some o
def lc (i : Nat) : List ag → List Int → Option (List Int)
  | [], o => some o
  | x :: r, o => match ze i x o with
    | none => none
    | some o' => lc i r o'
def rg : Nat → List ay → List Int → Option (List Int)
  | _, [], o => some o
  | i, x :: r, o => match lc i x.instrs o with
    | none => none
    | some o' => rg (i + 1) r o'
def qN (cs : List ay) (o : List Int) : Prop := ∀ (i : Nat) (h : i < cs.length), cs[i].block = decide (0 ≤ gd o (i : Int))
open Classical in
noncomputable def fU (cs : List ay) : Option (List Int) → Option (List Int)
  | none => none
  | some o => if qN cs o then some o else none
noncomputable def fq (cs : List ay) (i : Nat) (r : List ag) (o : List Int) : Option (List Int) := fU cs (match lc i r o with
    | none => none
    | some o' => rg (i + 1) (cs.drop (i + 1)) o')
noncomputable def fj (cs : List ay) (i : Nat) (o : List Int) : Option (List Int) := fU cs (rg i (cs.drop i) o)
noncomputable def ew (cs : List ay) : Option (List Int) := fj cs 0 (List.replicate cs.length (-1))
theorem kO {cs : List ay} {i : Nat} (h : i < cs.length) (o : List Int) : fj cs i o = fq cs i cs[i].instrs o := by
  unfold fj fq
  rw [List.drop_eq_getElem_cons h]; rfl
theorem mY {cs : List ay} {i : Nat} (h : ¬ i < cs.length) (o : List Int) : fj cs i o = fU cs (some o) := by
  unfold fj
  rw [List.drop_of_length_le (by omega)]; rfl
theorem kY {cs : List ay} {i k : Nat} {is : List ag} (h : k < is.length) (o : List Int) : fq cs i (is.drop k) o = match ze i is[k] o with
    | none => none
    | some o' => fq cs i (is.drop (k + 1)) o' := by
  unfold fq
  rw [List.drop_eq_getElem_cons h]
  show fU cs (match (match ze i is[k] o with | none => none | some o' => lc i (is.drop (k + 1)) o') with | none => none | some o' => rg (i + 1) (cs.drop (i + 1)) o') = _
  cases ze i is[k] o <;> rfl
theorem mR {cs : List ay} {i k : Nat} {is : List ag} (h : ¬ k < is.length) (o : List Int) : fq cs i (is.drop k) o = fj cs (i + 1) o := by
  unfold fq fj
  rw [List.drop_of_length_le (by omega)]; rfl
theorem qS {o : List Int} {a b : Nat} {v : Int} (h : a ≠ b) : gd (o.set a v) (b : Int) = gd o (b : Int) := by
  simp [gd, h]
theorem j5 {o : List Int} {a : Nat} {v : Int} (h : a < o.length) : gd (o.set a v) (a : Int) = v := by
  simp [gd, h]
def cC (n : Nat) (o : List Int) : Prop := o.length = n ∧ ∀ j : Nat, j < n → gd o j = -1 ∨ ((j : Int) < gd o j ∧ gd o j < n)
theorem gu (n : Nat) : cC n (List.replicate n (-1)) := ⟨by simp, fun j hj => .inl (by simp [gd, hj])⟩
theorem lT {n i : Nat} {x : ag} {o o' : List Int} (hi : i < n) (h : ze i x o = some o') (ho : cC n o) : cC n o' ∧ ∀ j : Nat, 0 ≤ gd o j → 0 ≤ gd o' j := by
  unfold ze at h
  split at h
  · split at h
    · rename_i h1
      cases h
      obtain ⟨a, ha⟩ : ∃ a : Nat, x.a = a := ⟨x.a.toNat, by omega⟩
      rw [ha] at h1 ⊢
      rw [Int.toNat_natCast]
      have hal : a < n := by omega
      refine ⟨⟨by simp [ho.1], fun j hj => ?_⟩, fun j hj => ?_⟩
      · by_cases hja : a = j
        · subst hja
          rw [j5 (by rw [ho.1]; exact hal)]
          exact .inr ⟨by omega, by omega⟩
        · rw [qS hja]; exact ho.2 j hj
      · by_cases hja : a = j
        · subst hja
          rw [j5 (by rw [ho.1]; exact hal)]; omega
        · rw [qS hja]; exact hj
    · cases h
  · cases h; exact ⟨ho, fun j hj => hj⟩
theorem fV {n i : Nat} (hi : i < n) : ∀ {r : List ag} {o o' : List Int}, lc i r o = some o' → cC n o → cC n o' ∧ ∀ j : Nat, 0 ≤ gd o j → 0 ≤ gd o' j
  | [], o, o', h, ho => by cases h; exact ⟨ho, fun _ hj => hj⟩
  | x :: r, o, o', h, ho => by
    unfold lc at h
    split at h
    · cases h
    · rename_i o1 h1
      obtain ⟨h2, h3⟩ := lT hi h1 ho
      obtain ⟨h4, h5⟩ := fV hi h h2
      exact ⟨h4, fun j hj => h5 j (h3 j hj)⟩
theorem jL {n : Nat} : ∀ {r : List ay} {i : Nat} {o o' : List Int}, i + r.length ≤ n → rg i r o = some o' → cC n o → cC n o' ∧ ∀ j : Nat, 0 ≤ gd o j → 0 ≤ gd o' j
  | [], i, o, o', _, h, ho => by cases h; exact ⟨ho, fun _ hj => hj⟩
  | x :: r, i, o, o', hn, h, ho => by
    unfold rg at h
    split at h
    · cases h
    · rename_i o1 h1
      simp only [List.length_cons] at hn
      obtain ⟨h2, h3⟩ := fV (by omega) h1 ho
      obtain ⟨h4, h5⟩ := jL (by omega) h h2
      exact ⟨h4, fun j hj => h5 j (h3 j hj)⟩
theorem jk {cs : List ay} {p : Option (List Int)} {o : List Int} (h : fU cs p = some o) : p = some o ∧ qN cs o := by
  cases p with
  | none => cases h
  | some o' =>
    by_cases hf : qN cs o'
    · have : fU cs (some o') = some o' := by unfold fU; exact if_pos hf
      rw [this] at h; cases h; exact ⟨rfl, hf⟩
    · have : fU cs (some o') = none := by unfold fU; exact if_neg hf
      rw [this] at h; cases h
theorem js {cs : List ay} {o : List Int} (h : ew cs = some o) : cC cs.length o ∧ qN cs o := by
  obtain ⟨h1, h2⟩ := jk h
  exact ⟨(jL (by simp) h1 (gu _)).1, h2⟩
theorem mb {cs : List ay} {i k : Nat} {is : List ag} {o : List Int} {a : Nat} (hi : i < cs.length) (ho : cC cs.length o) (ha : a < cs.length) (hb : cs[a].block = false) (hp : 0 ≤ gd o (a : Int)) : fq cs i (is.drop k) o = none := by
  cases h : fq cs i (is.drop k) o with
  | none => rfl
  | some o' =>
    exfalso
    obtain ⟨h1, h2⟩ := jk h
    split at h1
    · cases h1
    · rename_i o1 h3
      obtain ⟨h4, h5⟩ := fV hi h3 ho
      obtain ⟨h6, h7⟩ := jL (by simp; omega) h1 h4
      have h8 := h2 a ha
      rw [hb] at h8
      have h9 := h7 a (h5 a hp)
      rw [decide_eq_true h9] at h8
      cases h8
theorem n8 {cs : List ay} {o : List Int} {i : Nat} (h : i < cs.length) (hb : cs[i].block ≠ decide (0 ≤ gd o (i : Int))) : fU cs (some o) = none := by
  unfold fU
  exact if_neg fun k => hb (k i h)
theorem mE {cs : List ay} {o : List Int} (h : ∀ j, j < cs.length → ∀ h : j < cs.length, cs[j].block = decide (0 ≤ gd o (j : Int))) : fU cs (some o) = some o := by
  unfold fU
  exact if_pos fun i hi => h i hi hi

def fX (o : List Int) : Nat → Int → List Int
  | 0, _ => []
  | n + 1, k => if k < 0 then [] else k :: fX o n (gd o k)
def upN (o : List Int) : Nat → Int → Int
  | 0, k => k
  | n + 1, k => if k < 0 then k else upN o n (gd o k)
theorem pI (o : List Int) (n : Nat) {k : Int} (h : k < 0) : upN o n k = k := by
  cases n with
  | zero => rfl
  | succ n => unfold upN; rw [if_pos h]
theorem lN {o : List Int} (hinv : cC o.length o) : ∀ (n : Nat) (k : Int) (b : Nat), k = -1 ∨ (0 ≤ k ∧ k < o.length ∧ o.length ≤ n + k.toNat) → (fX o n k)[b]? = if 0 ≤ upN o b k then some (upN o b k) else none
  | 0, k, b, h => by
    obtain rfl : k = -1 := by omega
    rw [pI o b (by omega)]; rfl
  | n + 1, k, b, h => by
    rcases h with rfl | ⟨h0, h1, h2⟩
    · rw [pI o b (by omega)]; rfl
    · unfold fX
      rw [if_neg (by omega)]
      obtain ⟨j, rfl⟩ : ∃ j : Nat, k = j := ⟨k.toNat, by omega⟩
      cases b with
      | zero =>
        show some (j : Int) = _
        unfold upN
        rw [if_pos h0]
      | succ b =>
        show (fX o n (gd o j))[b]? = _
        have hj := hinv.2 j (by omega)
        rw [lN hinv n (gd o j) b (by rw [Int.toNat_natCast] at h2; omega)]
        have : upN o (b + 1) j = upN o b (gd o j) := by
          conv => lhs; unfold upN
          rw [if_neg (by omega)]
        rw [this]
theorem j4 (o : List Int) : ∀ (n : Nat) (k : Int), (fX o n k).length ≤ n
  | 0, _ => Nat.le_refl _
  | n + 1, k => by
    unfold fX
    split
    · simp
    · have := j4 o n (gd o k); simp; omega
theorem bL {lo : Nat} {cs : List ay} {j : Nat} (h : j < cs.length) : (cs.map (ay.tw lo))[j]? = some [.bool cs[j].block, .int .i64 cs[j].params, .int .i64 cs[j].slots, .sl lo 4 (cs[j].instrs.map (ag.tw lo))] := aH h
theorem iH {lo : Nat} {es : List aw} {j : Nat} (h : j < es.length) : (es.map (aw.tw lo))[j]? = some [.int .i64 es[j].owner, .bool es[j].class_, .str es[j].selector, .int .i64 es[j].code] := aH h
theorem iC {lo : Nat} {is : List ag} {j : Nat} (h : j < is.length) : (is.map (ag.tw lo))[j]? = some [.int .i64 is[j].op, .int .i64 is[j].a, .int .i64 is[j].b, .str is[j].text] := aH h
def ag.none : ag := ⟨0, 0, 0, ⟨#[]⟩⟩
def er (cs : List ay) (o : List Int) (k : Nat) (b : Int) : Option ay := if 0 ≤ b ∧ 0 ≤ upN o b.toNat k then cs[(upN o b.toNat k).toNat]? else none
def uz (cs : List ay) (o : List Int) (k : Nat) (x : ag) : Bool := match er cs o k x.b with
  | none => false
  | some y => inR x.a (if x.op = 9 then y.params else 0) (IntKind.i64.wrap (y.slots - 1))
def dY (x : ag) : Prop := inR x.op 1 26 = true ∧ (acR x.op = true ∨ x.a = 0) ∧ (acu x.op = true ∨ x.b = 0) ∧ (acN x.op = true ∨ x.text = ⟨#[]⟩)
instance (x : ag) : Decidable (dY x) := by unfold dY; infer_instance
def cH (cs : List ay) (nc : Nat) (o : List Int) (k : Nat) (own : ay) (x : ag) : Bool :=
  if x.op = 1 then inR x.a 0 999999999
  else if x.op = 2 then ni x.text
  else if x.op = 3 ∨ x.op = 13 then cw x.text.data.toList
  else if x.op = 8 ∨ x.op = 9 then uz cs o k x
  else if x.op = 10 ∨ x.op = 11 then cj x.text.data.toList
  else if x.op = 12 then inR x.a 0 ((nc : Int) - 1)
  else if x.op = 14 then cw x.text.data.toList && inR x.a 0 ((nc : Int) - 1)
  else if x.op = 20 then inR x.a 0 ((own.instrs.length : Int) - 1)
  else if x.op = 21 ∨ x.op = 22 then inR x.a 0 ((own.instrs.length : Int) - 1) && inR x.b 0 ((own.instrs.length : Int) - 1)
  else if x.op = 24 then inR x.b 0 ((own.instrs.length : Int) - 1)
  else if x.op = 25 ∨ x.op = 26 then inR x.a own.params (own.slots - 1) && inR x.b 0 ((own.instrs.length : Int) - 1)
  else true
def eF (cs : List ay) (nc : Nat) (o : List Int) (k : Nat) (own : ay) (x : ag) : Bool := decide (dY x) && cH cs nc o k own x
theorem xt {cs : List ay} {nc : Nat} {o : List Int} {k : Nat} {own : ay} {x : ag} (h : eF cs nc o k own x = true) : dv own.instrs.length x = true := by
  obtain ⟨op, a, b, t⟩ := x
  unfold eF at h
  rw [Bool.and_eq_true, decide_eq_true_eq] at h
  obtain ⟨h0, h2⟩ := h
  have h1 := h0.1
  clear h0
  unfold dv
  rw [qn, List.all_map]
  simp only [inR, decide_eq_true_eq] at h1
  unfold cH at h2
  dsimp only at h2 h1 ⊢
  have h3 : inR op 1 26 = true := t8 h1
  rw [h3, ← aab]
  simp only [cA]
  have hc : op = 1 ∨ op = 2 ∨ op = 3 ∨ op = 4 ∨ op = 5 ∨ op = 6 ∨ op = 7 ∨ op = 8 ∨ op = 9 ∨ op = 10 ∨ op = 11 ∨ op = 12 ∨ op = 13 ∨ op = 14 ∨ op = 15 ∨ op = 16 ∨ op = 17 ∨ op = 18 ∨ op = 19 ∨ op = 20 ∨ op = 21 ∨ op = 22 ∨ op = 23 ∨ op = 24 ∨ op = 25 ∨ op = 26 := by omega
  clear h1 h3
  rcases hc with rfl | rfl | rfl | rfl | rfl | rfl | rfl | rfl | rfl | rfl | rfl | rfl | rfl | rfl | rfl | rfl | rfl | rfl | rfl | rfl | rfl | rfl | rfl | rfl | rfl | rfl
  all_goals first
    | rfl
    | (simp at h2; simp [h2, oI]; done)
    | (simp at h2; simp [h2.1, h2.2, oI]; done)
theorem oV {cs : List ay} {nc : Nat} {o : List Int} {k : Nat} {own : ay} (h : ∀ y ∈ own.instrs, eF cs nc o k own y = true) : jm own.instrs = true := by
  unfold jm
  rw [List.all_eq_true]
  exact fun x hx => xt (h x hx)
def ix (cs : List ay) (i : Nat) (x : ag) : Prop := x.op = 15 → (0 ≤ x.a ∧ x.a ≤ (i : Int) - 1) ∧ ∃ y, cs[x.a.toNat]? = some y ∧ y.block = true
theorem o7 {n i : Nat} (hi : i < n) : ∀ {r : List ag} {o o' : List Int}, lc i r o = some o' → cC n o → ∀ x ∈ r, x.op = 15 → (0 ≤ x.a ∧ x.a ≤ (i : Int) - 1) ∧ 0 ≤ gd o' x.a
  | [], o, o', h, ho, x, hx, _ => by cases hx
  | y :: r, o, o', h, ho, x, hx, h15 => by
    unfold lc at h
    split at h
    · cases h
    · rename_i o1 h1
      obtain ⟨h2, h3⟩ := lT hi h1 ho
      rcases List.mem_cons.1 hx with rfl | hx
      · unfold ze at h1
        rw [if_pos h15] at h1
        split at h1
        · rename_i h4
          cases h1
          refine ⟨h4.1, ?_⟩
          obtain ⟨a, ha⟩ : ∃ a : Nat, x.a = a := ⟨x.a.toNat, by omega⟩
          have h5 := (fV hi h h2).2 a
          rw [ha] at h5 ⊢
          refine h5 ?_
          rw [Int.toNat_natCast, j5 (by rw [ho.1]; omega)]
          omega
        · cases h1
      · exact o7 hi h h2 x hx h15
theorem rU {n : Nat} : ∀ {r : List ay} {i : Nat} {o o' : List Int}, i + r.length ≤ n → rg i r o = some o' → cC n o → ∀ (j : Nat) (c : ay), r[j]? = some c → ∀ x ∈ c.instrs, x.op = 15 → (0 ≤ x.a ∧ x.a ≤ ((i + j : Nat) : Int) - 1) ∧ 0 ≤ gd o' x.a
  | [], i, o, o', _, h, ho, j, c, hc, x, hx, _ => by simp at hc
  | y :: r, i, o, o', hn, h, ho, j, c, hc, x, hx, h15 => by
    unfold rg at h
    split at h
    · cases h
    · rename_i o1 h1
      simp only [List.length_cons] at hn
      obtain ⟨h2, h3⟩ := fV (by omega) h1 ho
      cases j with
      | zero =>
        simp at hc; subst hc
        obtain ⟨h4, h5⟩ := o7 (by omega) h1 ho x hx h15
        refine ⟨h4, ?_⟩
        have h6 := (jL (by omega) h h2).2 x.a.toNat
        rw [Int.toNat_of_nonneg h4.1] at h6
        exact h6 h5
      | succ j =>
        have := rU (by omega) h h2 j c (by simpa using hc) x hx h15
        rw [show i + 1 + j = i + (j + 1) by omega] at this
        exact this
theorem qd {cs : List ay} {o : List Int} (h : ew cs = some o) {i : Nat} {c : ay} (hc : cs[i]? = some c) : ∀ x ∈ c.instrs, ix cs i x := fun x hx h15 => by
  obtain ⟨h1, h2⟩ := jk h
  have hi : i < cs.length := (List.getElem?_eq_some_iff.1 hc).1
  obtain ⟨h3, h4⟩ := rU (by simp) h1 (gu _) i c (by simpa using hc) x hx h15
  rw [Nat.zero_add] at h3
  refine ⟨h3, ?_⟩
  obtain ⟨a, ha⟩ : ∃ a : Nat, x.a = a := ⟨x.a.toNat, by omega⟩
  rw [ha] at h3 h4 ⊢
  rw [Int.toNat_natCast]
  have hal : a < cs.length := by omega
  refine ⟨cs[a], List.getElem?_eq_getElem hal, ?_⟩
  rw [h2 a hal]
  exact decide_eq_true h4
def qD (x : ay) : Prop := inR x.slots 0 30 = true ∧ inR x.params 0 x.slots = true ∧ x.instrs.length ≤ 900
def fF (cs : List ay) (nc : Nat) (o : List Int) (k : Nat) (x : ay) : Prop := qD x ∧ (∀ y ∈ x.instrs, eF cs nc o k x y = true) ∧ (bR x.instrs).isSome = true
open Classical in
noncomputable def wD (cs : List ay) (nc : Nat) (o : List Int) (k : Nat) (x : ay) : Bool := decide (fF cs nc o k x)
def qJ (cs : List ay) (nc : Nat) (o : List Int) : Prop := ∀ (k : Nat) (h : k < cs.length), fF cs nc o k cs[k]
def uk (cs : List ay) (nc : Nat) : Prop := ∃ o, ew cs = some o ∧ qJ cs nc o
def yu (x : aA) : Prop := inR x.main 0 ((x.codes.length : Int) - 1) = true ∧ pS x.codes x.main 0
def eb (x : aA) : Prop := bP x.classes = true ∧ x.codes.length ≤ 200 ∧ yu x ∧ eV x.classes.length x.codes x.entries = true ∧ uk x.codes x.classes.length
open Classical in
noncomputable def cV (x : aA) : Bool := decide (eb x)
open Classical in
theorem oz {x : aA} (h : ¬ eb x) : cV x = false := decide_eq_false h
open Classical in
theorem oM {x : aA} (h : eb x) : cV x = true := decide_eq_true h
open Classical in
theorem xF {cs : List ay} {nc : Nat} {o : List Int} {k : Nat} {x : ay} (h : ¬ fF cs nc o k x) : wD cs nc o k x = false := decide_eq_false h
open Classical in
theorem yW {cs : List ay} {nc : Nat} {o : List Int} {k : Nat} {x : ay} (h : fF cs nc o k x) : wD cs nc o k x = true := decide_eq_true h
theorem eN {o : List Int} {j : Nat} (h : j < o.length) : (aO o)[j]? = some [.int .i64 (gd o (j : Int))] := by
  simp [aO, gd, h]
theorem iJ (o : List Int) : ∀ (n : Nat) (k : Int), upN o (n + 1) k = if upN o n k < 0 then upN o n k else gd o (upN o n k)
  | 0, k => rfl
  | n + 1, k => by
    by_cases h : k < 0
    · rw [pI o _ h, pI o _ h, if_pos h]
    · have h1 : upN o (n + 1 + 1) k = upN o (n + 1) (gd o k) := by conv => lhs; unfold upN
                                                                   rw [if_neg h]
      have h2 : upN o (n + 1) k = upN o n (gd o k) := by conv => lhs; unfold upN
                                                         rw [if_neg h]
      rw [h1, h2]
      exact iJ o n (gd o k)
theorem r9 {o : List Int} (hinv : cC o.length o) : ∀ (n : Nat) (k : Int), k = -1 ∨ (0 ≤ k ∧ k < o.length) → upN o n k = -1 ∨ (0 ≤ upN o n k ∧ upN o n k < o.length)
  | 0, k, h => h
  | n + 1, k, h => by
    rw [iJ]
    have := r9 hinv n k h
    split
    · exact this
    · obtain ⟨j, hj⟩ : ∃ j : Nat, upN o n k = j := ⟨(upN o n k).toNat, by omega⟩
      rw [hj] at this ⊢
      have := hinv.2 j (by omega)
      omega
theorem aaQ {o : List Int} (hinv : cC o.length o) {k : Int} (hk : 0 ≤ k ∧ k < o.length) : ∀ n : Nat, 0 ≤ upN o n k → (n : Int) ≤ upN o n k
  | 0, h => h
  | n + 1, h => by
    rw [iJ] at h ⊢
    have hin := r9 hinv n k (.inr hk)
    split
    · rename_i h1; rw [if_pos h1] at h; omega
    · rename_i h1
      rw [if_neg h1] at h
      have ih := aaQ hinv hk n (by omega)
      obtain ⟨j, hj⟩ : ∃ j : Nat, upN o n k = j := ⟨(upN o n k).toNat, by omega⟩
      rw [hj] at h hin ih ⊢
      have := hinv.2 j (by omega)
      omega
theorem qU {o : List Int} {k : Int} {n : Nat} (h : upN o n k < 0) : ∀ m, n ≤ m → upN o m k = upN o n k
  | 0, hm => by obtain rfl : n = 0 := by omega
                rfl
  | m + 1, hm => by
    by_cases he : n = m + 1
    · rw [he]
    · have := qU h m (by omega)
      rw [iJ, this, if_pos h]
theorem sH {cs : List ay} {o : List Int} {k : Nat} {b : Int} (h : b < 0) : er cs o k b = none := by
  unfold er
  exact if_neg (by omega)
theorem sc {cs : List ay} {o : List Int} {k n : Nat} {b : Int} (h : upN o n k < 0) (hn : (n : Int) ≤ b) : er cs o k b = none := by
  unfold er
  rw [qU h b.toNat (by omega)]
  exact if_neg (by omega)
theorem vI {cs : List ay} {o : List Int} {k j : Nat} {b : Int} {y : ay} (hb : 0 ≤ b) (h : upN o b.toNat k = j) (hj : cs[j]? = some y) : er cs o k b = some y := by
  unfold er
  rw [h, if_pos ⟨hb, by omega⟩, Int.toNat_natCast, hj]
theorem w9 {cs : List ay} {o : List Int} {k : Nat} (hinv : cC cs.length o) (hk : k < cs.length) {b : Int} {L : List Int} (hL : L = (fX o cs.length k).reverse) (h : 0 ≤ b ∧ b ≤ (L.length : Int) - 1) :
    ∃ (q v : Nat) (y : ay), (L.length : Int) - 1 - b = q ∧ (aO L)[q]? = some [.int .i64 (v : Int)] ∧ cs[v]? = some y ∧ er cs o k b = some y := by
  obtain ⟨c, rfl⟩ : ∃ c : Nat, b = c := ⟨b.toNat, by omega⟩
  have hl : o.length = cs.length := hinv.1
  have hinv' : cC o.length o := by rw [hl]; exact hinv
  have hcl : L.length = (fX o cs.length k).length := by rw [hL, List.length_reverse]
  have hcu := lN hinv' cs.length (k : Int) c (.inr ⟨by omega, by omega, by rw [hl]; omega⟩)
  have hc : c < (fX o cs.length k).length := by omega
  rw [List.getElem?_eq_getElem hc] at hcu
  split at hcu
  · rename_i h0
    have hin := r9 hinv' c k (.inr ⟨by omega, by omega⟩)
    obtain ⟨v, hv⟩ : ∃ v : Nat, upN o c k = v := ⟨(upN o c k).toNat, by omega⟩
    rw [hv] at hin hcu
    have hvl : v < cs.length := by omega
    refine ⟨L.length - 1 - c, v, cs[v], by omega, ?_, List.getElem?_eq_getElem hvl, vI (by omega) (by rw [Int.toNat_natCast]; exact hv) (List.getElem?_eq_getElem hvl)⟩
    have hg : L[L.length - 1 - c]? = some (v : Int) := by
      rw [hL, List.getElem?_reverse (by rw [List.length_reverse]; omega), List.length_reverse]
      rw [show (fX o cs.length k).length - 1 - ((fX o cs.length k).length - 1 - c) = c by omega, List.getElem?_eq_getElem hc]
      exact hcu
    simp only [aO, List.getElem?_map, hg]; rfl
  · cases hcu
theorem nN {cs : List ay} {o : List Int} {k : Nat} (hinv : cC cs.length o) (hk : k < cs.length) {b : Int} {L : List Int} (hL : L = (fX o cs.length k).reverse) (h : ¬ (0 ≤ b ∧ b ≤ (L.length : Int) - 1)) : er cs o k b = none := by
  by_cases h0 : b < 0
  · exact sH h0
  obtain ⟨c, rfl⟩ : ∃ c : Nat, b = c := ⟨b.toNat, by omega⟩
  have hl : o.length = cs.length := hinv.1
  have hinv' : cC o.length o := by rw [hl]; exact hinv
  have hcl : L.length = (fX o cs.length k).length := by rw [hL, List.length_reverse]
  have hcu := lN hinv' cs.length (k : Int) c (.inr ⟨by omega, by omega, by rw [hl]; omega⟩)
  rw [List.getElem?_eq_none (by omega)] at hcu
  split at hcu
  · cases hcu
  · rename_i h1
    unfold er
    rw [Int.toNat_natCast]
    exact if_neg fun h => h1 h.2
def GL (w : World) : Prop := qP w
theorem df : az GL := ⟨fun _ _ h hb => qP.below h hb⟩
theorem adA (s : ByteArray) (hs : s.size ≤ 1048576) : Ct Tryz.prog GL 204 [.str s] (fun _ => .int .i64 (bT s.data.toList)) := ol fun w _ => kv s w hs
theorem ac2 (s : ByteArray) (hs : s.size ≤ 1048576) : Ct Tryz.prog GL 203 [.str s] (fun _ => .bool (cw s.data.toList)) := gy fun w _ => dT s w hs
theorem adh (s : ByteArray) (hs : s.size ≤ 1048576) : Ct Tryz.prog GL 136 [.str s] (fun _ => .int .i64 (bT s.data.toList)) := ol fun w hG => qI s w hs hG
theorem ac0 (s : ByteArray) (hs : s.size ≤ 1048576) : Ct Tryz.prog GL 135 [.str s] (fun _ => .bool (cw s.data.toList)) := gy fun w hG => nL s w hs hG
theorem xJ (r : Option (List Int)) : ∀ y : Nat × Nat, True → (∀ s b o, (s, b, o) ∈ dO r y → fS (dO r y) o) ∧ gx (dO r y) (dR r y) := fun y _ =>
  ⟨fun s b o h => by
    simp only [dO, List.mem_singleton, Prod.mk.injEq] at h
    obtain ⟨_, _, rfl⟩ := h
    exact lP (j2 _), .tup _ fun t ht => by
    simp only [List.mem_cons, List.not_mem_nil, or_false] at ht
    rcases ht with rfl | rfl
    · exact .ms _ _ _ _ _ _ List.mem_cons_self
    · exact .flat _ rfl⟩
theorem kb (lo : Nat) (is : List ag) : dQ is = is.map (ag.tw lo) := rfl
set_option maxRecDepth 20000
section
variable {G : World → Prop}
set_option maxRecDepth 8000 in
set_option maxHeartbeats 8000000 in
theorem tZ (hst : az G) (hse : ∀ s : ByteArray, s.size ≤ 1048576 → Ct Tryz.prog G 203 [.str s] (fun _ => .bool (cw s.data.toList)))
    (f lo lo2 : Nat) (cl : List aa) (cen : TV) (cs : List ay) (mn : Int) (hcl : cl.length ≤ 1048576) (hcs : cs.length ≤ 1048576 ∧ ∀ y ∈ cs, ay.small 1048576 y) (o : List Int) (hinv : cC cs.length o) (k : Nat) (own : ay) (hk : cs[k]? = some own) (hsl : 0 ≤ own.slots ∧ own.slots ≤ 30)
    (L : List Int) (hL : L = (fX o cs.length k).reverse) (x : ag) (hx : x.text.size ≤ 1048576) (hbf : ix cs k x) :
    Ct Tryz.prog G 205 [.cp f [.sl lo 3 (cl.map (aa.tw lo)), .sl lo 4 (cs.map (ay.tw lo)), cen, .int .i64 mn], .int .i64 (k : Int), .agg [.int .i64 x.op, .int .i64 x.a, .int .i64 x.b, .str x.text], .sl lo2 1 (aO L)] (fun _ => .bool (eF cs cl.length o k own x)) := by
  obtain ⟨op, a, b, t⟩ := x
  dsimp only at hx ⊢
  refine ao Tryz.func205 rfl Tryz.ntmps205 rfl rfl fun w0 _ hG => ?_
  have hl1 := aa.len lo cl
  have hl2 := ay.len lo cs
  have hll := aq L
  have hLn : L.length ≤ 1048576 := by rw [hL, List.length_reverse]; exact Nat.le_trans (j4 _ _ _) hcs.1
  have hkl : k < cs.length := (List.getElem?_eq_some_iff.1 hk).1
  have hrk : (cs.map (ay.tw lo))[k]? = some [.bool own.block, .int .i64 own.params, .int .i64 own.slots, .sl lo 4 (own.instrs.map (ag.tw lo))] := by rw [List.getElem?_map, hk]; rfl
  have hil := ag.len lo own.instrs
  have hin : own.instrs.length ≤ 1048576 := (hcs.2 own (List.mem_of_getElem? hk)).1
  repeat' (first | refine H_ 3 ?_ | refine aE ?_ | (refine ai ?_; intro ss bb) | refine ad ?_ | refine ab hG hst (wP _) ?_ | refine c_ (fun hc => ?_) (fun hc => ?_) | refine g_ (fun hg => ?_) (fun hg => ?_))
  refine ⟨cE ?_⟩
  generalize ss = s9; generalize bb = b9
  apply fc (X := Unit) [0, 1, 3, 6, 9] (fun _ => [(60, .bool (!decide (dY ⟨op, a, b, t⟩)))]) (fun _ => [(s9, b9, .box [.bool own.block, .int .i64 own.params, .int .i64 own.slots, .sl lo 4 (own.instrs.map (ag.tw lo))])]) (fun _ => True)
  case hk => (repeat (first | exact iO.nil | (apply iO.cons; rfl)))
  · clear hrk hk hL hbf hinv hse hl1 hl2 hll hLn hin hil
    repeat' (first | refine W_ ?_ | refine ab hG hst (a7 _ _ _) ?_ | refine c_ (fun hc => ?_) (fun hc => ?_) | refine g_ (fun hg => ?_) (fun hg => ?_))
    all_goals
      refine dN () trivial (.of _ (dw.envCons (i8 rfl ?_) dw.envNil) od_ pk_)
      simp only [Bool.not_eq_true', Bool.not_eq_false', ne_eq, Decidable.not_not] at *
      first
        | (simp [dY, *]; done)
  intro _ _
  by_cases hh : dY ⟨op, a, b, t⟩
  case neg =>
    have hB : eF cs cl.length o k own ⟨op, a, b, t⟩ = false := by unfold eF; rw [decide_eq_false hh]; rfl
    rw [hB, decide_eq_false hh, Bool.not_false]
    repeat' (first | refine W_ ?_ | refine c_ (fun hc => ?_) (fun hc => ?_) | refine g_ (fun hg => ?_) (fun hg => ?_))
    exact r1_
  have hB : eF cs cl.length o k own ⟨op, a, b, t⟩ = cH cs cl.length o k own ⟨op, a, b, t⟩ := by unfold eF; rw [decide_eq_true hh]; rfl
  rw [hB, decide_eq_true hh, Bool.not_true]
  have hlabt : (!inR b 0 ((L.length : Int) - 1)) = false → (0 ≤ b ∧ b ≤ (L.length : Int) - 1) ∧ ∃ (q v : Nat) (y : ay), (L.length : Int) - 1 - b = q ∧ (aO L)[q]? = some [.int .i64 (v : Int)] ∧ cs[v]? = some y ∧ er cs o k b = some y := fun h => by
    have h2 : 0 ≤ b ∧ b ≤ (L.length : Int) - 1 := by simpa [inR] using h
    exact ⟨h2, w9 hinv hkl hL h2⟩
  have hlabf : (!inR b 0 ((L.length : Int) - 1)) = true → uz cs o k ⟨op, a, b, t⟩ = false := fun h => by
    have h2 : ¬ (0 ≤ b ∧ b ≤ (L.length : Int) - 1) := by
      intro h3
      rw [t8 h3] at h; cases h
    unfold uz
    dsimp only
    rw [nN hinv hkl hL h2]
  unfold ix at hbf
  dsimp only at hbf
  clear hB hinv hL hk
  repeat' (first | ((with_reducible apply o_y); exact y_; rfl) | with_reducible refine f8 (by kernel_rfl) (by kernel_rfl) ?_ | with_reducible refine kf ?_ | with_reducible refine gA ?_ | with_reducible refine gB rfl ?_ | refine jM rfl rfl rfl rr_ ?_ | refine gz rfl rfl rfl rr_ rfl rfl rfl ?_ | refine eW rfl rfl rfl rr_ rfl rfl ?_ | (refine pO rfl rfl rfl rr_ dd_ ?_) | (refine qx rfl rfl rfl rr_ dd_ ?_) | (refine eG rfl rfl rfl rr_ (fun hg => ?_) (fun hg => ?_)) | (refine et rfl rfl rfl rr_ (fun hg => ?_) (fun hg => ?_)) | ((with_reducible apply d_y); exact y_; rfl) | refine ab hG hst (a7 _ _ _) ?_ | refine ab hG hst (t6 _ hx) ?_ | refine ab hG hst (hse _ hx) ?_ | refine ab hG hst (gf hst _ hx) ?_ | refine ac hG hst (a7 _ _ _) ?_ | refine ac hG hst (hse _ hx) ?_ | with_reducible refine ru (id := 18) ?_ | with_reducible refine ru (id := 31) ?_  | with_reducible refine ch rfl ?_ | (with_reducible first | apply cE | apply bJ | apply dX | apply cO | apply bV | apply cS | apply cU | apply ea | apply aY | apply (aR rfl) | apply aZ | apply ba | apply aX | apply bZ) | refine ff rfl rfl rfl rr_ ?_ | refine dH rfl rfl rfl rr_ rfl rfl rfl ?_ | refine cT rfl rfl rfl rr_ rfl rfl ?_ | (refine jo rfl rfl rfl rr_ dd_ ?_) | (refine jd rfl rfl rfl rr_ dd_ ?_) | (refine dy rfl rfl rfl rr_ (fun hg => ?_) (fun hg => ?_)) | (refine dn rfl rfl rfl rr_ (fun hg => ?_) (fun hg => ?_)) | refine bM rfl rr_ ?_ | refine bN rfl rr_ ?_ | (refine bw rfl rr_ dd_ ?_) | (refine bz rfl rr_ dd_ ?_) | (refine ee rfl rr_ (fun hc => ?_) (fun hc => ?_)) | (refine cW rfl rr_ (fun hc => ?_) (fun hc => ?_)))
  all_goals first
    | (refine aB x_ rfl (.tmp _ _ rfl) (fun _ => ?_)
       clear hlabt hrk hbf hl1 hl2 hll hil hcs hse hh
       refine aJ ?_
       first
         | (simp [cH, *]; done)
         | (have hv := hlabf (by assumption)
            clear hlabf
            subst_vars
            simp [cH, hv]; done))
    | (refine ⟨?_⟩
       have h15 : op = 15 := by assumption
       obtain ⟨ha, y, hy, hyb⟩ := hbf h15
       obtain ⟨c, rfl⟩ : ∃ c : Nat, a = c := ⟨a.toNat, by omega⟩
       rw [Int.toNat_natCast] at hy
       have hry : (cs.map (ay.tw lo))[c]? = some [.bool true, .int .i64 y.params, .int .i64 y.slots, .sl lo 4 (y.instrs.map (ag.tw lo))] := by rw [List.getElem?_map, hy, ← hyb]; rfl
       have cin := a7 (G := G) (c : Int) 0 ((k - 1 : Nat) : Int)
       rw [t8 (by omega)] at cin
       repeat' (first | refine V_ ?_ | refine ac hG hst (cin) ?_ | refine c_ (fun hc => ?_) (fun hc => ?_) | refine g_ (fun hg => ?_) (fun hg => ?_))
       refine aB x_ rfl (.tmp _ _ rfl) (fun _ => ?_)
       refine aJ ?_
       simp [cH, h15]; done)
    | (refine ⟨?_⟩
       obtain ⟨hb, q, v, y, hq, hrow, hy, hlev⟩ := hlabt (by assumption)
       obtain ⟨c, rfl⟩ : ∃ c : Nat, b = c := ⟨b.toNat, by omega⟩
       obtain rfl : q = L.length - 1 - c := by omega
       have hry : (cs.map (ay.tw lo))[v]? = some [.bool y.block, .int .i64 y.params, .int .i64 y.slots, .sl lo 4 (y.instrs.map (ag.tw lo))] := by rw [List.getElem?_map, hy]; rfl
       clear hlabt hlabf hbf hq
       repeat' (first | refine W_ ?_ | ((with_reducible apply vm (id := 18) 15); kernel_rfl; kernel_rfl; kernel_rfl; (repeat (first | exact Cut.zero _ | apply Cut.succ)); rfl; rfl; rfl; rfl; rfl; kernel_rfl; rfl) | ((with_reducible apply u_y); exact yu_; rfl) | (with_reducible refine aaY ?_; intro ss bb) | (refine ai ?_; intro ss bb) | refine ad ?_ | refine ab hG hst (a7 _ _ _) ?_ | refine c_ (fun hc => ?_) (fun hc => ?_) | refine g_ (fun hg => ?_) (fun hg => ?_))
       all_goals first
         | (refine aB x_ rfl (.tmp _ _ rfl) (fun _ => ?_)
            refine aJ ?_
            clear hrk hl1 hl2 hll hil hcs hse hh
            subst_vars
            simp [cH, uz, hlev]; done))
end
set_option maxRecDepth 20000
noncomputable def aaU (cs : List ay) (K : Nat) : TV := .tup [.sl K 1 (aO ((ew cs).getD [])), .bool (ew cs).isSome]
theorem gC {B L : Nat} {objs : aI} {r : Option (List Int)} (h : r = none) : Fin B objs L .nils (.sl L 1 (aO (r.getD []))) := by subst h; exact .nils 1
theorem ex {B L : Nat} {objs : aI} {r : Option (List Int)} (h : r = none) : Fin B objs L (.bool false) (.bool r.isSome) := by subst h; exact .bool false
theorem vb {B L s b n : Nat} {objs : aI} {r : Option (List Int)} {o : List Int} (h : r = some o) (hn : o.length = n) (hm : (s, b, bu.row 1 (aO o)) ∈ objs) : Fin B objs L (.ms s b 0 n) (.sl L 1 (aO (r.getD []))) := by
  subst h; subst hn
  have hl := aq o
  exact Fin.msFlat hm (by omega) (by rw [List.drop_zero, List.take_of_length_le (by omega)]; rfl) (j2 o)
theorem oo {B L : Nat} {objs : aI} {r : Option (List Int)} {o : List Int} (h : r = some o) : Fin B objs L (.bool true) (.bool r.isSome) := by subst h; exact .bool true
section
variable {G : World → Prop}
set_option maxRecDepth 4000 in
set_option maxHeartbeats 4000000 in
theorem md (hst : az G) (f lo : Nat) (ccl cen : TV) (cs : List ay) (mn : Int) (hcs : cs.length ≤ 1048576 ∧ ∀ y ∈ cs, ay.small 1048576 y) :
    Ct Tryz.prog G 127 [.cp f [ccl, .sl lo 4 (cs.map (ay.tw lo)), cen, .int .i64 mn]] (aaU cs) := by
  refine ao Tryz.func127 rfl Tryz.ntmps127 rfl rfl fun w0 _ hG => ?_
  have hl2 := ay.len lo cs
  have hcl := hcs.1
  have h0 : (List.replicate cs.length [TV.int .i64 0]) = aO (iy cs.length 0) := by simp [iy, aO]
  repeat' (first | refine W_ ?_ | (refine de ?_; intro ss bb) | refine c_ (fun hc => ?_) (fun hc => ?_) | refine g_ (fun hg => ?_) (fun hg => ?_))
  generalize ss = sd; generalize bb = bd
  apply aj (X := Nat) [0, 4] (fun i => [(5, .int .i64 (i : Int))]) (fun i => [(sd, bd, .row 1 (aO (iy cs.length i)))]) (fun i => i ≤ cs.length) (fun i => cs.length - i) 0 (Nat.zero_le _)
  exact kp_; exact nw_
  · rw [← h0]; exact .refl _
  intro i hi
  try dsimp only at hi ⊢
  by_cases hlt : i < cs.length
  · obtain ⟨hrow, hset⟩ := oh hlt
    repeat' (first | refine W_ ?_ | refine a6 ?_ | refine c_ (fun hc => ?_) (fun hc => ?_) | refine g_ (fun hg => ?_) (fun hg => ?_))
    rw [hset]
    refine ah (i + 1) (by omega) (by omega) (.of _ nw_ od_ (.refl _))
  · obtain rfl : i = cs.length := by omega
    clear hlt hi
    have hfull : iy cs.length cs.length = List.replicate cs.length (-1) := by simp [iy]
    rw [hfull]
    have hst0 : fj cs 0 (List.replicate cs.length (-1)) = ew cs := rfl
    have hin0 := gu cs.length
    unfold aaU
    generalize ew cs = R at hst0
    generalize List.replicate cs.length (-1 : Int) = o0 at hst0 hin0
    repeat' (first | refine W_ ?_ | refine c_ (fun hc => ?_) (fun hc => ?_) | refine g_ (fun hg => ?_) (fun hg => ?_))
    apply aj (X := Nat × List Int) [0, 4] (fun x => [(6, .int .i64 (x.1 : Int))]) (fun x => [(sd, bd, .row 1 (aO x.2))]) (fun x => x.1 ≤ cs.length ∧ cC cs.length x.2 ∧ fj cs x.1 x.2 = R) (fun x => cs.length - x.1) (0, o0) ⟨Nat.zero_le _, hin0, hst0⟩
    exact kp_; exact nw_
    · exact .refl _
    clear hin0 hst0
    rintro ⟨i, o⟩ ⟨hi, hin, hR⟩
    dsimp only at hi hin hR ⊢
    have hol : (aO o).length = cs.length := by rw [aq]; exact hin.1
    by_cases hlt : i < cs.length
    · have hra := bL (lo := lo) hlt
      have hsm := hcs.2 _ (List.getElem_mem hlt)
      rw [kO hlt] at hR
      generalize cs[i] = c at hra hsm hR
      obtain ⟨cb, cp, csl, is⟩ := c
      dsimp only at hra hR
      have hil := ag.len lo is
      have hisl : is.length ≤ 1048576 := hsm.1
      repeat' (first | refine W_ ?_ | refine c_ (fun hc => ?_) (fun hc => ?_) | refine g_ (fun hg => ?_) (fun hg => ?_))
      apply aj (X := Nat × List Int) [0, 4, 6] (fun x => [(7, .int .i64 (x.1 : Int))]) (fun x => [(sd, bd, .row 1 (aO x.2))]) (fun x => x.1 ≤ is.length ∧ cC cs.length x.2 ∧ fq cs i (is.drop x.1) x.2 = R) (fun x => is.length - x.1) (0, o) ⟨Nat.zero_le _, hin, hR⟩
      exact kp_; exact nw_
      · exact .refl _
      clear hin hR hol
      rintro ⟨k, o⟩ ⟨hk, hin, hR⟩
      dsimp only at hk hin hR ⊢
      have hol : (aO o).length = cs.length := by rw [aq]; exact hin.1
      by_cases hlk : k < is.length
      · have hrk := iC (lo := lo) hlk
        rw [kY hlk] at hR
        generalize is[k] = x at hrk hR
        obtain ⟨op, a, b, t⟩ := x
        unfold ze at hR
        dsimp only at hrk hR
        by_cases h15 : op = 15
        · rw [if_pos h15] at hR
          have h15' : ¬ op ≠ 15 := fun h => h h15
          by_cases hin2 : 0 ≤ a ∧ a ≤ (i : Int) - 1
          · have cin := a7 (G := G) a 0 ((i - 1 : Nat) : Int)
            rw [t8 (by omega)] at cin
            obtain ⟨q, rfl⟩ : ∃ q : Nat, a = q := ⟨a.toNat, by omega⟩
            have hql : q < o.length := by rw [hin.1]; omega
            have hrq := eN hql
            have hqc : q < cs.length := by omega
            by_cases hg : 0 ≤ gd o (q : Int)
            · rw [if_neg fun h => h.2 hg] at hR
              repeat' (first | refine W_ ?_ | (refine ai ?_; intro ss bb) | refine ad ?_ | refine ab hG hst (cin) ?_ | refine c_ (fun hc => ?_) (fun hc => ?_) | refine g_ (fun hg => ?_) (fun hg => ?_))
              refine d9 x_ rfl (.tmp _ _ rfl) (.tmp _ _ rfl) (fun _ => ?_) (fun _ => ?_)
              · exact gC hR.symm
              · exact ex hR.symm
            · rw [if_pos ⟨hin2, hg⟩, Int.toNat_natCast] at hR
              dsimp only at hR
              have hset := pR o q (i : Int)
              have hin3 := (lT (n := cs.length) (i := i) (x := ⟨15, q, b, t⟩) (o := o) (o' := o.set q (i : Int)) hlt (by unfold ze; rw [if_pos rfl, if_pos ⟨hin2, hg⟩, Int.toNat_natCast]) hin).1
              repeat' (first | refine W_ ?_ | (refine ai ?_; intro ss bb) | refine ad ?_ | refine ab hG hst (cin) ?_ | refine a6 ?_ | refine c_ (fun hc => ?_) (fun hc => ?_) | refine g_ (fun hg => ?_) (fun hg => ?_))
              rw [hset]
              refine ah (k + 1, o.set q (i : Int)) ⟨by dsimp only; omega, hin3, hR⟩ (by dsimp only; omega) (.of _ nw_ od_ pk_)
          · have cin := a7 (G := G) a 0 ((i : Int) - 1)
            have cin' := a7 (G := G) a 0 ((i - 1 : Nat) : Int)
            rw [zO hin2] at cin
            rw [if_neg fun h => hin2 h.1] at hR
            repeat' (first | refine W_ ?_ | (refine ai ?_; intro ss bb) | refine ad ?_ | refine ab hG hst (cin) ?_ | refine c_ (fun hc => ?_) (fun hc => ?_) | refine g_ (fun hg => ?_) (fun hg => ?_))
            refine d9 x_ rfl (.tmp _ _ rfl) (.tmp _ _ rfl) (fun _ => ?_) (fun _ => ?_)
            · exact gC hR.symm
            · exact ex hR.symm
        · rw [if_neg h15] at hR
          dsimp only at hR
          repeat' (first | refine W_ ?_ | (refine ai ?_; intro ss bb) | refine ad ?_ | refine c_ (fun hc => ?_) (fun hc => ?_) | refine g_ (fun hg => ?_) (fun hg => ?_))
          refine ah (k + 1, o) ⟨by dsimp only; omega, hin, hR⟩ (by dsimp only; omega) (.of _ nw_ od_ pk_)
      · rw [mR hlk] at hR
        repeat' (first | refine W_ ?_ | refine c_ (fun hc => ?_) (fun hc => ?_) | refine g_ (fun hg => ?_) (fun hg => ?_))
        refine ah (i + 1, o) ⟨by dsimp only; omega, hin, hR⟩ (by dsimp only; omega) (.of _ nw_ od_ pk_)
    · rw [mY hlt] at hR
      repeat' (first | refine W_ ?_ | refine c_ (fun hc => ?_) (fun hc => ?_) | refine g_ (fun hg => ?_) (fun hg => ?_))
      apply aj (X := Nat) [0, 4] (fun j => [(9, .int .i64 (j : Int))]) (fun _ => [(sd, bd, .row 1 (aO o))]) (fun j => j ≤ cs.length ∧ ∀ q, q < j → ∀ h : q < cs.length, cs[q].block = decide (0 ≤ gd o (q : Int))) (fun j => cs.length - j) 0 ⟨Nat.zero_le _, by omega⟩
      exact kp_; exact nw_
      · exact .refl _
      rintro j ⟨hj, hja⟩
      try dsimp only
      by_cases hlj : j < cs.length
      · have hra := bL (lo := lo) hlj
        have hrj := eN (o := o) (j := j) (by rw [hin.1]; exact hlj)
        have hbad := n8 (o := o) hlj
        have hnx : cs[j].block = decide (0 ≤ gd o (j : Int)) → ∀ q, q < j + 1 → ∀ h : q < cs.length, cs[q].block = decide (0 ≤ gd o (q : Int)) := fun ho => bW hja fun _ => ho
        generalize cs[j] = c at hra hbad hnx
        obtain ⟨cb, cp, csl, is⟩ := c
        dsimp only at hra hbad hnx
        generalize gd o (j : Int) = v at hrj hbad hnx
        by_cases hb : cb = decide (0 ≤ v)
        · repeat' (first | refine V_ ?_ | refine c_ (fun hc => ?_) (fun hc => ?_) | refine g_ (fun hg => ?_) (fun hg => ?_))
          all_goals first
            | exact ah (j + 1) ⟨by omega, hnx hb⟩ (by omega) (.of _ nw_ od_ pk_)
            | (exfalso; simp_all; done)
        · rw [hbad hb] at hR
          repeat' (first | refine V_ ?_ | refine c_ (fun hc => ?_) (fun hc => ?_) | refine g_ (fun hg => ?_) (fun hg => ?_))
          all_goals first
            | (exfalso; simp_all; done)
            | (refine d9 x_ rfl (.tmp _ _ rfl) (.tmp _ _ rfl) (fun _ => ?_) (fun _ => ?_)
               · exact gC hR.symm
               · exact ex hR.symm)
      · rw [mE fun q hq => hja q (by omega)] at hR
        repeat' (first | refine W_ ?_ | refine c_ (fun hc => ?_) (fun hc => ?_) | refine g_ (fun hg => ?_) (fun hg => ?_))
        refine d9 x_ rfl (.tmp _ _ rfl) (.tmp _ _ rfl) (fun _ => ?_) (fun _ => ?_)
        · exact vb hR.symm hin.1 List.mem_cons_self
        · exact oo hR.symm
end
end Go.Proofs.YtiihihgjiklnoaaGreatDoor
