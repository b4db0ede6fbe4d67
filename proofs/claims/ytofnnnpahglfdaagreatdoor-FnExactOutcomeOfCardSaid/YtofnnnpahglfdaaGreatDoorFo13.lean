/- Part 13 of the proof: the texts IvG, NiA, NiB. -/
import Derived.Test.YtofnnnpahglfdaaGreatDoorFo3
import Derived.Test.YtofnnnpahglfdaaGreatDoorFo10
import Derived.Test.YtofnnnpahglfdaaGreatDoorFo9
import Derived.Test.YtofnnnpahglfdaaGreatDoorFo11
set_option linter.all false
set_option maxHeartbeats 4000000
set_option maxRecDepth 20000
namespace Go.Proofs.YtofnnnpahglfdaaGreatDoor
open Go Go.RowKit
section
variable {G : World -> Prop}
theorem jE (hst : aB G) (lo : Nat) (l : List aa) (hsm : l.length <= 1048576 /\ ∀ y ∈ l, aa.small 1048576 y) : Ct Tryz.prog G 177 [.sl lo 3 (l.map (aa.tw lo))] (fun _ => .bool (bH l)) := by
 refine am Tryz.func177 rfl Tryz.ntmps177 rfl rfl fun w0 _ hG => ?_
 have hlen := aa.len lo l
 have hbl := aa.len w0.heap.size bA
 rw [fw] at hbl
 have hl1 := hsm.1
 by_cases hl : 16 <= l.length /\ l.length <= 24
 ·repeat' (first | refine W_ ?_ | (refine aj ?_; intro ss bb) | refine eW ?_ | refine ac ?_ | ((with_reducible apply lH); rfl; kernel_rfl; exact hG; exact hst; exact x4 hst [.str ⟨#[]⟩, .bool false, .nils, .nils, .nils]; (apply ca.cons; rfl; exact bU.mpSame List.mem_cons_self); exact ca.nil))
  apply ak (X := Nat) [0, 4] (fun i => [(5, .int .i64 (i : Int))]) (fun _ => []) (fun i => i <= l.length /\ ∀ j, j < i -> ∀ h : j < l.length, dI l j l[j]) (fun i => l.length - i) 0 ⟨Nat.zero_le _, by simp⟩
  exact kp_; exact nw_
  ·exact .nil _
  rintro i ⟨hi, hk⟩
  try dsimp only
  by_cases hlt : i < l.length
  ·have hra : (l.map (aa.tw lo))[i]? = some (l[i].tw lo) := aM hlt
   have hbi := hsm.2 _ (List.getElem_mem hlt)
   have hbad := kp hlt
   have hks : dI l i l[i] -> ∀ j, j < i + 1 -> ∀ h : j < l.length, dI l j l[j] := fun ho => bS hk fun _ => ho
   generalize l[i] = x at hra hbi hbad hks
   rw [show x.tw lo = [.str x.name, .int .i64 x.parent, .sl lo 1 (a8 x.fields)] from rfl] at hra
   by_cases hlow : i < 16
   ·obtain ⟨bi, hb, _, _, h3, _⟩ := jd hlow
    have hrb : (bA.map (aa.tw w0.heap.size))[i]? = some [.str bi.name, .int .i64 bi.parent, .sl w0.heap.size 1 (a8 bi.fields)] := by rw [List.getElem?_map, hb]; rfl
    rw [n6 hlow hb] at hbad hks
    have hbf : bi.fields.length <= 1048576 := by rw [<- h3]; unfold gQ; split <;> simp
    have heq := jc (G := G) lo w0.heap.size x.fields bi.fields hbi.2.1 hbf
    clear h3
    by_cases ho : x.name = bi.name /\ x.parent = bi.parent /\ x.fields = bi.fields
    ·have n1 : ¬ x.name ≠ bi.name := fun h => h ho.1
     have n2 : ¬ x.parent ≠ bi.parent := fun h => h ho.2.1
     rw [decide_eq_true ho.2.2] at heq
     repeat' (first | refine V_ ?_ | (refine aj ?_; intro ss bb) | refine ac ?_ | refine ae hG hst (heq) ?_)
     exact ag (i + 1) ⟨by omega, hks ho⟩ (by omega) (.of _ nw_ od_ (de.nil _))
    ·rw [hbad ho]
     clear hks hbad
     by_cases hfe : x.fields = bi.fields
     ·rw [decide_eq_true hfe] at heq
      repeat' (first | refine V_ ?_ | (refine aj ?_; intro ss bb) | refine ac ?_ | refine ae hG hst (heq) ?_ | refine g_ (fun hg => ?_) (fun hg => ?_))
      all_goals first
        | (exfalso; exact ho ⟨Decidable.of_not_not (by assumption), Decidable.of_not_not (by assumption), hfe⟩)
        | (exact r1_)
     ·rw [decide_eq_false hfe] at heq
      repeat' (first | refine V_ ?_ | (refine aj ?_; intro ss bb) | refine ac ?_ | refine ae hG hst (heq) ?_ | refine g_ (fun hg => ?_) (fun hg => ?_))
      all_goals
        exact r1_
   ·rw [ma hlow] at hbad hks
    obtain ⟨nm, par, fs⟩ := x
    dsimp only at hra hbi hbad hks
    have hx1 : nm.size <= 1048576 := hbi.1
    have hx2 : fs.length <= 1048576 := hbi.2.1
    have hx3 : ∀ y ∈ fs, ByteArray.size y <= 1048576 := hbi.2.2
    have hfl := aZ fs
    clear hbl
    repeat' (first | refine H_ 12 ?_ | (refine aj ?_; intro ss bb) | refine ac ?_)
    refine ⟨dp ?_⟩
    generalize ss = s3; generalize bb = b3
    apply fh (X := Unit) [0, 4, 5, 6] (fun _ => [(88, .bool (!decide (cV l i ⟨nm, par, fs⟩)))]) (fun _ => [(s3, b3, .box [.str nm, .int .i64 par, .sl lo 1 (a8 fs)])]) (fun _ => True)
    case hk => (repeat (first | exact jq.nil | (apply jq.cons; rfl)))
    ·repeat' (first | refine W_ ?_ | refine ab hG hst (gq hst _ hx1) ?_ | refine ab hG hst (a7 _ _ _) ?_ | refine g_ (fun hg => ?_) (fun hg => ?_))
     all_goals
       refine dV () trivial (.of _ (dg.envCons (j2 rfl ?_) dg.envNil) od_ pk_)
       clear hbad hks hk hra hbi
       simp only [Bool.not_eq_true', Bool.not_eq_false', inR, decide_eq_true_eq, decide_eq_false_iff_not] at *
       by_cases h8 : (8 : Int) < (fs.length : Int)
       all_goals (try simp only [h8, decide_true, decide_false])
       all_goals first
         | (have : cV l i ⟨nm, par, fs⟩ := ⟨by assumption, by dsimp only; omega, by dsimp only; omega, by dsimp only; omega⟩
            simp only [decide_eq_true this, Bool.not_true]
            done)
         | (have : ¬ cV l i ⟨nm, par, fs⟩ := fun h => by
              obtain ⟨h1, h2, h3, h4⟩ := h
              dsimp only at h1 h2 h3 h4
              first
                | omega
                | (simp only [h1] at *; done)
                | (simp_all; done)
            simp only [decide_eq_false this, Bool.not_false]
            done)
    intro _ _
    by_cases hh : cV l i ⟨nm, par, fs⟩
    ·rw [decide_eq_true hh, Bool.not_true]
     have hh2 := hh.2
     obtain ⟨⟨hp0, hp1⟩, _, hf8⟩ := hh2
     dsimp only at hp0 hp1 hf8
     obtain ⟨p, rfl⟩ : ∃ p : Nat, par = p := ⟨par.toNat, by omega⟩
     have hpl : p < l.length := by omega
     have hrp : (l.map (aa.tw lo))[p]? = some (l[p].tw lo) := aM hpl
     have hbp := hsm.2 _ (List.getElem_mem hpl)
     have hpf := iI (x := ⟨nm, (p : Int), fs⟩) rfl (List.getElem?_eq_getElem hpl)
     generalize l[p] = y at hrp hbp hpf
     obtain ⟨pn, pp, pf⟩ := y
     replace hrp : (l.map (aa.tw lo))[p]? = some [.str pn, .int .i64 pp, .sl lo 1 (a8 pf)] := hrp
     have hx4 : pf.length <= 1048576 := hbp.2.1
     have hpl2 := aZ pf
     repeat' refine W_ ?_
     apply ak (X := Nat) [0, 4, 5, 6] (fun k => [(7, .int .i64 (k : Int))]) (fun _ => [(s3, b3, .box [.str nm, .int .i64 (p : Int), .sl lo 1 (a8 fs)])]) (fun k => k <= i /\ ∀ y ∈ l.take k, y.name ≠ nm) (fun k => i - k) 0 ⟨Nat.zero_le _, by simp⟩
     exact kp_; exact nw_
     ·exact .refl _
     rintro k ⟨hki, hkn⟩
     try dsimp only
     by_cases hlk : k < i
     ·have hlk2 : k < l.length := by omega
      have hrk : (l.map (aa.tw lo))[k]? = some (l[k].tw lo) := aM hlk2
      have hta := aV (p := fun y : aa => y.name ≠ nm) hlk2 hkn
      have hmem : l[k] ∈ l.take i := List.mem_take_iff_getElem.2 ⟨k, by omega, rfl⟩
      generalize l[k] = z at hrk hta hmem
      obtain ⟨zn, zp, zf⟩ := z
      replace hrk : (l.map (aa.tw lo))[k]? = some [.str zn, .int .i64 zp, .sl lo 1 (a8 zf)] := hrk
      by_cases hzn : zn = nm
      ·rw [hbad fun h => h.2.1 _ hmem hzn]
       repeat' refine V_ ?_
       exact r1_
      ·repeat' refine V_ ?_
       exact ag (k + 1) ⟨by omega, hta hzn⟩ (by omega) (.of _ nw_ od_ pk_)
     ·obtain rfl : k = i := by omega
      clear hlk
      by_cases hhe : pf.length <= fs.length /\ fs.take pf.length = pf
      ·have heq := jc (G := G) lo lo (fs.take pf.length) pf (by simp; omega) hx4
       rw [decide_eq_true hhe.2] at heq
       have hsl : (a8 fs).take pf.length = a8 (fs.take pf.length) := by simp [a8, List.map_take]
       have hle := hhe.1
       repeat' (first | refine V_ ?_ | refine kH ?_ | refine ae hG hst (heq) ?_)
       apply ak (X := Nat) [0, 4, 5, 6] (fun k => [(9, .int .i64 (k : Int))]) (fun _ => [(s3, b3, .box [.str nm, .int .i64 (p : Int), .sl lo 1 (a8 fs)])]) (fun k => k <= fs.length /\ ∀ j, j < k -> ∀ h : j < fs.length, fieldAt fs j fs[j] = true) (fun k => fs.length - k) 0 ⟨Nat.zero_le _, by omega⟩
       exact kp_; exact nw_
       ·exact .refl _
       rintro q ⟨hq, hqa⟩
       try dsimp only
       by_cases hqf : q < fs.length
       ·have hfr := dH hqf
        have hqs := hx3 _ (List.getElem_mem hqf)
        have hqb := lO hqf
        have hqn : fieldAt fs q fs[q] = true -> ∀ j, j < q + 1 -> ∀ h : j < fs.length, fieldAt fs j fs[j] = true := fun h => bS hqa fun _ => h
        generalize fs[q] = f at hfr hqs hqb hqn
        have hname := gq (G := G) hst f hqs
        have hhas := sc (G := G) lo (fs.take q) f (by simp; omega)
        have hsq : (a8 fs).take q = a8 (fs.take q) := by simp [a8, List.map_take]
        have hqle : q <= fs.length := hq
        by_cases hqo : fieldAt fs q f = true
        ·have hqo2 := hqo
         unfold fieldAt at hqo2
         rw [Bool.and_eq_true, Bool.not_eq_true'] at hqo2
         rw [hqo2.1] at hname
         rw [hqo2.2] at hhas
         repeat' (first | refine V_ ?_ | refine kH ?_ | refine ae hG hst (hname) ?_ | refine ae hG hst (hhas) ?_)
         exact ag (q + 1) ⟨by omega, hqn hqo⟩ (by omega) (.of _ nw_ od_ pk_)
        ·rw [hbad fun h => hqb (Bool.eq_false_iff.2 hqo) h.2.2.2]
         by_cases hqs1 : bT f.data.toList = true
         ·have hqs2 : ij (fs.take q) f = true := by
            unfold fieldAt at hqo
            rw [hqs1, Bool.true_and] at hqo
            simpa using hqo
          rw [hqs1] at hname
          rw [hqs2] at hhas
          repeat' (first | refine V_ ?_ | refine kH ?_ | refine ae hG hst (hname) ?_ | refine ae hG hst (hhas) ?_)
          exact r1_
         ·rw [Bool.eq_false_iff.2 hqs1] at hname
          repeat' (first | refine V_ ?_ | refine ae hG hst (hname) ?_)
          exact r1_
       ·obtain rfl : q = fs.length := by omega
        repeat' refine W_ ?_
        exact ag (k + 1) ⟨by omega, hks ⟨hh, hkn, ⟨by rw [hpf]; exact hhe.1, by rw [hpf]; exact hhe.2⟩, fun j hj => hqa j hj hj⟩⟩ (by omega) (.of _ nw_ od_ (de.nil _))
      ·rw [hbad fun h => hhe (by have := h.2.2.1; unfold abI at this; rw [hpf] at this; exact this)]
       by_cases hle : pf.length <= fs.length
       ·have heq := jc (G := G) lo lo (fs.take pf.length) pf (by simp; omega) hx4
        rw [decide_eq_false fun h => hhe ⟨hle, h⟩] at heq
        have hsl : (a8 fs).take pf.length = a8 (fs.take pf.length) := by simp [a8, List.map_take]
        repeat' (first | refine V_ ?_ | refine kH ?_ | refine ae hG hst (heq) ?_)
        exact r1_
       ·repeat' refine V_ ?_
        exact r1_
    ·rw [decide_eq_false hh, Bool.not_false, hbad fun h => hh h.1]
     repeat' refine W_ ?_
     exact r1_
  ·rw [jv hl fun j hj => hk j (by omega)]
   repeat' refine W_ ?_
   exact r1_
 ·rw [ky hl]
  repeat' (first | refine W_ ?_ | refine g_ (fun hg => ?_) (fun hg => ?_))
  all_goals first
    | (exfalso; omega)
    | (exact r1_)
end
def nRg {α β : Type} (mk : α -> β -> List TV) (l : List α) (ps : List β) : List (List TV) := List.zipWith mk l ps
def nOg {α β : Type} (ob : α -> β -> aH) (l : List α) (ps : List β) : aH := (List.zipWith ob l ps).flatten
theorem vt {α β : Type} (mk : α -> β -> List TV) {l : List α} {ps : List β} (h : ps.length = l.length) : (nRg mk l ps).length = l.length := by simp [nRg, h]
theorem xe {α β : Type} (ob : α -> β -> aH) {l : List α} {ps : List β} {i : Nat} (h : i < l.length) (hp : ps.length = i) (p : β) : nOg ob (l.take (i + 1)) (ps ++ [p]) = nOg ob (l.take i) ps ++ ob l[i] p := by
 unfold nOg
 rw [ed h, List.zipWith_append (by simp; omega)]; simp
theorem aaB {α β : Type} (mk : α -> β -> List TV) (z : List TV) {l : List α} {ps : List β} {i : Nat} (h : i < l.length) (hp : ps.length = i) (p : β) :
   (nRg mk (l.take i) ps ++ List.replicate (l.length - i) z)[i]? = some z /\ (nRg mk (l.take i) ps ++ List.replicate (l.length - i) z).set i (mk l[i] p) = nRg mk (l.take (i + 1)) (ps ++ [p]) ++ List.replicate (l.length - (i + 1)) z := by
 have hl : (nRg mk (l.take i) ps).length = i := by simp [nRg]; omega
 have e : l.length - i = (l.length - (i + 1)) + 1 := by omega
 refine ⟨?_, ?_⟩
 ·rw [List.getElem?_append_right (by omega), hl, Nat.sub_self, e, List.replicate_succ]; rfl
 ·rw [List.set_append_right _ _ (by omega), hl, Nat.sub_self, e, List.replicate_succ, List.set_cons_zero]
  unfold nRg
  rw [ed h, List.zipWith_append (by simp; omega), List.append_assoc]; rfl
theorem qw (a : Nat × Nat × bj) (z T R : aH) : de (a :: ((T ++ z) ++ R)) (a :: (z ++ (T ++ R))) := .perm (by
 have h : ((T ++ z) ++ R).Perm (z ++ (T ++ R)) := by
   rw [<- List.append_assoc]
   exact List.perm_append_comm.append_right R
 exact h.cons a)
theorem tj (a : Nat × Nat × bj) (z R : aH) : de (a :: (z ++ R)) (z ++ (a :: R)) := .perm List.perm_middle.symm
def Pl : Type := Nat × Nat
def ib (x : ay) (p : Pl × Pl) : List TV := [.int .i64 x.kind, .int .i64 x.class_, .ms p.1.1 p.1.2 0 x.fields.length, .ms p.2.1 p.2.2 0 x.numbers.length]
def kI (x : ay) (p : Pl × Pl) : aH := [(p.1.1, p.1.2, .row 3 (x.fields.map (ad.tw 0))), (p.2.1, p.2.2, .row 1 (aS x.numbers))]
def ic (x : ap) (p : Pl × Pl × Pl) : List TV := [.int .i64 x.mark, .int .i64 x.code, .int .i64 x.pc, .int .i64 x.sender, .int .i64 x.outer, .int .i64 x.home, .int .i64 x.self.kind, .int .i64 x.self.number, .str x.self.text, .ms p.1.1 p.1.2 0 x.slots.length, .ms p.2.1.1 p.2.1.2 0 x.stack.length, .ms p.2.2.1 p.2.2.2 0 x.values.length, .int .i64 x.other, .bool x.retry]
def kW (x : ap) (p : Pl × Pl × Pl) : aH := [(p.1.1, p.1.2, .row 3 (x.slots.map (ad.tw 0))), (p.2.1.1, p.2.1.2, .row 3 (x.stack.map (ad.tw 0))), (p.2.2.1, p.2.2.2, .row 3 (x.values.map (ad.tw 0)))]
def afm (l : List ay) (y : Pl × List (Pl × Pl)) : aH := (y.1.1, y.1.2, .row 4 (nRg ib l y.2)) :: nOg kI l y.2
def aew (l : List ap) (y : Pl × List (Pl × Pl × Pl)) : aH := (y.1.1, y.1.2, .row 14 (nRg ic l y.2)) :: nOg kW l y.2
def StP : Type := ((Nat × Nat) × List (Nat × Nat)) × (Pl × List (Pl × Pl)) × Pl
def stO (x : aJ) (y : StP) : aH := aev x.classes y.1 ++ (afm x.objects y.2.1 ++ [(y.2.2.1, y.2.2.2, .row 1 (a8 x.output))])
def stC (x : aJ) (y : StP) : List TV := [.ms y.1.1.1 y.1.1.2 0 x.classes.length, .ms y.2.1.1.1 y.2.1.1.2 0 x.objects.length, .ms y.2.2.1 y.2.2.2 0 x.output.length, .int .i64 x.ticks, .int .i64 x.budget, .int .i64 x.made]
def stI (x : aJ) (y : StP) : Prop := y.1.2.length = x.classes.length /\ y.2.1.2.length = x.objects.length
def oO : Type := CbP × StP × Pl × (Pl × List (Pl × Pl × Pl)) × Pl × Pl
def imO (x : ai) (y : oO) : aH := cbO x.base y.1 ++ (stO x.store y.2.1 ++ ([(y.2.2.1.1, y.2.2.1.2, .row 6 (x.blocks.map (aq.tw 0)))] ++ (aew x.contexts y.2.2.2.1 ++ ([(y.2.2.2.2.1.1, y.2.2.2.2.1.2, .row 2 (x.processes.map (au.tw 0)))] ++ [(y.2.2.2.2.2.1, y.2.2.2.2.2.2, .row 1 (aS x.ready))]))))
def imC (x : ai) (y : oO) : List TV := [.ms y.1.1.1.1 y.1.1.1.2 0 x.base.classes.length, .ms y.1.2.1.1.1 y.1.2.1.1.2 0 x.base.codes.length, .ms y.1.2.2.1 y.1.2.2.2 0 x.base.entries.length, .int .i64 x.base.main,
 .ms y.2.1.1.1.1 y.2.1.1.1.2 0 x.store.classes.length, .ms y.2.1.2.1.1.1 y.2.1.2.1.1.2 0 x.store.objects.length, .ms y.2.1.2.2.1 y.2.1.2.2.2 0 x.store.output.length, .int .i64 x.store.ticks, .int .i64 x.store.budget, .int .i64 x.store.made,
 .ms y.2.2.1.1 y.2.2.1.2 0 x.blocks.length, .ms y.2.2.2.1.1.1 y.2.2.2.1.1.2 0 x.contexts.length, .ms y.2.2.2.2.1.1 y.2.2.2.2.1.2 0 x.processes.length, .ms y.2.2.2.2.2.1 y.2.2.2.2.2.2 0 x.ready.length, .int .i64 x.now, .int .i64 x.status, .int .i64 x.value.kind, .int .i64 x.value.number, .str x.value.text, .str x.fault]
def imI (x : ai) (y : oO) : Prop := cbI x.base y.1 /\ stI x.store y.2.1 /\ y.2.2.2.1.2.length = x.contexts.length
section
variable {G : World -> Prop}
theorem qr (hst : aB G) (lo : Nat) (l : List Int) (hn : l.length <= 1048576) : CtM Tryz.prog G 41 [.sl lo 1 (aS l)] [] (fun _ : Nat × Nat => True) (fun y => [(y.1, y.2, .row 1 (aS l))]) (fun y => .ms y.1 y.2 0 l.length) := by
 refine aC Tryz.func41 rfl Tryz.ntmps41 rfl rfl rfl fun w0 R gs objsR hG hR => ?_
 obtain rfl := hR.inv0
 clear hR
 have hlen := ao l
 have h0 := em (fun n : Int => [TV.int .i64 n]) [.int .i64 0] l
 repeat' (first | refine W_ ?_ | (refine f9 ?_; intro ss bb))
 generalize ss = so; generalize bb = bo
 apply ak (X := Nat) [0, 3, 1000000] (fun i => [(4, .int .i64 (i : Int))]) (fun i => (so, bo, .row 1 (fZ (fun n : Int => [TV.int .i64 n]) [.int .i64 0] l i)) :: R) (fun i => i <= l.length) (fun i => l.length - i) 0 (Nat.zero_le _)
 exact kp_; exact nw_
 ·rw [<- h0]; exact .refl _
 intro i hi
 try dsimp only
 by_cases hlt : i < l.length
 ·obtain ⟨hrow, hset⟩ := fk (fun n : Int => [TV.int .i64 n]) [.int .i64 0] hlt
  have hra : (aS l)[i]? = some [.int .i64 l[i]] := aM hlt
  generalize l[i] = x at hset hra
  try dsimp only at hset
  repeat' (first | refine W_ ?_ | refine bE ?_)
  refine ag (i + 1) (by omega) (by omega) (.of _ nw_ od_ (by rw [<- hset]; exact .refl _))
 ·obtain rfl : i = l.length := by omega
  rw [er]
  repeat' refine W_ ?_
  exact av x_ rfl (so, bo) trivial rfl (.cons _ _ _ _ (.nil R)) pk_ (.tmp _ _ rfl) rfl
theorem fI (hst : aB G) (lo : Nat) (l : List ad) (hb : l.length <= 1048576 /\ ∀ y ∈ l, ad.small 1048576 y) : CtM Tryz.prog G 192 [.sl lo 3 (l.map (ad.tw lo))] [] (fun _ : Nat × Nat => True) (fun y => [(y.1, y.2, .row 3 (l.map (ad.tw 0)))]) (fun y => .ms y.1 y.2 0 l.length) := by
 refine aC Tryz.func192 rfl Tryz.ntmps192 rfl rfl rfl fun w0 R gs objsR hG hR => ?_
 obtain rfl := hR.inv0
 clear hR
 have hlen := ad.len lo l
 have hl1 := hb.1
 have h0 := em (ad.tw 0) ad.tz l
 repeat' (first | refine W_ ?_ | (refine f9 ?_; intro ss bb))
 generalize ss = so; generalize bb = bo
 apply ak (X := Nat) [0, 3, 1000000] (fun i => [(4, .int .i64 (i : Int))]) (fun i => (so, bo, .row 3 (fZ (ad.tw 0) ad.tz l i)) :: R) (fun i => i <= l.length) (fun i => l.length - i) 0 (Nat.zero_le _)
 exact kp_; exact nw_
 ·rw [<- h0]; exact .refl _
 intro i hi
 try dsimp only
 by_cases hlt : i < l.length
 ·obtain ⟨hrow, hset⟩ := fk (ad.tw 0) ad.tz hlt
  have hra : (l.map (ad.tw lo))[i]? = some (l[i].tw lo) := aM hlt
  have hbi := hb.2 _ (List.getElem_mem hlt)
  generalize l[i] = x at hset hra hbi
  have hct := jh hst lo x hbi
  unfold ad.tw at hct
  rw [show x.tw lo = [.int .i64 x.kind, .int .i64 x.number, .str x.text] from rfl] at hra
  replace hrow : (fZ (ad.tw 0) ad.tz l i)[i]? = some [.int .i64 0, .int .i64 0, .str ⟨#[]⟩] := hrow
  repeat' (first | refine W_ ?_ | refine ab hG hst (hct) ?_ | refine bE ?_)
  refine ag (i + 1) (by omega) (by omega) (.of _ nw_ od_ (by rw [<- hset]; exact .refl _))
 ·obtain rfl : i = l.length := by omega
  rw [er]
  repeat' refine W_ ?_
  exact av x_ rfl (so, bo) trivial rfl (.cons _ _ _ _ (.nil R)) pk_ (.tmp _ _ rfl) rfl
theorem oS (hst : aB G) (lo : Nat) (l : List aq) (hb : l.length <= 1048576 /\ ∀ y ∈ l, aq.small 1048576 y) : CtM Tryz.prog G 38 [.sl lo 6 (l.map (aq.tw lo))] [] (fun _ : Nat × Nat => True) (fun y => [(y.1, y.2, .row 6 (l.map (aq.tw 0)))]) (fun y => .ms y.1 y.2 0 l.length) := by
 refine aC Tryz.func38 rfl Tryz.ntmps38 rfl rfl rfl fun w0 R gs objsR hG hR => ?_
 obtain rfl := hR.inv0
 clear hR
 have hlen := aq.len lo l
 have hl1 := hb.1
 have h0 := em (aq.tw 0) aq.tz l
 repeat' (first | refine W_ ?_ | (refine f9 ?_; intro ss bb))
 generalize ss = so; generalize bb = bo
 apply ak (X := Nat) [0, 3, 1000000] (fun i => [(4, .int .i64 (i : Int))]) (fun i => (so, bo, .row 6 (fZ (aq.tw 0) aq.tz l i)) :: R) (fun i => i <= l.length) (fun i => l.length - i) 0 (Nat.zero_le _)
 exact kp_; exact nw_
 ·rw [<- h0]; exact .refl _
 intro i hi
 try dsimp only
 by_cases hlt : i < l.length
 ·obtain ⟨hrow, hset⟩ := fk (aq.tw 0) aq.tz hlt
  have hra : (l.map (aq.tw lo))[i]? = some (l[i].tw lo) := aM hlt
  have hbi := hb.2 _ (List.getElem_mem hlt)
  generalize l[i] = x at hset hra hbi
  have hct := tP hst lo x hbi
  unfold aq.tw at hct
  rw [show x.tw lo = [.int .i64 x.code, .int .i64 x.outer, .int .i64 x.home, .int .i64 x.self.kind, .int .i64 x.self.number, .str x.self.text] from rfl] at hra
  replace hrow : (fZ (aq.tw 0) aq.tz l i)[i]? = some [.int .i64 0, .int .i64 0, .int .i64 0, .int .i64 0, .int .i64 0, .str ⟨#[]⟩] := hrow
  repeat' (first | refine W_ ?_ | refine ab hG hst (hct) ?_ | refine bE ?_)
  refine ag (i + 1) (by omega) (by omega) (.of _ nw_ od_ (by rw [<- hset]; exact .refl _))
 ·obtain rfl : i = l.length := by omega
  rw [er]
  repeat' refine W_ ?_
  exact av x_ rfl (so, bo) trivial rfl (.cons _ _ _ _ (.nil R)) pk_ (.tmp _ _ rfl) rfl
theorem oY (hst : aB G) (lo : Nat) (l : List au) (hb : l.length <= 1048576 /\ ∀ y ∈ l, au.small 1048576 y) : CtM Tryz.prog G 40 [.sl lo 2 (l.map (au.tw lo))] [] (fun _ : Nat × Nat => True) (fun y => [(y.1, y.2, .row 2 (l.map (au.tw 0)))]) (fun y => .ms y.1 y.2 0 l.length) := by
 refine aC Tryz.func40 rfl Tryz.ntmps40 rfl rfl rfl fun w0 R gs objsR hG hR => ?_
 obtain rfl := hR.inv0
 clear hR
 have hlen := au.len lo l
 have hl1 := hb.1
 have h0 := em (au.tw 0) au.tz l
 repeat' (first | refine W_ ?_ | (refine f9 ?_; intro ss bb))
 generalize ss = so; generalize bb = bo
 apply ak (X := Nat) [0, 3, 1000000] (fun i => [(4, .int .i64 (i : Int))]) (fun i => (so, bo, .row 2 (fZ (au.tw 0) au.tz l i)) :: R) (fun i => i <= l.length) (fun i => l.length - i) 0 (Nat.zero_le _)
 exact kp_; exact nw_
 ·rw [<- h0]; exact .refl _
 intro i hi
 try dsimp only
 by_cases hlt : i < l.length
 ·obtain ⟨hrow, hset⟩ := fk (au.tw 0) au.tz hlt
  have hra : (l.map (au.tw lo))[i]? = some (l[i].tw lo) := aM hlt
  have hbi := hb.2 _ (List.getElem_mem hlt)
  generalize l[i] = x at hset hra hbi
  have hct := sG hst lo x hbi
  unfold au.tw at hct
  rw [show x.tw lo = [.int .i64 x.at_, .bool x.main] from rfl] at hra
  replace hrow : (fZ (au.tw 0) au.tz l i)[i]? = some [.int .i64 0, .bool false] := hrow
  repeat' (first | refine W_ ?_ | refine ab hG hst (hct) ?_ | refine bE ?_)
  refine ag (i + 1) (by omega) (by omega) (.of _ nw_ od_ (by rw [<- hset]; exact .refl _))
 ·obtain rfl : i = l.length := by omega
  rw [er]
  repeat' refine W_ ?_
  exact av x_ rfl (so, bo) trivial rfl (.cons _ _ _ _ (.nil R)) pk_ (.tmp _ _ rfl) rfl
theorem tR (hst : aB G) (lo : Nat) (x : ay) (hb : x.small 1048576) : CtM Tryz.prog G 191 [.agg [.int .i64 x.kind, .int .i64 x.class_, .sl lo 3 (x.fields.map (ad.tw lo)), .sl lo 1 (aS x.numbers)]] [] (fun _ : Pl × Pl => True) (fun y => kI x y) (fun y => .agg (ib x y)) := by
 refine aC Tryz.func191 rfl Tryz.ntmps191 rfl rfl rfl fun w0 R gs objsR hG hR => ?_
 obtain rfl := hR.inv0
 clear hR
 have h1 := fI hst lo x.fields hb.1
 have h2 := qr hst lo x.numbers hb.2
 unfold kI ib
 repeat' (first | refine W_ ?_ | refine aD ?_ | (refine aj ?_; intro ss bb) | refine ac ?_ | ((with_reducible apply aG); rfl; kernel_rfl; (repeat (first | exact aF.nil | ((with_reducible apply aF.cons); rfl))); exact hG; exact h1; exact .nil _; intro y1 hy1; refine bm ?_) | ((with_reducible apply aG); rfl; kernel_rfl; (repeat (first | exact aF.nil | ((with_reducible apply aF.cons); rfl))); exact hG; exact h2; exact .nil _; intro y2 hy2; refine bm ?_))
 refine av x_ rfl (y1, y2) trivial rfl (.cons _ _ _ _ (.cons _ _ _ _ (.nil R))) pk_ (.cell _ _ _ _ _ rfl mm_ (by kernel_rfl) (by kernel_rfl) (by kernel_rfl)) rfl
theorem qG (hst : aB G) (lo : Nat) (l : List ay) (hb : l.length <= 1048576 /\ ∀ y ∈ l, ay.small 1048576 y) : CtM Tryz.prog G 111 [.sl lo 4 (l.map (ay.tw lo))] [] (fun y : Pl × List (Pl × Pl) => y.2.length = l.length) (fun y => afm l y) (fun y => .ms y.1.1 y.1.2 0 l.length) := by
 refine aC Tryz.func111 rfl Tryz.ntmps111 rfl rfl rfl fun w0 R gs objsR hG hR => ?_
 obtain rfl := hR.inv0
 clear hR
 have hlen := ay.len lo l
 have hl1 := hb.1
 have h0 : List.replicate l.length ay.tz = nRg ib (l.take 0) [] ++ List.replicate (l.length - 0) ay.tz := by simp [nRg]
 repeat' (first | refine W_ ?_ | (refine f9 ?_; intro ss bb))
 generalize ss = so; generalize bb = bo
 apply ak (X := Nat × List (Pl × Pl)) [0, 3, 1000000] (fun x => [(4, .int .i64 (x.1 : Int))]) (fun x => (so, bo, .row 4 (nRg ib (l.take x.1) x.2 ++ List.replicate (l.length - x.1) ay.tz)) :: (nOg kI (l.take x.1) x.2 ++ R)) (fun x => x.1 <= l.length /\ x.2.length = x.1) (fun x => l.length - x.1) (0, []) ⟨Nat.zero_le _, rfl⟩
 exact kp_; exact nw_
 ·rw [<- h0]; exact .refl _
 rintro ⟨i, ps⟩ ⟨hi, hps⟩
 dsimp only at hi hps |-
 by_cases hlt : i < l.length
 ·have hrs := fun p => aaB ib ay.tz hlt hps p
  have hos := fun p => xe kI hlt hps p
  have hra : (l.map (ay.tw lo))[i]? = some (l[i].tw lo) := aM hlt
  have hbi := hb.2 _ (List.getElem_mem hlt)
  generalize l[i] = x at hrs hos hra hbi
  have hct := tR hst lo x hbi
  rw [show x.tw lo = [.int .i64 x.kind, .int .i64 x.class_, .sl lo 3 (x.fields.map (ad.tw lo)), .sl lo 1 (aS x.numbers)] from rfl] at hra
  have hrow : (nRg ib (l.take i) ps ++ List.replicate (l.length - i) ay.tz)[i]? = some [.int .i64 0, .int .i64 0, .nils, .nils] := (hrs ((0, 0), (0, 0))).1
  generalize nOg kI (l.take i) ps = T at hos |-
  unfold ib at hct
  repeat' (first | refine W_ ?_ | ((with_reducible apply aG); rfl; kernel_rfl; (repeat (first | exact aF.nil | ((with_reducible apply aF.cons); rfl))); exact hG; exact hct; exact .nil _; intro y hy; refine cI (tj _ _ _) ?_) | refine bE ?_)
  refine ag (i + 1, ps ++ [y]) ⟨by dsimp only; omega, by dsimp only; simp [hps]⟩ (by dsimp only; omega) (.of _ nw_ od_ ?_)
  dsimp only
  rw [hos y, <- (hrs y).2]
  exact qw _ _ T R
 ·obtain rfl : i = l.length := by omega
  rw [List.take_of_length_le (Nat.le_refl _), Nat.sub_self, List.replicate_zero, List.append_nil]
  repeat' refine W_ ?_
  exact av x_ rfl ((so, bo), ps) hps rfl (.cons _ _ _ _ (.app _ R)) (.refl _) (.tmp _ _ rfl) rfl
theorem si (hst : aB G) (lo : Nat) (x : ap) (hb : x.small 1048576) : CtM Tryz.prog G 114 [.agg [.int .i64 x.mark, .int .i64 x.code, .int .i64 x.pc, .int .i64 x.sender, .int .i64 x.outer, .int .i64 x.home, .int .i64 x.self.kind, .int .i64 x.self.number, .str x.self.text, .sl lo 3 (x.slots.map (ad.tw lo)), .sl lo 3 (x.stack.map (ad.tw lo)), .sl lo 3 (x.values.map (ad.tw lo)), .int .i64 x.other, .bool x.retry]] [] (fun _ : Pl × Pl × Pl => True) (fun y => kW x y) (fun y => .agg (ic x y)) := by
 refine aC Tryz.func114 rfl Tryz.ntmps114 rfl rfl rfl fun w0 R gs objsR hG hR => ?_
 obtain rfl := hR.inv0
 clear hR
 have h1 := fI hst lo x.slots hb.2.1
 have h2 := fI hst lo x.stack hb.2.2.1
 have h3 := fI hst lo x.values hb.2.2.2
 have hvc := jh hst lo x.self hb.1
 unfold ad.tw at hvc
 unfold kW ic
 repeat' (first | refine W_ ?_ | refine aD ?_ | (refine aj ?_; intro ss bb) | refine ac ?_ | refine ab hG hst (hvc) ?_ | ((with_reducible apply aG); rfl; kernel_rfl; (repeat (first | exact aF.nil | ((with_reducible apply aF.cons); rfl))); exact hG; exact h1; exact .nil _; intro y1 hy1; refine bm ?_) | ((with_reducible apply aG); rfl; kernel_rfl; (repeat (first | exact aF.nil | ((with_reducible apply aF.cons); rfl))); exact hG; exact h2; exact .nil _; intro y2 hy2; refine bm ?_) | ((with_reducible apply aG); rfl; kernel_rfl; (repeat (first | exact aF.nil | ((with_reducible apply aF.cons); rfl))); exact hG; exact h3; exact .nil _; intro y3 hy3; refine bm ?_))
 refine av x_ rfl (y1, y2, y3) trivial rfl (.cons _ _ _ _ (.cons _ _ _ _ (.cons _ _ _ _ (.nil R)))) pk_ (.cell _ _ _ _ _ rfl mm_ (by kernel_rfl) (by kernel_rfl) (by kernel_rfl)) rfl
theorem pg (hst : aB G) (lo : Nat) (l : List ap) (hb : l.length <= 1048576 /\ ∀ y ∈ l, ap.small 1048576 y) : CtM Tryz.prog G 39 [.sl lo 14 (l.map (ap.tw lo))] [] (fun y : Pl × List (Pl × Pl × Pl) => y.2.length = l.length) (fun y => aew l y) (fun y => .ms y.1.1 y.1.2 0 l.length) := by
 refine aC Tryz.func39 rfl Tryz.ntmps39 rfl rfl rfl fun w0 R gs objsR hG hR => ?_
 obtain rfl := hR.inv0
 clear hR
 have hlen := ap.len lo l
 have hl1 := hb.1
 have h0 : List.replicate l.length ap.tz = nRg ic (l.take 0) [] ++ List.replicate (l.length - 0) ap.tz := by simp [nRg]
 repeat' (first | refine W_ ?_ | (refine f9 ?_; intro ss bb))
 generalize ss = so; generalize bb = bo
 apply ak (X := Nat × List (Pl × Pl × Pl)) [0, 3, 1000000] (fun x => [(4, .int .i64 (x.1 : Int))]) (fun x => (so, bo, .row 14 (nRg ic (l.take x.1) x.2 ++ List.replicate (l.length - x.1) ap.tz)) :: (nOg kW (l.take x.1) x.2 ++ R)) (fun x => x.1 <= l.length /\ x.2.length = x.1) (fun x => l.length - x.1) (0, []) ⟨Nat.zero_le _, rfl⟩
 exact kp_; exact nw_
 ·rw [<- h0]; exact .refl _
 rintro ⟨i, ps⟩ ⟨hi, hps⟩
 dsimp only at hi hps |-
 by_cases hlt : i < l.length
 ·have hrs := fun p => aaB ic ap.tz hlt hps p
  have hos := fun p => xe kW hlt hps p
  have hra : (l.map (ap.tw lo))[i]? = some (l[i].tw lo) := aM hlt
  have hbi := hb.2 _ (List.getElem_mem hlt)
  generalize l[i] = x at hrs hos hra hbi
  have hct := si hst lo x hbi
  rw [show x.tw lo = [.int .i64 x.mark, .int .i64 x.code, .int .i64 x.pc, .int .i64 x.sender, .int .i64 x.outer, .int .i64 x.home, .int .i64 x.self.kind, .int .i64 x.self.number, .str x.self.text, .sl lo 3 (x.slots.map (ad.tw lo)), .sl lo 3 (x.stack.map (ad.tw lo)), .sl lo 3 (x.values.map (ad.tw lo)), .int .i64 x.other, .bool x.retry] from rfl] at hra
  have hrow : (nRg ic (l.take i) ps ++ List.replicate (l.length - i) ap.tz)[i]? = some [.int .i64 0, .int .i64 0, .int .i64 0, .int .i64 0, .int .i64 0, .int .i64 0, .int .i64 0, .int .i64 0, .str ⟨#[]⟩, .nils, .nils, .nils, .int .i64 0, .bool false] := (hrs ((0, 0), (0, 0), (0, 0))).1
  generalize nOg kW (l.take i) ps = T at hos |-
  unfold ic at hct
  repeat' (first | refine W_ ?_ | ((with_reducible apply aG); rfl; kernel_rfl; (repeat (first | exact aF.nil | ((with_reducible apply aF.cons); rfl))); exact hG; exact hct; exact .nil _; intro y hy; refine cI (tj _ _ _) ?_) | refine bE ?_)
  refine ag (i + 1, ps ++ [y]) ⟨by dsimp only; omega, by dsimp only; simp [hps]⟩ (by dsimp only; omega) (.of _ nw_ od_ ?_)
  dsimp only
  rw [hos y, <- (hrs y).2]
  exact qw _ _ T R
 ·obtain rfl : i = l.length := by omega
  rw [List.take_of_length_le (Nat.le_refl _), Nat.sub_self, List.replicate_zero, List.append_nil]
  repeat' refine W_ ?_
  exact av x_ rfl ((so, bo), ps) hps rfl (.cons _ _ _ _ (.app _ R)) (.refl _) (.tmp _ _ rfl) rfl
end
theorem nM (A L R : aH) : ((A ++ L) ++ R).Perm (L ++ (A ++ R)) := by
 rw [List.append_assoc]
 exact List.perm_append_comm_assoc A L R
theorem acF (A B C D E F R : aH) : ((A ++ (B ++ (C ++ (D ++ (E ++ F))))) ++ R).Perm (F ++ (E ++ (D ++ (C ++ (B ++ (A ++ R)))))) :=
 (nM A _ R).trans ((nM B _ _).trans ((nM C _ _).trans ((nM D _ _).trans (nM E _ _))))
section
variable {G : World -> Prop}
theorem uX (hst : aB G) (lo : Nat) (x : aJ) (hb : x.small 1048576) : CtM Tryz.prog G 37 [.agg (x.tw lo)] [] (stI x) (stO x) (fun y => .agg (stC x y)) := by
 refine aC Tryz.func37 rfl Tryz.ntmps37 rfl rfl rfl fun w0 R gs objsR hG hR => ?_
 obtain rfl := hR.inv0
 clear hR
 have c1 := gY hst lo x.classes hb.1
 have c2 := qG hst lo x.objects hb.2.1
 have c3 := kz hst lo x.output hb.2.2.1
 unfold aJ.tw
 repeat' (first | refine W_ ?_ | refine aD ?_ | (refine aj ?_; intro ss bb) | refine ac ?_ | ((with_reducible apply aG); rfl; kernel_rfl; (repeat (first | exact aF.nil | ((with_reducible apply aF.cons); rfl))); exact hG; (first | exact c1 | exact c2 | exact c3); exact .nil _; intro y hy; refine cI (kM _ _ _ _) ?_))
 rename_i yc hyc yd hyd
 refine av (t1 := .agg [.ms yc.1.1 yc.1.2 0 x.classes.length, .ms yd.1.1 yd.1.2 0 x.objects.length, .ms y.1 y.2 0 x.output.length, .int .i64 x.ticks, .int .i64 x.budget, .int .i64 x.made]) x_ rfl (yc, yd, y) ⟨hyc, hyd⟩ rfl (.app _ R) (.drop (.drop (.perm (vK _ _ _ R)))) (.cell _ _ _ _ _ rfl mm_ (by kernel_rfl) (by kernel_rfl) (by kernel_rfl)) rfl
theorem jY (hst : aB G) (lo : Nat) (x : ai) (hb : x.small 1048576) : CtM Tryz.prog G 9 [.agg (x.tw lo)] [] (imI x) (imO x) (fun y => .agg (imC x y)) := by
 refine aC Tryz.func9 rfl Tryz.ntmps9 rfl rfl rfl fun w0 R gs objsR hG hR => ?_
 obtain rfl := hR.inv0
 clear hR
 have c1 := px hst lo x.base hb.1
 have c2 := uX hst lo x.store hb.2.1
 have c3 := oS hst lo x.blocks hb.2.2.1
 have c4 := pg hst lo x.contexts hb.2.2.2.1
 have c5 := oY hst lo x.processes hb.2.2.2.2.1
 have c6 := qr hst lo x.ready hb.2.2.2.2.2.1
 have c7 := jh hst lo x.value hb.2.2.2.2.2.2.1
 unfold aw.tw cbC at c1
 unfold aJ.tw stC at c2
 unfold ad.tw at c7
 unfold ai.tw
 repeat' (first | refine W_ ?_ | refine aD ?_ | (refine aj ?_; intro ss bb) | refine ac ?_ | refine ab hG hst (c7) ?_ | ((with_reducible apply aG); rfl; kernel_rfl; (repeat (first | exact aF.nil | ((with_reducible apply aF.cons); rfl))); exact hG; (first | exact c1 | exact c2 | exact c3 | exact c4 | exact c5 | exact c6); exact .nil _; intro y hy; refine cI (kM _ _ _ _) ?_))
 rename_i y1 h1 y2 h2 y3 h3 y4 h4 y5 h5
 refine av (t1 := .agg [.ms y1.1.1.1 y1.1.1.2 0 x.base.classes.length, .ms y1.2.1.1.1 y1.2.1.1.2 0 x.base.codes.length, .ms y1.2.2.1 y1.2.2.2 0 x.base.entries.length, .int .i64 x.base.main, .ms y2.1.1.1 y2.1.1.2 0 x.store.classes.length, .ms y2.2.1.1.1 y2.2.1.1.2 0 x.store.objects.length, .ms y2.2.2.1 y2.2.2.2 0 x.store.output.length, .int .i64 x.store.ticks, .int .i64 x.store.budget, .int .i64 x.store.made, .ms y3.1 y3.2 0 x.blocks.length, .ms y4.1.1 y4.1.2 0 x.contexts.length, .ms y5.1 y5.2 0 x.processes.length, .ms y.1 y.2 0 x.ready.length, .int .i64 x.now, .int .i64 x.status, .int .i64 x.value.kind, .int .i64 x.value.number, .str x.value.text, .str x.fault]) x_ rfl (y1, y2, y3, y4, y5, y) ⟨h1, h2, h4⟩ rfl (.app _ R) (.drop (.drop (.perm (acF _ _ _ _ _ _ R)))) (.cell _ _ _ _ _ rfl mm_ (by kernel_rfl) (by kernel_rfl) (by kernel_rfl)) rfl
end
end Go.Proofs.YtofnnnpahglfdaaGreatDoor
