/- Part 22 of the proof: the texts IvN, RsP, RsA, RsB, RsC. -/
import Derived.Test.YtigipcbnfeoliaaGreatDoorFi3
import Derived.Test.YtigipcbnfeoliaaGreatDoorFi15
import Derived.Test.YtigipcbnfeoliaaGreatDoorFi12
set_option linter.all false
set_option maxHeartbeats 8000000
set_option maxRecDepth 20000
namespace Go.Proofs.YtigipcbnfeoliaaGreatDoor
open Go Go.RowKit
section
variable {G : World -> Prop}
theorem vF (hst : aC G) (lo : Nat) (n : Int) (bl : Bool) (pr sl : Int) (is : List ag) (hn : is.length <= 1048576) : Ct Tryz.prog G 271 [.int .i64 n, .cp 0 [.bool bl, .int .i64 pr, .int .i64 sl, .sl lo 4 (is.map (ag.tw lo))]] (fun _ => .bool (inR n 0 ((is.length : Int) - 1))) := by
 refine aq Tryz.func271 rfl Tryz.ntmps271 rfl rfl fun w0 _ hG => ?_
 have hil := ag.len lo is
 repeat' (first | refine W_ ?_ | refine ac hG hst (aK _ _ _) ?_)
 exact r1_
theorem o5 (hst : aC G) (n least : Int) (bl : Bool) (pr sl : Int) (t : TV) : Ct Tryz.prog G 272 [.int .i64 n, .agg [.bool bl, .int .i64 pr, .int .i64 sl, t], .int .i64 least] (fun _ => .bool (inR n least (IntKind.i64.wrap (sl - 1)))) := by
 refine aq Tryz.func272 rfl Tryz.ntmps272 rfl rfl fun w0 _ hG => ?_
 repeat' (first | refine W_ ?_ | refine aJ ?_ | refine ac hG hst (aK _ _ _) ?_)
 exact r1_
theorem yw (hst : aC G) (hse : ∀ s : ByteArray, s.size <= 1048576 -> Ct Tryz.prog G 218 [.str s] (fun _ => .bool (cy s.data.toList)))
   (lo lo2 : Nat) (cl : List aa) (cen : TV) (cs : List aw) (mn : Int) (hcl : cl.length <= 1048576) (hcs : cs.length <= 1048576 /\ ∀ y ∈ cs, aw.small 1048576 y) (o : List Int) (hinv : cL cs.length o) (k : Nat) (own : aw) (hk : cs[k]? = some own) (hsl : 0 <= own.slots /\ own.slots <= 30)
   (x : ag) (hx : x.text.size <= 1048576) :
   Ct Tryz.prog G 221 [.agg [.sl lo 3 (cl.map (aa.tw lo)), .sl lo 4 (cs.map (aw.tw lo)), cen, .int .i64 mn], .sl lo2 1 (aR o), .int .i64 (k : Int), .agg [.int .i64 x.op, .int .i64 x.a, .int .i64 x.b, .str x.text]] (fun _ => .bool (fh cs cl.length o k own x)) := by
 obtain ⟨op, a, b, t⟩ := x
 dsimp only at hx |-
 refine aq Tryz.func221 rfl Tryz.ntmps221 rfl rfl fun w0 _ hG => ?_
 have hl1 := aa.len lo cl
 have hl2 := aw.len lo cs
 have hll := ar o
 have hkl : k < cs.length := (List.getElem?_eq_some_iff.1 hk).1
 have hrk : (cs.map (aw.tw lo))[k]? = some [.bool own.block, .int .i64 own.params, .int .i64 own.slots, .sl lo 4 (own.instrs.map (ag.tw lo))] := by rw [List.getElem?_map, hk]; rfl
 have hil := ag.len lo own.instrs
 have hin : own.instrs.length <= 1048576 := (hcs.2 own (List.mem_of_getElem? hk)).1
 have hw : IntKind.i64.wrap (own.slots - 1) = own.slots - 1 := IntWalk.i64_in _ (by omega)
 repeat' (first | refine H_ 2 ?_ | refine aJ ?_ | refine ac hG hst (tb _) ?_)
 refine ⟨dv ?_⟩
 apply fK (X := Unit) [1, 2, 4, 7] (fun _ => [(54, .bool (!decide (ew ⟨op, a, b, t⟩)))]) (fun _ => []) (fun _ => True)
 case hk => (repeat (first | exact jB.nil | (apply jB.cons; rfl)))
 ·clear hrk hk hinv hse hl1 hl2 hll hin hil
  repeat' (first | refine W_ ?_ | refine ac hG hst (aK _ _ _) ?_ | refine g_ (fun hg => ?_) (fun hg => ?_))
  all_goals
    refine ee () trivial (.of _ (bX.envCons (jZ rfl ?_) bX.envNil) od_ pk_)
    simp only [Bool.not_eq_true', Bool.not_eq_false', ne_eq, Decidable.not_not] at *
    first
      | (simp [ew, *]; done)
 intro _ _
 by_cases hh : ew ⟨op, a, b, t⟩
 case neg =>
   have hB : fh cs cl.length o k own ⟨op, a, b, t⟩ = false := by unfold fh; rw [decide_eq_false hh]; rfl
   rw [hB, decide_eq_false hh, Bool.not_false]
   repeat' refine W_ ?_
   exact r1_
 have hB : fh cs cl.length o k own ⟨op, a, b, t⟩ = cM cs cl.length o k own ⟨op, a, b, t⟩ := by unfold fh; rw [decide_eq_true hh]; rfl
 rw [hB, decide_eq_true hh, Bool.not_true]
 have hinv' : cL o.length o := by rw [hinv.1]; exact hinv
 have hvf : eN cs o k b = none -> vT cs o k ⟨op, a, b, t⟩ = false := fun h => by
   unfold vT
   dsimp only
   rw [h]
 clear hB hk
 repeat' (first | refine H_ 24 ?_ | (refine ak ?_; intro ss bb) | refine ae ?_ | refine nf ?_ | refine ac hG hst (aK _ _ _) ?_ | refine ac hG hst (tA hst _ hx) ?_ | refine ac hG hst (hse _ hx) ?_ | refine ac hG hst (gR _ hx) ?_ | ((with_reducible apply vS); rfl; rfl; kernel_rfl; exact hG; exact hst; (repeat (first | exact dg.nil | ((with_reducible apply dg.cons); rfl; exact .same _))); (repeat (first | exact j3.nil | ((with_reducible apply j3.cons); (first | ((with_reducible apply cz.mpSame); (repeat (first | with_reducible exact mh | with_reducible refine mt ?_))) | exact cz.same _)))); rfl; first | exact vF hst lo _ _ _ _ _ hin | exact o5 hst _ _ _ _ _ _) | refine c_ (fun hc => ?_) (fun hc => ?_) | refine g_ (fun hg => ?_) (fun hg => ?_))
 all_goals first
   | (refine aD x_ rfl (.tmp _ _ rfl) (fun _ => ?_)
      clear hrk hl1 hl2 hll hil hcs hse hh hinv
      refine aI ?_
      first
        | (simp [cM, *]; done))
   | (refine ⟨?_⟩
      generalize ss = s12; generalize bb = b12
      repeat' refine W_ ?_
      apply ai (X := Nat) [1, 4, 7, 12, 14, 62] (fun n => [(15, .int .i64 (upN o n (k : Int))), (16, .int .i64 (n : Int))]) (fun _ => [(s12, b12, .box [.bool own.block, .int .i64 own.params, .int .i64 own.slots, .sl lo 4 (own.instrs.map (ag.tw lo))])]) (fun n => n <= b.toNat) (fun n => b.toNat - n) 0 (Nat.zero_le _)
      exact kp_; exact nw_
      ·exact .refl _
      intro n hn
      try dsimp only at hn |-
      have hol : o.length = cs.length := hinv.1
      have hup := sL hinv' n (k : Int) (.inr ⟨by omega, by omega⟩)
      by_cases hnb : (n : Int) < b
      ·by_cases hat : 0 <= upN o n (k : Int)
       ·obtain ⟨j, hj⟩ : ∃ j : Nat, upN o n (k : Int) = j := ⟨(upN o n (k : Int)).toNat, by omega⟩
        have hs := jr o n (k : Int)
        rw [if_neg (by omega), hj] at hs
        have hge := ac1 hinv' (k := (k : Int)) ⟨by omega, by omega⟩ n hat
        rw [hj] at hup hge
        have hcl2 := hcs.1
        have hrow := fo (o := o) (j := j) (by omega)
        rw [hj]
        repeat' refine W_ ?_
        exact ah (n + 1) (by omega) (by omega) (.of _ nw_ od_ pk_)
       ·have hv := hvf (sN (n := n) (by omega) (by omega))
        repeat' refine W_ ?_
        refine aD x_ rfl (.tmp _ _ rfl) (fun _ => ?_)
        refine aI ?_
        clear hrk hl1 hl2 hll hil hcs hse hh hinv hvf
        subst_vars
        simp [cM, hv]
      ·by_cases hb0 : b < 0
       ·have hv := hvf (tC hb0)
        repeat' (first | refine W_ ?_ | refine g_ (fun hg => ?_) (fun hg => ?_))
        all_goals
          refine aD x_ rfl (.tmp _ _ rfl) (fun _ => ?_)
          refine aI ?_
          clear hrk hl1 hl2 hll hil hcs hse hh hinv hvf
          subst_vars
          simp [cM, hv]
       ·obtain rfl : b = (n : Int) := by omega
        by_cases hat : 0 <= upN o n (k : Int)
        ·obtain ⟨j, hj⟩ : ∃ j : Nat, upN o n (k : Int) = j := ⟨(upN o n (k : Int)).toNat, by omega⟩
         rw [hj] at hup
         have hjl : j < cs.length := by omega
         have hry := bP (lo := lo) hjl
         have hlev : eN cs o k (n : Int) = some cs[j] := xC (by omega) (by rw [Int.toNat_natCast]; exact hj) (List.getElem?_eq_getElem hjl)
         generalize cs[j] = y at hry hlev
         rw [hj]
         repeat' (first | refine V_ ?_ | ((with_reducible apply adU); rfl; rfl; kernel_rfl; exact hG; exact hst; (repeat (first | exact dg.nil | ((with_reducible apply dg.cons); rfl; exact .same _))); (repeat (first | exact j3.nil | ((with_reducible apply j3.cons); (first | ((with_reducible apply cz.mpSame); (repeat (first | with_reducible exact mh | with_reducible refine mt ?_))) | exact cz.same _)))); rfl; exact o5 hst _ _ _ _ _ _))
         all_goals first
           | (refine aD x_ rfl (.tmp _ _ rfl) (fun _ => ?_)
              refine aI ?_
              clear hrk hl1 hl2 hll hil hcs hse hh hinv hvf
              subst_vars
              simp [cM, vT, hlev]; done)
        ·have hv := hvf (sN (n := n) (by omega) (by omega))
         repeat' refine W_ ?_
         refine aD x_ rfl (.tmp _ _ rfl) (fun _ => ?_)
         refine aI ?_
         clear hrk hl1 hl2 hll hil hcs hse hh hinv hvf
         subst_vars
         simp [cM, hv])
end
structure RS where
 met : List Bool
 out : List ByteArray
 todo : List Int
def afY : ByteArray := ⟨#[97, 115, 83, 121, 109, 98, 111, 108]⟩
def gb (l : List Bool) (k : Int) : Bool := l.getD k.toNat true
def afT (s : RS) (k : Int) : RS := if gb s.met k then s else ⟨s.met.set k.toNat true, s.out, s.todo ++ [k]⟩
def afX (l : List ByteArray) (t : ByteArray) : List ByteArray := if j0 l t then l else l ++ [t]
def rsI (s : RS) (x : ag) : RS :=
 if x.op = 3 \/ x.op = 13 \/ x.op = 14 then ⟨s.met, afX s.out x.text, s.todo⟩ else if x.op = 15 then afT s x.a else s
def ae9 (l : List ag) (s : RS) : RS := l.foldl rsI s
def rsE (any : Bool) (s : RS) (e : av) : RS := if !gb s.met e.code && (any || j0 s.out e.selector) then afT s e.code else s
def aeS (any : Bool) (l : List av) (s : RS) : RS := l.foldl (rsE any) s
def afC (cs : List aw) (k : Int) : List ag := match cs[k.toNat]? with
 | some c => c.instrs
 | none => []
def qC (b : aA) (s : RS) : RS := match s.todo with
 | [] => aeS (j0 s.out afY) b.entries s
 | k :: r => ae9 (afC b.codes k) ⟨s.met, s.out, r⟩
def rs0 (b : aA) : RS := ⟨(List.replicate b.codes.length false).set b.main.toNat true, [], [b.main]⟩
def aee (b : aA) : Nat -> RS
 | 0 => rs0 b
 | n + 1 => qC b (aee b n)
def Rs (b : aA) (s : RS) : Prop := ∃ n, s = aee b n
theorem Rs.step {b : aA} {s : RS} (h : Rs b s) : Rs b (qC b s) := by
 obtain ⟨n, rfl⟩ := h
 exact ⟨n + 1, rfl⟩
theorem rK {b : aA} {n : Nat} (h : qC b (aee b n) = aee b n) : ∀ m, n <= m -> aee b m = aee b n
 | 0, hm => by obtain rfl : n = 0 := by omega
               rfl
 | m + 1, hm => by
   by_cases he : n = m + 1
   ·rw [he]
   ·show qC b (aee b m) = _
    rw [rK h m (by omega), h]
theorem Rs.same {b : aA} {s t : RS} (h : Rs b s) (k : Rs b t) (hs : qC b s = s) (ht : qC b t = t) : s = t := by
 obtain ⟨n, rfl⟩ := h
 obtain ⟨m, rfl⟩ := k
 rcases Nat.le_total n m with h | h
 ·exact (rK hs m h).symm
 ·exact rK ht n h
structure af4 (b : aA) : Prop where
 codes : b.codes.length <= 200
 main : 0 <= b.main /\ b.main < b.codes.length
 entries : ∀ e ∈ b.entries, 0 <= e.code /\ e.code < b.codes.length
 row : ∀ c ∈ b.codes, c.instrs.length <= 900 /\ ∀ x ∈ c.instrs, x.op = 15 -> 0 <= x.a /\ x.a < b.codes.length
def aeK : List Bool -> Nat
 | [] => 0
 | b :: r => (if b then 0 else 1) + aeK r
def RS.mu (s : RS) : Nat := s.todo.length + aeK s.met
structure af3 (b : aA) (n : Nat) (s : RS) : Prop where
 len : s.met.length = b.codes.length
 todo : ∀ k ∈ s.todo, 0 <= k /\ k < b.codes.length
 room : s.out.length + 900 * s.mu + n <= 180000
section
variable {G : World -> Prop}
end
section
variable {G : World -> Prop}
end
section
variable {G : World -> Prop}
end
end Go.Proofs.YtigipcbnfeoliaaGreatDoor
