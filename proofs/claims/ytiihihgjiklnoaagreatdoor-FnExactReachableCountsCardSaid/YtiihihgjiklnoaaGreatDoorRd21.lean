/- Part 21 of the proof. -/
import Derived.Test.YtiihihgjiklnoaaGreatDoorRd3
import Derived.Test.YtiihihgjiklnoaaGreatDoorRd15
import Derived.Test.YtiihihgjiklnoaaGreatDoorRd12
set_option maxHeartbeats 8000000
set_option maxRecDepth 20000
namespace Go.Proofs.YtiihihgjiklnoaaGreatDoor
open Go Go.RowKit
section
variable {G : World -> Prop}
theorem rD (hst : ay G) (lo : Nat) (n : Int) (bl : Bool) (pr sl : Int) (is : List ai) (hn : is.length <= 1048576) : Ct Tryz.prog G 220 [.int .i64 n, .cp 0 [.bool bl, .int .i64 pr, .int .i64 sl, .sl lo 4 (is.map (ai.tw lo))]] (fun _ => .bool (inR n 0 ((is.length : Int) - 1))) := by
 refine ak Tryz.func220 rfl Tryz.ntmps220 rfl rfl fun w0 _ hG => ?_
 have hil := ai.len lo is
 repeat' (first | refine W_ ?_ | refine ac hG hst (aI _ _ _) ?_)
 exact r1_
theorem lJ (hst : ay G) (n least : Int) (bl : Bool) (pr sl : Int) (t : TV) : Ct Tryz.prog G 221 [.int .i64 n, .agg [.bool bl, .int .i64 pr, .int .i64 sl, t], .int .i64 least] (fun _ => .bool (inR n least (IntKind.i64.wrap (sl - 1)))) := by
 refine ak Tryz.func221 rfl Tryz.ntmps221 rfl rfl fun w0 _ hG => ?_
 repeat' (first | refine W_ ?_ | refine aF ?_ | refine ac hG hst (aI _ _ _) ?_)
 exact r1_
theorem tG (hst : ay G) (hse : ∀ s : ByteArray, s.size <= 1048576 -> Ct Tryz.prog G 135 [.str s] (fun _ => .bool (bY s.data.toList)))
   (lo lo2 : Nat) (cl : List aa) (cen : TV) (cs : List au) (mn : Int) (hcl : cl.length <= 1048576) (hcs : cs.length <= 1048576 /\ ∀ y ∈ cs, au.small 1048576 y) (o : List Int) (hinv : ch cs.length o) (k : Nat) (own : au) (hk : cs[k]? = some own) (hsl : 0 <= own.slots /\ own.slots <= 30)
   (x : ai) (hx : x.text.size <= 1048576) :
   Ct Tryz.prog G 139 [.agg [.sl lo 3 (cl.map (aa.tw lo)), .sl lo 4 (cs.map (au.tw lo)), cen, .int .i64 mn], .sl lo2 1 (aM o), .int .i64 (k : Int), .agg [.int .i64 x.op, .int .i64 x.a, .int .i64 x.b, .str x.text]] (fun _ => .bool (dZ cs cl.length o k own x)) := by
 obtain ⟨op, a, b, t⟩ := x
 dsimp only at hx |-
 refine ak Tryz.func139 rfl Tryz.ntmps139 rfl rfl fun w0 _ hG => ?_
 have hl1 := aa.len lo cl
 have hl2 := au.len lo cs
 have hll := ap o
 have hkl : k < cs.length := (List.getElem?_eq_some_iff.1 hk).1
 have hrk : (cs.map (au.tw lo))[k]? = some [.bool own.block, .int .i64 own.params, .int .i64 own.slots, .sl lo 4 (own.instrs.map (ai.tw lo))] := by rw [List.getElem?_map, hk]; rfl
 have hil := ai.len lo own.instrs
 have hin : own.instrs.length <= 1048576 := (hcs.2 own (List.mem_of_getElem? hk)).1
 have hw : IntKind.i64.wrap (own.slots - 1) = own.slots - 1 := IntWalk.i64_in _ (by omega)
 repeat' (first | refine H_ 2 ?_ | refine aF ?_ | refine ac hG hst (vu _) ?_)
 refine ⟨ck ?_⟩
 apply ez (X := Unit) [1, 2, 4, 7] (fun _ => [(54, .bool (!decide (du ⟨op, a, b, t⟩)))]) (fun _ => []) (fun _ => True)
 case hk => (repeat (first | exact gS.nil | (apply gS.cons; rfl)))
 ·clear hrk hk hinv hse hl1 hl2 hll hin hil
  repeat' (first | refine W_ ?_ | refine ac hG hst (aI _ _ _) ?_ | refine g_ (fun hg => ?_) (fun hg => ?_))
  all_goals
    refine dg () trivial (.of _ (jt.envCons (iE rfl ?_) jt.envNil) od_ pk_)
    simp only [Bool.not_eq_true', Bool.not_eq_false', ne_eq, Decidable.not_not] at *
    first
      | (simp [du, *]; done)
 intro _ _
 by_cases hh : du ⟨op, a, b, t⟩
 case neg =>
   have hB : dZ cs cl.length o k own ⟨op, a, b, t⟩ = false := by unfold dZ; rw [decide_eq_false hh]; rfl
   rw [hB, decide_eq_false hh, Bool.not_false]
   repeat' refine W_ ?_
   exact r1_
 have hB : dZ cs cl.length o k own ⟨op, a, b, t⟩ = cg cs cl.length o k own ⟨op, a, b, t⟩ := by unfold dZ; rw [decide_eq_true hh]; rfl
 rw [hB, decide_eq_true hh, Bool.not_true]
 have hinv' : ch o.length o := by rw [hinv.1]; exact hinv
 have hvf : dJ cs o k b = none -> rb cs o k ⟨op, a, b, t⟩ = false := fun h => by
   unfold rb
   dsimp only
   rw [h]
 clear hB hk
 repeat' (first | refine H_ 24 ?_ | (refine aj ?_; intro ss bb) | refine ad ?_ | refine kh ?_ | refine ac hG hst (aI _ _ _) ?_ | refine ac hG hst (qe hst _ hx) ?_ | refine ac hG hst (hse _ hx) ?_ | refine ac hG hst (fw _ hx) ?_ | ((with_reducible apply rB); rfl; rfl; kernel_rfl; exact hG; exact hst; (repeat (first | exact ee.nil | ((with_reducible apply ee.cons); rfl; exact .same _))); (repeat (first | exact il.nil | ((with_reducible apply il.cons); (first | ((with_reducible apply cF.mpSame); (repeat (first | with_reducible exact mh | with_reducible refine mt ?_))) | exact cF.same _)))); rfl; first | exact rD hst lo _ _ _ _ _ hin | exact lJ hst _ _ _ _ _ _) | refine c_ (fun hc => ?_) (fun hc => ?_) | refine g_ (fun hg => ?_) (fun hg => ?_))
 all_goals first
   | (refine aA x_ rfl (.tmp _ _ rfl) (fun _ => ?_)
      clear hrk hl1 hl2 hll hil hcs hse hh hinv
      refine aD ?_
      first
        | (simp [cg, *]; done))
   | (refine ⟨?_⟩
      generalize ss = s12; generalize bb = b12
      repeat' refine W_ ?_
      apply am (X := Nat) [1, 4, 7, 12, 14, 62] (fun n => [(15, .int .i64 (upN o n (k : Int))), (16, .int .i64 (n : Int))]) (fun _ => [(s12, b12, .box [.bool own.block, .int .i64 own.params, .int .i64 own.slots, .sl lo 4 (own.instrs.map (ai.tw lo))])]) (fun n => n <= b.toNat) (fun n => b.toNat - n) 0 (Nat.zero_le _)
      exact kp_; exact nw_
      ·exact .refl _
      intro n hn
      try dsimp only at hn |-
      have hol : o.length = cs.length := hinv.1
      have hup := qF hinv' n (k : Int) (.inr ⟨by omega, by omega⟩)
      by_cases hnb : (n : Int) < b
      ·by_cases hat : 0 <= upN o n (k : Int)
       ·obtain ⟨j, hj⟩ : ∃ j : Nat, upN o n (k : Int) = j := ⟨(upN o n (k : Int)).toNat, by omega⟩
        have hs := gO o n (k : Int)
        rw [if_neg (by omega), hj] at hs
        have hge := za hinv' (k := (k : Int)) ⟨by omega, by omega⟩ n hat
        rw [hj] at hup hge
        have hcl2 := hcs.1
        have hrow := ef (o := o) (j := j) (by omega)
        rw [hj]
        repeat' refine W_ ?_
        exact ah (n + 1) (by omega) (by omega) (.of _ nw_ od_ pk_)
       ·have hv := hvf (qB (n := n) (by omega) (by omega))
        repeat' refine W_ ?_
        refine aA x_ rfl (.tmp _ _ rfl) (fun _ => ?_)
        refine aD ?_
        clear hrk hl1 hl2 hll hil hcs hse hh hinv hvf
        subst_vars
        simp [cg, hv]
      ·by_cases hb0 : b < 0
       ·have hv := hvf (pz hb0)
        repeat' (first | refine W_ ?_ | refine g_ (fun hg => ?_) (fun hg => ?_))
        all_goals
          refine aA x_ rfl (.tmp _ _ rfl) (fun _ => ?_)
          refine aD ?_
          clear hrk hl1 hl2 hll hil hcs hse hh hinv hvf
          subst_vars
          simp [cg, hv]
       ·obtain rfl : b = (n : Int) := by omega
        by_cases hat : 0 <= upN o n (k : Int)
        ·obtain ⟨j, hj⟩ : ∃ j : Nat, upN o n (k : Int) = j := ⟨(upN o n (k : Int)).toNat, by omega⟩
         rw [hj] at hup
         have hjl : j < cs.length := by omega
         have hry := bA (lo := lo) hjl
         have hlev : dJ cs o k (n : Int) = some cs[j] := sL (by omega) (by rw [Int.toNat_natCast]; exact hj) (List.getElem?_eq_getElem hjl)
         generalize cs[j] = y at hry hlev
         rw [hj]
         repeat' (first | refine V_ ?_ | ((with_reducible apply aae); rfl; rfl; kernel_rfl; exact hG; exact hst; (repeat (first | exact ee.nil | ((with_reducible apply ee.cons); rfl; exact .same _))); (repeat (first | exact il.nil | ((with_reducible apply il.cons); (first | ((with_reducible apply cF.mpSame); (repeat (first | with_reducible exact mh | with_reducible refine mt ?_))) | exact cF.same _)))); rfl; exact lJ hst _ _ _ _ _ _))
         all_goals first
           | (refine aA x_ rfl (.tmp _ _ rfl) (fun _ => ?_)
              refine aD ?_
              clear hrk hl1 hl2 hll hil hcs hse hh hinv hvf
              subst_vars
              simp [cg, rb, hlev]; done)
        ·have hv := hvf (qB (n := n) (by omega) (by omega))
         repeat' refine W_ ?_
         refine aA x_ rfl (.tmp _ _ rfl) (fun _ => ?_)
         refine aD ?_
         clear hrk hl1 hl2 hll hil hcs hse hh hinv hvf
         subst_vars
         simp [cg, hv])
end
structure RS where
 met : List Bool
 out : List ByteArray
 todo : List Int
def acb : ByteArray := ⟨#[97, 115, 83, 121, 109, 98, 111, 108]⟩
def gb (l : List Bool) (k : Int) : Bool := l.getD k.toNat true
def ab3 (s : RS) (k : Int) : RS := if gb s.met k then s else ⟨s.met.set k.toNat true, s.out, s.todo ++ [k]⟩
def ab8 (l : List ByteArray) (t : ByteArray) : List ByteArray := if ig l t then l else l ++ [t]
def rsI (s : RS) (x : ai) : RS :=
 if x.op = 3 \/ x.op = 13 \/ x.op = 14 then ⟨s.met, ab8 s.out x.text, s.todo⟩ else if x.op = 15 then ab3 s x.a else s
def abA (l : List ai) (s : RS) : RS := l.foldl rsI s
def rsE (any : Bool) (s : RS) (e : aB) : RS := if !gb s.met e.code && (any || ig s.out e.selector) then ab3 s e.code else s
def aaW (any : Bool) (l : List aB) (s : RS) : RS := l.foldl (rsE any) s
def abp (cs : List au) (k : Int) : List ai := match cs[k.toNat]? with
 | some c => c.instrs
 | none => []
def mM (b : aC) (s : RS) : RS := match s.todo with
 | [] => aaW (ig s.out acb) b.entries s
 | k :: r => abA (abp b.codes k) ⟨s.met, s.out, r⟩
def rs0 (b : aC) : RS := ⟨(List.replicate b.codes.length false).set b.main.toNat true, [], [b.main]⟩
def aad (b : aC) : Nat -> RS
 | 0 => rs0 b
 | n + 1 => mM b (aad b n)
def Rs (b : aC) (s : RS) : Prop := ∃ n, s = aad b n
theorem Rs.step {b : aC} {s : RS} (h : Rs b s) : Rs b (mM b s) := by
 obtain ⟨n, rfl⟩ := h
 exact ⟨n + 1, rfl⟩
theorem n6 {b : aC} {n : Nat} (h : mM b (aad b n) = aad b n) : ∀ m, n <= m -> aad b m = aad b n
 | 0, hm => by obtain rfl : n = 0 := by omega
               rfl
 | m + 1, hm => by
   by_cases he : n = m + 1
   ·rw [he]
   ·show mM b (aad b m) = _
    rw [n6 h m (by omega), h]
theorem Rs.same {b : aC} {s t : RS} (h : Rs b s) (k : Rs b t) (hs : mM b s = s) (ht : mM b t = t) : s = t := by
 obtain ⟨n, rfl⟩ := h
 obtain ⟨m, rfl⟩ := k
 rcases Nat.le_total n m with h | h
 ·exact (n6 hs m h).symm
 ·exact n6 ht n h
structure acf (b : aC) : Prop where
 codes : b.codes.length <= 200
 main : 0 <= b.main /\ b.main < b.codes.length
 entries : ∀ e ∈ b.entries, 0 <= e.code /\ e.code < b.codes.length
 row : ∀ c ∈ b.codes, c.instrs.length <= 900 /\ ∀ x ∈ c.instrs, x.op = 15 -> 0 <= x.a /\ x.a < b.codes.length
def aba : List Bool -> Nat
 | [] => 0
 | b :: r => (if b then 0 else 1) + aba r
def RS.mu (s : RS) : Nat := s.todo.length + aba s.met
structure ace (b : aC) (n : Nat) (s : RS) : Prop where
 len : s.met.length = b.codes.length
 todo : ∀ k ∈ s.todo, 0 <= k /\ k < b.codes.length
 room : s.out.length + 900 * s.mu + n <= 180000
section
variable {G : World -> Prop}
end
section
variable {G : World -> Prop}
end
section
variable {G : World -> Prop}
end
end Go.Proofs.YtiihihgjiklnoaaGreatDoor
