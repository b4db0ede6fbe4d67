/- Part 21 of the proof: the texts RsP, RsA, RsB, RsC, IvN. -/
import Derived.Test.YtiihihgjiklnoaaGreatDoorSr15
import Derived.Test.YtiihihgjiklnoaaGreatDoorSr12
import Derived.Test.YtiihihgjiklnoaaGreatDoorSr3
set_option linter.all false
set_option maxHeartbeats 8000000
set_option maxRecDepth 20000
namespace Go.Proofs.YtiihihgjiklnoaaGreatDoor
open Go Go.RowKit
structure RS where
 met : List Bool
 out : List ByteArray
 todo : List Int
def afJ : ByteArray := ⟨#[97, 115, 83, 121, 109, 98, 111, 108]⟩
def gb (l : List Bool) (k : Int) : Bool := l.getD k.toNat true
def afy (s : RS) (k : Int) : RS := if gb s.met k then s else ⟨s.met.set k.toNat true, s.out, s.todo ++ [k]⟩
def afG (l : List ByteArray) (t : ByteArray) : List ByteArray := if j6 l t then l else l ++ [t]
def rsI (s : RS) (x : ah) : RS :=
 if x.op = 3 \/ x.op = 13 \/ x.op = 14 then ⟨s.met, afG s.out x.text, s.todo⟩ else if x.op = 15 then afy s x.a else s
def afl (l : List ah) (s : RS) : RS := l.foldl rsI s
def rsE (any : Bool) (s : RS) (e : aA) : RS := if !gb s.met e.code && (any || j6 s.out e.selector) then afy s e.code else s
def aeq (any : Bool) (l : List aA) (s : RS) : RS := l.foldl (rsE any) s
def ae5 (cs : List aC) (k : Int) : List ah := match cs[k.toNat]? with
 | some c => c.instrs
 | none => []
def qc (b : aD) (s : RS) : RS := match s.todo with
 | [] => aeq (j6 s.out afJ) b.entries s
 | k :: r => afl (ae5 b.codes k) ⟨s.met, s.out, r⟩
def rs0 (b : aD) : RS := ⟨(List.replicate b.codes.length false).set b.main.toNat true, [], [b.main]⟩
def ads (b : aD) : Nat -> RS
 | 0 => rs0 b
 | n + 1 => qc b (ads b n)
def Rs (b : aD) (s : RS) : Prop := ∃ n, s = ads b n
theorem Rs.step {b : aD} {s : RS} (h : Rs b s) : Rs b (qc b s) := by
 obtain ⟨n, rfl⟩ := h
 exact ⟨n + 1, rfl⟩
theorem re {b : aD} {n : Nat} (h : qc b (ads b n) = ads b n) : ∀ m, n <= m -> ads b m = ads b n
 | 0, hm => by obtain rfl : n = 0 := by omega
               rfl
 | m + 1, hm => by
   by_cases he : n = m + 1
   ·rw [he]
   ·show qc b (ads b m) = _
    rw [re h m (by omega), h]
theorem Rs.same {b : aD} {s t : RS} (h : Rs b s) (k : Rs b t) (hs : qc b s = s) (ht : qc b t = t) : s = t := by
 obtain ⟨n, rfl⟩ := h
 obtain ⟨m, rfl⟩ := k
 rcases Nat.le_total n m with h | h
 ·exact (re hs m h).symm
 ·exact re ht n h
structure afL (b : aD) : Prop where
 codes : b.codes.length <= 200
 main : 0 <= b.main /\ b.main < b.codes.length
 entries : ∀ e ∈ b.entries, 0 <= e.code /\ e.code < b.codes.length
 row : ∀ c ∈ b.codes, c.instrs.length <= 900 /\ ∀ x ∈ c.instrs, x.op = 15 -> 0 <= x.a /\ x.a < b.codes.length
def ad1 : List Bool -> Nat
 | [] => 0
 | b :: r => (if b then 0 else 1) + ad1 r
def RS.mu (s : RS) : Nat := s.todo.length + ad1 s.met
structure afM (b : aD) (n : Nat) (s : RS) : Prop where
 len : s.met.length = b.codes.length
 todo : ∀ k ∈ s.todo, 0 <= k /\ k < b.codes.length
 room : s.out.length + 900 * s.mu + n <= 180000
section
variable {G : World -> Prop}
end
section
variable {G : World -> Prop}
end
section
variable {G : World -> Prop}
end
section
variable {G : World -> Prop}
theorem vP (hst : az G) (lo : Nat) (n : Int) (bl : Bool) (pr sl : Int) (is : List ah) (hn : is.length <= 1048576) : Ct Tryz.prog G 220 [.int .i64 n, .cp 0 [.bool bl, .int .i64 pr, .int .i64 sl, .sl lo 4 (is.map (ah.tw lo))]] (fun _ => .bool (inR n 0 ((is.length : Int) - 1))) := by
 refine aq Tryz.func220 rfl Tryz.ntmps220 rfl rfl fun w0 _ hG => ?_
 have hil := ah.len lo is
 repeat' (first | refine W_ ?_ | refine ad hG hst (aN _ _ _) ?_)
 exact r1_
theorem oe (hst : az G) (n least : Int) (bl : Bool) (pr sl : Int) (t : TV) : Ct Tryz.prog G 221 [.int .i64 n, .agg [.bool bl, .int .i64 pr, .int .i64 sl, t], .int .i64 least] (fun _ => .bool (inR n least (IntKind.i64.wrap (sl - 1)))) := by
 refine aq Tryz.func221 rfl Tryz.ntmps221 rfl rfl fun w0 _ hG => ?_
 repeat' (first | refine W_ ?_ | refine aM ?_ | refine ad hG hst (aN _ _ _) ?_)
 exact r1_
theorem xQ (hst : az G) (hse : ∀ s : ByteArray, s.size <= 1048576 -> Ct Tryz.prog G 135 [.str s] (fun _ => .bool (cO s.data.toList)))
   (lo lo2 : Nat) (cl : List aa) (cen : TV) (cs : List aC) (mn : Int) (hcl : cl.length <= 1048576) (hcs : cs.length <= 1048576 /\ ∀ y ∈ cs, aC.small 1048576 y) (o : List Int) (hinv : dc cs.length o) (k : Nat) (own : aC) (hk : cs[k]? = some own) (hsl : 0 <= own.slots /\ own.slots <= 30)
   (x : ah) (hx : x.text.size <= 1048576) :
   Ct Tryz.prog G 139 [.agg [.sl lo 3 (cl.map (aa.tw lo)), .sl lo 4 (cs.map (aC.tw lo)), cen, .int .i64 mn], .sl lo2 1 (aS o), .int .i64 (k : Int), .agg [.int .i64 x.op, .int .i64 x.a, .int .i64 x.b, .str x.text]] (fun _ => .bool (fi cs cl.length o k own x)) := by
 obtain ⟨op, a, b, t⟩ := x
 dsimp only at hx |-
 refine aq Tryz.func139 rfl Tryz.ntmps139 rfl rfl fun w0 _ hG => ?_
 have hl1 := aa.len lo cl
 have hl2 := aC.len lo cs
 have hll := ai o
 have hkl : k < cs.length := (List.getElem?_eq_some_iff.1 hk).1
 have hrk : (cs.map (aC.tw lo))[k]? = some [.bool own.block, .int .i64 own.params, .int .i64 own.slots, .sl lo 4 (own.instrs.map (ah.tw lo))] := by rw [List.getElem?_map, hk]; rfl
 have hil := ah.len lo own.instrs
 have hin : own.instrs.length <= 1048576 := (hcs.2 own (List.mem_of_getElem? hk)).1
 have hw : IntKind.i64.wrap (own.slots - 1) = own.slots - 1 := IntWalk.i64_in _ (by omega)
 repeat' (first | refine H_ 2 ?_ | refine aM ?_ | refine ad hG hst (zR _) ?_)
 refine ⟨dF ?_⟩
 apply f3 (X := Unit) [1, 2, 4, 7] (fun _ => [(54, .bool (!decide (eo ⟨op, a, b, t⟩)))]) (fun _ => []) (fun _ => True)
 case hk => (repeat (first | exact jF.nil | (apply jF.cons; rfl)))
 ·clear hrk hk hinv hse hl1 hl2 hll hin hil
  repeat' (first | refine W_ ?_ | refine ad hG hst (aN _ _ _) ?_ | refine g_ (fun hg => ?_) (fun hg => ?_))
  all_goals
    refine ei () trivial (.of _ (cE.envCons (j0 rfl ?_) cE.envNil) od_ pk_)
    simp only [Bool.not_eq_true', Bool.not_eq_false', ne_eq, Decidable.not_not] at *
    first
      | (simp [eo, *]; done)
 intro _ _
 by_cases hh : eo ⟨op, a, b, t⟩
 case neg =>
   have hB : fi cs cl.length o k own ⟨op, a, b, t⟩ = false := by unfold fi; rw [decide_eq_false hh]; rfl
   rw [hB, decide_eq_false hh, Bool.not_false]
   repeat' refine W_ ?_
   exact r1_
 have hB : fi cs cl.length o k own ⟨op, a, b, t⟩ = da cs cl.length o k own ⟨op, a, b, t⟩ := by unfold fi; rw [decide_eq_true hh]; rfl
 rw [hB, decide_eq_true hh, Bool.not_true]
 have hinv' : dc o.length o := by rw [hinv.1]; exact hinv
 have hvf : eR cs o k b = none -> vq cs o k ⟨op, a, b, t⟩ = false := fun h => by
   unfold vq
   dsimp only
   rw [h]
 clear hB hk
 repeat' (first | refine H_ 24 ?_ | (refine am ?_; intro ss bb) | refine ac ?_ | refine lJ ?_ | refine ad hG hst (aN _ _ _) ?_ | refine ad hG hst (tg hst _ hx) ?_ | refine ad hG hst (hse _ hx) ?_ | refine ad hG hst (iD _ hx) ?_ | ((with_reducible apply va); rfl; rfl; kernel_rfl; exact hG; exact hst; (repeat (first | exact bV.nil | ((with_reducible apply bV.cons); rfl; exact .same _))); (repeat (first | exact j1.nil | ((with_reducible apply j1.cons); (first | ((with_reducible apply bW.mpSame); (repeat (first | with_reducible exact mh | with_reducible refine mt ?_))) | exact bW.same _)))); rfl; first | exact vP hst lo _ _ _ _ _ hin | exact oe hst _ _ _ _ _ _) | refine c_ (fun hc => ?_) (fun hc => ?_) | refine g_ (fun hg => ?_) (fun hg => ?_))
 all_goals first
   | (refine aI x_ rfl (.tmp _ _ rfl) (fun _ => ?_)
      clear hrk hl1 hl2 hll hil hcs hse hh hinv
      refine aL ?_
      first
        | (simp [da, *]; done))
   | (refine ⟨?_⟩
      generalize ss = s12; generalize bb = b12
      repeat' refine W_ ?_
      apply ak (X := Nat) [1, 4, 7, 12, 14, 62] (fun n => [(15, .int .i64 (upN o n (k : Int))), (16, .int .i64 (n : Int))]) (fun _ => [(s12, b12, .box [.bool own.block, .int .i64 own.params, .int .i64 own.slots, .sl lo 4 (own.instrs.map (ah.tw lo))])]) (fun n => n <= b.toNat) (fun n => b.toNat - n) 0 (Nat.zero_le _)
      exact kp_; exact nw_
      ·exact .refl _
      intro n hn
      try dsimp only at hn |-
      have hol : o.length = cs.length := hinv.1
      have hup := tA hinv' n (k : Int) (.inr ⟨by omega, by omega⟩)
      by_cases hnb : (n : Int) < b
      ·by_cases hat : 0 <= upN o n (k : Int)
       ·obtain ⟨j, hj⟩ : ∃ j : Nat, upN o n (k : Int) = j := ⟨(upN o n (k : Int)).toNat, by omega⟩
        have hs := jt o n (k : Int)
        rw [if_neg (by omega), hj] at hs
        have hge := acs hinv' (k := (k : Int)) ⟨by omega, by omega⟩ n hat
        rw [hj] at hup hge
        have hcl2 := hcs.1
        have hrow := fu (o := o) (j := j) (by omega)
        rw [hj]
        repeat' refine W_ ?_
        exact ag (n + 1) (by omega) (by omega) (.of _ nw_ od_ pk_)
       ·have hv := hvf (tq (n := n) (by omega) (by omega))
        repeat' refine W_ ?_
        refine aI x_ rfl (.tmp _ _ rfl) (fun _ => ?_)
        refine aL ?_
        clear hrk hl1 hl2 hll hil hcs hse hh hinv hvf
        subst_vars
        simp [da, hv]
      ·by_cases hb0 : b < 0
       ·have hv := hvf (tN hb0)
        repeat' (first | refine W_ ?_ | refine g_ (fun hg => ?_) (fun hg => ?_))
        all_goals
          refine aI x_ rfl (.tmp _ _ rfl) (fun _ => ?_)
          refine aL ?_
          clear hrk hl1 hl2 hll hil hcs hse hh hinv hvf
          subst_vars
          simp [da, hv]
       ·obtain rfl : b = (n : Int) := by omega
        by_cases hat : 0 <= upN o n (k : Int)
        ·obtain ⟨j, hj⟩ : ∃ j : Nat, upN o n (k : Int) = j := ⟨(upN o n (k : Int)).toNat, by omega⟩
         rw [hj] at hup
         have hjl : j < cs.length := by omega
         have hry := bS (lo := lo) hjl
         have hlev : eR cs o k (n : Int) = some cs[j] := wS (by omega) (by rw [Int.toNat_natCast]; exact hj) (List.getElem?_eq_getElem hjl)
         generalize cs[j] = y at hry hlev
         rw [hj]
         repeat' (first | refine V_ ?_ | ((with_reducible apply ada); rfl; rfl; kernel_rfl; exact hG; exact hst; (repeat (first | exact bV.nil | ((with_reducible apply bV.cons); rfl; exact .same _))); (repeat (first | exact j1.nil | ((with_reducible apply j1.cons); (first | ((with_reducible apply bW.mpSame); (repeat (first | with_reducible exact mh | with_reducible refine mt ?_))) | exact bW.same _)))); rfl; exact oe hst _ _ _ _ _ _))
         all_goals first
           | (refine aI x_ rfl (.tmp _ _ rfl) (fun _ => ?_)
              refine aL ?_
              clear hrk hl1 hl2 hll hil hcs hse hh hinv hvf
              subst_vars
              simp [da, vq, hlev]; done)
        ·have hv := hvf (tq (n := n) (by omega) (by omega))
         repeat' refine W_ ?_
         refine aI x_ rfl (.tmp _ _ rfl) (fun _ => ?_)
         refine aL ?_
         clear hrk hl1 hl2 hll hil hcs hse hh hinv hvf
         subst_vars
         simp [da, hv])
end
end Go.Proofs.YtiihihgjiklnoaaGreatDoor
