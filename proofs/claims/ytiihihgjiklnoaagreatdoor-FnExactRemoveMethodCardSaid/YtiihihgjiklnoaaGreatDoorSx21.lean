/- Part 21 of the proof. -/
import Derived.Test.YtiihihgjiklnoaaGreatDoorSx15
import Derived.Test.YtiihihgjiklnoaaGreatDoorSx12
import Derived.Test.YtiihihgjiklnoaaGreatDoorSx3
set_option maxHeartbeats 8000000
set_option maxRecDepth 20000
namespace Go.Proofs.YtiihihgjiklnoaaGreatDoor
open Go Go.RowKit
structure RS where
 met : List Bool
 out : List ByteArray
 todo : List Int
def af2 : ByteArray := ⟨#[97, 115, 83, 121, 109, 98, 111, 108]⟩
def gb (l : List Bool) (k : Int) : Bool := l.getD k.toNat true
def afU (s : RS) (k : Int) : RS := if gb s.met k then s else ⟨s.met.set k.toNat true, s.out, s.todo ++ [k]⟩
def af3 (l : List ByteArray) (t : ByteArray) : List ByteArray := if j6 l t then l else l ++ [t]
def rsI (s : RS) (x : ah) : RS :=
 if x.op = 3 \/ x.op = 13 \/ x.op = 14 then ⟨s.met, af3 s.out x.text, s.todo⟩ else if x.op = 15 then afU s x.a else s
def afu (l : List ah) (s : RS) : RS := l.foldl rsI s
def rsE (any : Bool) (s : RS) (e : ar) : RS := if !gb s.met e.code && (any || j6 s.out e.selector) then afU s e.code else s
def aey (any : Bool) (l : List ar) (s : RS) : RS := l.foldl (rsE any) s
def afl (cs : List az) (k : Int) : List ah := match cs[k.toNat]? with
 | some c => c.instrs
 | none => []
def pO (b : aB) (s : RS) : RS := match s.todo with
 | [] => aey (j6 s.out af2) b.entries s
 | k :: r => afu (afl b.codes k) ⟨s.met, s.out, r⟩
def rs0 (b : aB) : RS := ⟨(List.replicate b.codes.length false).set b.main.toNat true, [], [b.main]⟩
def aec (b : aB) : Nat -> RS
 | 0 => rs0 b
 | n + 1 => pO b (aec b n)
def Rs (b : aB) (s : RS) : Prop := ∃ n, s = aec b n
theorem Rs.step {b : aB} {s : RS} (h : Rs b s) : Rs b (pO b s) := by
 obtain ⟨n, rfl⟩ := h
 exact ⟨n + 1, rfl⟩
theorem rc {b : aB} {n : Nat} (h : pO b (aec b n) = aec b n) : ∀ m, n <= m -> aec b m = aec b n
 | 0, hm => by obtain rfl : n = 0 := by omega
               rfl
 | m + 1, hm => by
   by_cases he : n = m + 1
   ·rw [he]
   ·show pO b (aec b m) = _
    rw [rc h m (by omega), h]
theorem Rs.same {b : aB} {s t : RS} (h : Rs b s) (k : Rs b t) (hs : pO b s = s) (ht : pO b t = t) : s = t := by
 obtain ⟨n, rfl⟩ := h
 obtain ⟨m, rfl⟩ := k
 rcases Nat.le_total n m with h | h
 ·exact (rc hs m h).symm
 ·exact rc ht n h
structure af8 (b : aB) : Prop where
 codes : b.codes.length <= 200
 main : 0 <= b.main /\ b.main < b.codes.length
 entries : ∀ e ∈ b.entries, 0 <= e.code /\ e.code < b.codes.length
 row : ∀ c ∈ b.codes, c.instrs.length <= 900 /\ ∀ x ∈ c.instrs, x.op = 15 -> 0 <= x.a /\ x.a < b.codes.length
def aeK : List Bool -> Nat
 | [] => 0
 | b :: r => (if b then 0 else 1) + aeK r
def RS.mu (s : RS) : Nat := s.todo.length + aeK s.met
structure af9 (b : aB) (n : Nat) (s : RS) : Prop where
 len : s.met.length = b.codes.length
 todo : ∀ k ∈ s.todo, 0 <= k /\ k < b.codes.length
 room : s.out.length + 900 * s.mu + n <= 180000
section
variable {G : World -> Prop}
end
section
variable {G : World -> Prop}
end
section
variable {G : World -> Prop}
end
section
variable {G : World -> Prop}
theorem wu (hst : ay G) (lo : Nat) (n : Int) (bl : Bool) (pr sl : Int) (is : List ah) (hn : is.length <= 1048576) : Ct Tryz.prog G 220 [.int .i64 n, .cp 0 [.bool bl, .int .i64 pr, .int .i64 sl, .sl lo 4 (is.map (ah.tw lo))]] (fun _ => .bool (inR n 0 ((is.length : Int) - 1))) := by
 refine ap Tryz.func220 rfl Tryz.ntmps220 rfl rfl fun w0 _ hG => ?_
 have hil := ah.len lo is
 repeat' (first | refine W_ ?_ | refine ab hG hst (aN _ _ _) ?_)
 exact r1_
theorem oQ (hst : ay G) (n least : Int) (bl : Bool) (pr sl : Int) (t : TV) : Ct Tryz.prog G 221 [.int .i64 n, .agg [.bool bl, .int .i64 pr, .int .i64 sl, t], .int .i64 least] (fun _ => .bool (inR n least (IntKind.i64.wrap (sl - 1)))) := by
 refine ap Tryz.func221 rfl Tryz.ntmps221 rfl rfl fun w0 _ hG => ?_
 repeat' (first | refine W_ ?_ | refine aL ?_ | refine ab hG hst (aN _ _ _) ?_)
 exact r1_
theorem yV (hst : ay G) (hse : ∀ s : ByteArray, s.size <= 1048576 -> Ct Tryz.prog G 135 [.str s] (fun _ => .bool (cS s.data.toList)))
   (lo lo2 : Nat) (cl : List aa) (cen : TV) (cs : List az) (mn : Int) (hcl : cl.length <= 1048576) (hcs : cs.length <= 1048576 /\ ∀ y ∈ cs, az.small 1048576 y) (o : List Int) (hinv : db cs.length o) (k : Nat) (own : az) (hk : cs[k]? = some own) (hsl : 0 <= own.slots /\ own.slots <= 30)
   (x : ah) (hx : x.text.size <= 1048576) :
   Ct Tryz.prog G 139 [.agg [.sl lo 3 (cl.map (aa.tw lo)), .sl lo 4 (cs.map (az.tw lo)), cen, .int .i64 mn], .sl lo2 1 (aS o), .int .i64 (k : Int), .agg [.int .i64 x.op, .int .i64 x.a, .int .i64 x.b, .str x.text]] (fun _ => .bool (fB cs cl.length o k own x)) := by
 obtain ⟨op, a, b, t⟩ := x
 dsimp only at hx |-
 refine ap Tryz.func139 rfl Tryz.ntmps139 rfl rfl fun w0 _ hG => ?_
 have hl1 := aa.len lo cl
 have hl2 := az.len lo cs
 have hll := am o
 have hkl : k < cs.length := (List.getElem?_eq_some_iff.1 hk).1
 have hrk : (cs.map (az.tw lo))[k]? = some [.bool own.block, .int .i64 own.params, .int .i64 own.slots, .sl lo 4 (own.instrs.map (ah.tw lo))] := by rw [List.getElem?_map, hk]; rfl
 have hil := ah.len lo own.instrs
 have hin : own.instrs.length <= 1048576 := (hcs.2 own (List.mem_of_getElem? hk)).1
 have hw : IntKind.i64.wrap (own.slots - 1) = own.slots - 1 := IntWalk.i64_in _ (by omega)
 repeat' (first | refine H_ 2 ?_ | refine aL ?_ | refine ab hG hst (aaa _) ?_)
 refine ⟨dc ?_⟩
 apply f6 (X := Unit) [1, 2, 4, 7] (fun _ => [(54, .bool (!decide (ew ⟨op, a, b, t⟩)))]) (fun _ => []) (fun _ => True)
 case hk => (repeat (first | exact jg.nil | (apply jg.cons; rfl)))
 ·clear hrk hk hinv hse hl1 hl2 hll hin hil
  repeat' (first | refine W_ ?_ | refine ab hG hst (aN _ _ _) ?_ | refine g_ (fun hg => ?_) (fun hg => ?_))
  all_goals
    refine ep () trivial (.of _ (cw.envCons (jb rfl ?_) cw.envNil) od_ pk_)
    simp only [Bool.not_eq_true', Bool.not_eq_false', ne_eq, Decidable.not_not] at *
    first
      | (simp [ew, *]; done)
 intro _ _
 by_cases hh : ew ⟨op, a, b, t⟩
 case neg =>
   have hB : fB cs cl.length o k own ⟨op, a, b, t⟩ = false := by unfold fB; rw [decide_eq_false hh]; rfl
   rw [hB, decide_eq_false hh, Bool.not_false]
   repeat' refine W_ ?_
   exact r1_
 have hB : fB cs cl.length o k own ⟨op, a, b, t⟩ = cZ cs cl.length o k own ⟨op, a, b, t⟩ := by unfold fB; rw [decide_eq_true hh]; rfl
 rw [hB, decide_eq_true hh, Bool.not_true]
 have hinv' : db o.length o := by rw [hinv.1]; exact hinv
 have hvf : fc cs o k b = none -> vy cs o k ⟨op, a, b, t⟩ = false := fun h => by
   unfold vy
   dsimp only
   rw [h]
 clear hB hk
 repeat' (first | refine H_ 24 ?_ | (refine ai ?_; intro ss bb) | refine ac ?_ | refine kw ?_ | refine ab hG hst (aN _ _ _) ?_ | refine ab hG hst (tJ hst _ hx) ?_ | refine ab hG hst (hse _ hx) ?_ | refine ab hG hst (iH _ hx) ?_ | ((with_reducible apply kh); rfl; rfl; kernel_rfl; exact hG; exact hst; (repeat (first | exact bI.nil | ((with_reducible apply bI.cons); rfl; exact .same _))); (repeat (first | exact fZ.nil | ((with_reducible apply fZ.cons); (first | ((with_reducible apply bR.mpSame); (repeat (first | with_reducible exact mh | with_reducible refine mt ?_))) | exact bR.same _)))); rfl; first | exact wu hst lo _ _ _ _ _ hin | exact oQ hst _ _ _ _ _ _) | refine c_ (fun hc => ?_) (fun hc => ?_) | refine g_ (fun hg => ?_) (fun hg => ?_))
 all_goals first
   | (refine aE x_ rfl (.tmp _ _ rfl) (fun _ => ?_)
      clear hrk hl1 hl2 hll hil hcs hse hh hinv
      refine aM ?_
      first
        | (simp [cZ, *]; done))
   | (refine ⟨?_⟩
      generalize ss = s12; generalize bb = b12
      repeat' refine W_ ?_
      apply aj (X := Nat) [1, 4, 7, 12, 14, 62] (fun n => [(15, .int .i64 (upN o n (k : Int))), (16, .int .i64 (n : Int))]) (fun _ => [(s12, b12, .box [.bool own.block, .int .i64 own.params, .int .i64 own.slots, .sl lo 4 (own.instrs.map (ah.tw lo))])]) (fun n => n <= b.toNat) (fun n => b.toNat - n) 0 (Nat.zero_le _)
      exact kp_; exact nw_
      ·exact .refl _
      intro n hn
      try dsimp only at hn |-
      have hol : o.length = cs.length := hinv.1
      have hup := uc hinv' n (k : Int) (.inr ⟨by omega, by omega⟩)
      by_cases hnb : (n : Int) < b
      ·by_cases hat : 0 <= upN o n (k : Int)
       ·obtain ⟨j, hj⟩ : ∃ j : Nat, upN o n (k : Int) = j := ⟨(upN o n (k : Int)).toNat, by omega⟩
        have hs := jC o n (k : Int)
        rw [if_neg (by omega), hj] at hs
        have hge := ac4 hinv' (k := (k : Int)) ⟨by omega, by omega⟩ n hat
        rw [hj] at hup hge
        have hcl2 := hcs.1
        have hrow := fG (o := o) (j := j) (by omega)
        rw [hj]
        repeat' refine W_ ?_
        exact ag (n + 1) (by omega) (by omega) (.of _ nw_ od_ pk_)
       ·have hv := hvf (sD (n := n) (by omega) (by omega))
        repeat' refine W_ ?_
        refine aE x_ rfl (.tmp _ _ rfl) (fun _ => ?_)
        refine aM ?_
        clear hrk hl1 hl2 hll hil hcs hse hh hinv hvf
        subst_vars
        simp [cZ, hv]
      ·by_cases hb0 : b < 0
       ·have hv := hvf (tf hb0)
        repeat' (first | refine W_ ?_ | refine g_ (fun hg => ?_) (fun hg => ?_))
        all_goals
          refine aE x_ rfl (.tmp _ _ rfl) (fun _ => ?_)
          refine aM ?_
          clear hrk hl1 hl2 hll hil hcs hse hh hinv hvf
          subst_vars
          simp [cZ, hv]
       ·obtain rfl : b = (n : Int) := by omega
        by_cases hat : 0 <= upN o n (k : Int)
        ·obtain ⟨j, hj⟩ : ∃ j : Nat, upN o n (k : Int) = j := ⟨(upN o n (k : Int)).toNat, by omega⟩
         rw [hj] at hup
         have hjl : j < cs.length := by omega
         have hry := bZ (lo := lo) hjl
         have hlev : fc cs o k (n : Int) = some cs[j] := wS (by omega) (by rw [Int.toNat_natCast]; exact hj) (List.getElem?_eq_getElem hjl)
         generalize cs[j] = y at hry hlev
         rw [hj]
         repeat' (first | refine V_ ?_ | ((with_reducible apply ad9); rfl; rfl; kernel_rfl; exact hG; exact hst; (repeat (first | exact bI.nil | ((with_reducible apply bI.cons); rfl; exact .same _))); (repeat (first | exact fZ.nil | ((with_reducible apply fZ.cons); (first | ((with_reducible apply bR.mpSame); (repeat (first | with_reducible exact mh | with_reducible refine mt ?_))) | exact bR.same _)))); rfl; exact oQ hst _ _ _ _ _ _))
         all_goals first
           | (refine aE x_ rfl (.tmp _ _ rfl) (fun _ => ?_)
              refine aM ?_
              clear hrk hl1 hl2 hll hil hcs hse hh hinv hvf
              subst_vars
              simp [cZ, vy, hlev]; done)
        ·have hv := hvf (sD (n := n) (by omega) (by omega))
         repeat' refine W_ ?_
         refine aE x_ rfl (.tmp _ _ rfl) (fun _ => ?_)
         refine aM ?_
         clear hrk hl1 hl2 hll hil hcs hse hh hinv hvf
         subst_vars
         simp [cZ, hv])
end
end Go.Proofs.YtiihihgjiklnoaaGreatDoor
