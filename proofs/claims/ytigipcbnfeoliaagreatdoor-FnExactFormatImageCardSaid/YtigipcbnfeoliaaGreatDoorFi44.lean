/- Part 44 of the proof: the texts FiD. -/
import Derived.Test.YtigipcbnfeoliaaGreatDoorFi3
import Derived.Test.YtigipcbnfeoliaaGreatDoorFi39
import Derived.Test.YtigipcbnfeoliaaGreatDoorFi12
set_option linter.all false
set_option maxHeartbeats 2000000
set_option maxRecDepth 20000
namespace Go.Proofs.YtigipcbnfeoliaaGreatDoor
open Go Go.RowKit
section
variable {P : Program} {w0 : World} {N : Nat} {Q : Exit -> Act -> World -> Prop} {objs : aF} {ops : Array Oper} {K : List Mki -> (Pt -> Env) -> Prop} {c : Nat} {L : List Mki} {rest : List Oper} {E : Pt -> Env} {d T0 : Nat} {pos : String} {af : Array Edge}
theorem gr {G : World -> Prop} {f : Nat} {xs : List Operand} {ts : Array TypeId} {args : List TV} {Y : Type} [Enc Y] {I : Y -> Prop} {O : Y -> aF} {r : Y -> TV} (hG : G w0) (hct : CtM P G f args [] I O r) (hN : Nat.blt d N = true) (hc : gw P f = true) (hargs : ∀ p, ay (E p) xs args)
   (h : DM P w0 N ops objs K (c + 1) (⟨c, fun p => O (Enc.dec (p c)), none, fun y => I (Enc.dec y)⟩ :: L) rest (fun p => (d, r (Enc.dec (p c))) :: E p)) : DM P w0 N ops objs K c L (⟨some d, .call { callee := .value (.func f), args := xs.toArray, argTypes := ts }, T0, pos, af, none⟩ :: rest) E :=
 .make c L _ rest E d (fun p => O (Enc.dec (p c))) none (fun y => I (Enc.dec y)) (fun p => r (Enc.dec (p c))) rfl hN rfl (ae5 fun y => r (Enc.dec y)) (ae5 fun y => O (Enc.dec y)) (fun _ h => by cases h) (fun p R hR => by
   have := xS (P := P) (w0 := w0) (env := E p) (R := R) (dd := some d) (T0 := T0) (pos := pos) (af := af) (g := none) (ts := ts) hc hct (hargs p) hG
   simpa only [Pt.put_eq, uG] using this) h
end
theorem wo {c : Nat} {a b : List ByteArray} (h : ∀ x ∈ a, ByteArray.size x <= c) (k : ∀ x ∈ b, ByteArray.size x <= c) : ∀ x ∈ a ++ b, ByteArray.size x <= c := fun x hx => by
 rcases List.mem_append.1 hx with hx | hx
 ·exact h x hx
 ·exact k x hx
theorem zC {l : List Int} (hl : ∀ n ∈ l, i64 n) : ∀ x ∈ l.map ba, ByteArray.size x <= 2097200 := fun x hx => by
 obtain ⟨n, hn, rfl⟩ := List.mem_map.1 hx
 have := cK (hl n hn); omega
theorem ae1 {l : List ab} (hl : ∀ v ∈ l, v.sane /\ v.text.size <= 1048576) (hn : l.length <= 1048576) : ∀ x ∈ dh l, ByteArray.size x <= 2097200 := fun x hx => by
 rcases List.mem_cons.1 hx with rfl | hx
 ·have := cK (mb (n := l.length) (by omega)); omega
 ·obtain ⟨v, hv, rfl⟩ := List.mem_map.1 hx; exact fb v (hl v hv).1 (hl v hv).2
theorem ael {x : ByteArray} (h : x.size <= 2097200) : ∀ y ∈ [x], ByteArray.size y <= 2097200 := fun y hy => by rw [List.mem_singleton] at hy; subst hy; exact h
theorem afa (v : Bool) : ∀ y ∈ [gy v], ByteArray.size y <= 2097200 := by cases v <;> exact ael (by decide +kernel)
theorem abC {G : World -> Prop} : Ct Tryz.prog G 317 [] (fun K => .sl K 1 (aT dG)) := by
 refine aq Tryz.func317 rfl Tryz.ntmps317 rfl rfl fun w0 _ hG => ?_
 repeat' (first | refine W_ ?_ | refine ch ?_ | refine c_ (fun hc => ?_) (fun hc => ?_) | refine g_ (fun hg => ?_) (fun hg => ?_))
 refine aD x_ rfl (.tmp _ _ rfl) (fun _ => ?_)
 exact ck (f := fun b : ByteArray => [TV.str b]) (f' := fun b : ByteArray => [TV.str b]) (fun x => .cons (.flat rfl) .nil) dG
theorem aaN (lo : Nat) (x : ag) (hx : x.sane) (hs : x.text.size <= 1048576) : Ct Tryz.prog GF 282 [.agg [.int .i64 x.op, .int .i64 x.a, .int .i64 x.b, .str x.text]] (fun _ => .str x.ln) := by
 refine aq Tryz.func282 rfl Tryz.ntmps282 rfl rfl fun w0 _ hG => ?_
 have hst := fp
 have hin := aK (G := GF) x.op 1 26
 have hus := tb (G := GF) x.op
 have hwd := abC (G := GF)
 have ha := nT x.a hx.2.1
 have hb := nT x.b hx.2.2.1
 have za := cK hx.2.1
 have zb := cK hx.2.2.1
 unfold ag.ln
 cases hI : inR x.op 1 26 with
 | false =>
   rw [hI] at hin
   repeat' (first | refine W_ ?_ | refine aJ ?_ | refine ac hG hst (hin) ?_ | refine c_ (fun hc => ?_) (fun hc => ?_) | refine g_ (fun hg => ?_) (fun hg => ?_))
   exact r1_
 | true =>
   have hi2 : 1 <= x.op /\ x.op <= 26 := of_decide_eq_true hI
   rw [hI] at hin
   obtain ⟨k, hk⟩ : ∃ k : Nat, x.op = k := ⟨x.op.toNat, by omega⟩
   have hk27 : k < 27 := by omega
   have hrow := cB (l := dG) (i := k) hk27
   have hw1 : dG.getD x.op.toNat ⟨#[]⟩ = dG[k]'hk27 := by rw [hk, Int.toNat_natCast, List.getD_eq_getElem?_getD, List.getElem?_eq_getElem hk27]; rfl
   have hwl := aG dG
   have hwz : ∀ w ∈ dG, ByteArray.size w <= 10 := by decide +kernel
   have hwz := hwz _ (List.getElem_mem hk27)
   rw [hw1]
   clear hw1
   rw [hk] at hin hus |-
   generalize dG[k]'hk27 = w at hrow hwz |-
   have hwl : (aT dG).length = 27 := hwl
   generalize aT dG = rows at hrow hwl hwd
   simp only [if_true]
   cases hA : acJ (k : Int) <;> cases hB : acT (k : Int) <;> cases hT : acM (k : Int)
   all_goals
     rw [hA, hB, hT] at hus
     repeat' (first | refine V_ ?_ | refine aJ ?_ | refine ac hG hst (hin) ?_ | refine ac hG hst (hus) ?_ | refine ac hG hst (ha) ?_ | refine ac hG hst (hb) ?_ | refine ad hG hst (hwd) ?_ | refine c_ (fun hc => ?_) (fun hc => ?_) | refine g_ (fun hg => ?_) (fun hg => ?_))
     refine aD x_ rfl (.tmp _ _ rfl) (fun _ => ?_)
     exact mg (by (try simp only [<- ByteArray.append_assoc]); rfl)
theorem adF (lo : Nat) (x : aw) (hx : x.sane) : Ct Tryz.prog GF 281 [.agg (x.tw lo)] (fun _ => .str (lnB (if x.block then ⟨#[98, 108, 111, 99, 107, 99, 111, 100, 101]⟩ else ⟨#[99, 111, 100, 101]⟩) [ba x.params, ba x.slots])) := by
 refine aq Tryz.func281 rfl Tryz.ntmps281 rfl rfl fun w0 _ hG => ?_
 have hst := fp
 have h1 := nT _ hx.1
 have h2 := nT _ hx.2.1
 have z1 := cK hx.1
 have z2 := cK hx.2.1
 unfold aw.tw
 cases hB : x.block
 all_goals
   repeat' (first | refine V_ ?_ | refine aJ ?_ | refine ad hG hst (h1) ?_ | refine ad hG hst (h2) ?_ | refine c_ (fun hc => ?_) (fun hc => ?_) | refine g_ (fun hg => ?_) (fun hg => ?_))
   refine aD x_ rfl (.tmp _ _ rfl) (fun _ => ?_)
   exact mg rfl
theorem abj (lo : Nat) (x : aw) (hx : x.sane) (hs : x.small 1048576) : Ct Tryz.prog GF 232 [.agg (x.tw lo)] (fun K => .sl K 1 (aT x.lns)) := by
 refine aq Tryz.func232 rfl Tryz.ntmps232 rfl rfl fun w0 _ hG => ?_
 have hst := fp
 have hrl := ag.len lo x.instrs
 have hlen := hs.1
 have hhd := adF lo x hx
 unfold aw.tw at hhd |-
 unfold aw.lns
 generalize lnB (if x.block then ⟨#[98, 108, 111, 99, 107, 99, 111, 100, 101]⟩ else ⟨#[99, 111, 100, 101]⟩) [ba x.params, ba x.slots] = hd at hhd |-
 repeat' (first | refine W_ ?_ | refine aJ ?_ | refine ac hG hst (hhd) ?_ | (refine la ?_; intro ss bb) | refine c_ (fun hc => ?_) (fun hc => ?_) | refine g_ (fun hg => ?_) (fun hg => ?_))
 generalize ss = so; generalize bb = b0
 apply ai (X := Nat × Nat) [1, 10, 11] (fun x' => [(3, .ms so x'.2 0 (x'.1 + 1)), (12, .int .i64 (x'.1 : Int))]) (fun x' => [(so, x'.2, .row 1 (aT (hd :: (x.instrs.take x'.1).map ag.ln)))]) (fun x' => x'.1 <= x.instrs.length) (fun x' => x.instrs.length - x'.1) (0, b0) (Nat.zero_le _)
 ·exact kp_
 ·exact nw_
 ·exact .refl _
 rintro ⟨k, b1⟩ hk
 dsimp only at hk |-
 by_cases hlt : k < x.instrs.length
 ·have hrow := vx (lo := lo) hlt
  have hfm := aaN lo x.instrs[k] (hx.2.2 _ (List.getElem_mem hlt)) (hs.2 _ (List.getElem_mem hlt))
  have hln : (aT (hd :: (x.instrs.take k).map ag.ln)).length = k + 1 := by rw [aG, List.length_cons, List.length_map, List.length_take]; omega
  have hsn : hd :: (x.instrs.take (k + 1)).map ag.ln = (hd :: (x.instrs.take k).map ag.ln) ++ [x.instrs[k].ln] := by rw [bN hlt, List.cons_append]
  generalize hd :: (x.instrs.take k).map ag.ln = L at hln hsn |-
  generalize x.instrs[k] = i at hrow hfm hsn
  repeat' (first | refine W_ ?_ | (refine ak ?_; intro ss bb) | refine ae ?_ | refine ch ?_ | refine ac hG hst (hfm) ?_ | ((with_reducible apply bx); rfl; rfl; rfl; kernel_rfl; (repeat (first | with_reducible exact mh | with_reducible refine mt ?_)); exact hln; exact (rfl : _ = 1); omega; exact jg _ _; (intro bq; (repeat (first | with_reducible exact Upd.head _ | with_reducible apply Upd.tail))); intro bb) | refine c_ (fun hc => ?_) (fun hc => ?_) | refine g_ (fun hg => ?_) (fun hg => ?_))
  rw [<- hsn]
  exact ah (k + 1, bb) (by (try dsimp only); omega) (by (try dsimp only); omega) (.of _ nw_ od_ pk_)
 obtain rfl : k = x.instrs.length := by omega
 rw [List.take_length]
 repeat' (first | refine W_ ?_ | refine c_ (fun hc => ?_) (fun hc => ?_) | refine g_ (fun hg => ?_) (fun hg => ?_))
 refine aD x_ rfl (.tmp _ _ rfl) (fun _ => ?_)
 exact iQ (by simp) List.mem_cons_self
end Go.Proofs.YtigipcbnfeoliaaGreatDoor
