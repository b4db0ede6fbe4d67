/- Part 39 of the proof: the texts ImP0, FiP, FiA, FiB. -/
import Derived.Test.YtigipcbnfeoliaaGreatDoorFi26
import Derived.Test.YtigipcbnfeoliaaGreatDoorFi36
import Derived.Test.YtigipcbnfeoliaaGreatDoorFi35
import Derived.Test.YtigipcbnfeoliaaGreatDoorFi8
import Derived.Test.YtigipcbnfeoliaaGreatDoorFi14
import Derived.Test.YtigipcbnfeoliaaGreatDoorFi13
import Derived.Test.YtigipcbnfeoliaaGreatDoorFi7
import Derived.Test.YtigipcbnfeoliaaGreatDoorFi3
import Derived.Test.YtigipcbnfeoliaaGreatDoorFi17
import Derived.Test.YtigipcbnfeoliaaGreatDoorFi12
import Derived.Test.YtigipcbnfeoliaaGreatDoorFi24
set_option linter.all false
set_option maxHeartbeats 2000000
set_option maxRecDepth 20000
namespace Go.Proofs.YtigipcbnfeoliaaGreatDoor
open Go Go.RowKit
structure ae0 (m : ao) : Prop where
 ver : dc m.base = true
 same : m.base.classes = m.store.classes
 store : lB m.store m.blocks.length = true
 made : (m.store.objects.length : Int) + m.blocks.length <= m.store.made
 status : inR m.status 0 5 = true
 procs : inR m.processes.length 1 20 = true
 now : inR m.now 0 ((m.processes.length : Int) - 1) = true
 value : wt m m.value
 fault : fZ m.fault = true
 outs : ∀ o, eL m.base.codes = some o -> adS m o
 ats : ∀ p ∈ m.processes, inR p.at_ (-1) ((m.contexts.length : Int) - 1) = true
 live : uq m (nX m ++ m.ready ++ wC m)
 exc : ∀ o ∈ m.store.objects, x1 m o
open Classical in
noncomputable def ez (m : ao) : Bool := decide (ae0 m)
open Classical in
theorem aaD {m : ao} (h : ¬ ae0 m) : ez m = false := decide_eq_false h
open Classical in
theorem aa4 {m : ao} (h : ae0 m) : ez m = true := decide_eq_true h
theorem mI {st : aQ} {nb : Int} (h : lB st nb = true) : bS st.classes = true /\ st.objects.length <= 800 /\ ∀ o ∈ st.objects, o.kind = 3 -> 1 <= o.numbers.length := by
 unfold lB at h
 simp only [Bool.and_eq_true] at h
 obtain ⟨h1, h2, _, _, _, _, h7⟩ := h
 have h2 := of_decide_eq_true h2
 refine ⟨h1, by omega, fun o ho h3 => ?_⟩
 have h8 := List.all_eq_true.1 h7 o ho
 unfold f7 at h8
 simp only [Bool.and_eq_true] at h8
 have h9 := h8.2
 rw [if_neg (by omega), if_neg (by omega), if_pos h3] at h9
 exact (of_decide_eq_true h9).2.2.1
open Classical in
theorem jK {x : aA} (h : dc x = true) : 1 <= x.codes.length /\ ∃ o, eL x.codes = some o /\ o.length = x.codes.length := by
 have hp : fU x := of_decide_eq_true h
 obtain ⟨o, ho, _⟩ := hp.2.2.2.2
 have h1 := of_decide_eq_true hp.2.2.1.1
 exact ⟨by omega, o, ho, (jT ho).1.1⟩
def dG : List ByteArray := [⟨#[]⟩, ⟨#[105, 110, 116]⟩, ⟨#[116, 101, 120, 116]⟩, ⟨#[115, 121, 109, 98, 111, 108]⟩, ⟨#[110, 105, 108]⟩, ⟨#[116, 114, 117, 101]⟩, ⟨#[102, 97, 108, 115, 101]⟩, ⟨#[115, 101, 108, 102]⟩, ⟨#[118, 97, 114]⟩, ⟨#[115, 101, 116, 118, 97, 114]⟩, ⟨#[102, 105, 101, 108, 100]⟩, ⟨#[115, 101, 116, 102, 105, 101, 108, 100]⟩, ⟨#[99, 108, 97, 115, 115]⟩, ⟨#[115, 101, 110, 100]⟩, ⟨#[115, 117, 112, 101, 114]⟩, ⟨#[98, 108, 111, 99, 107]⟩, ⟨#[112, 111, 112]⟩, ⟨#[100, 117, 112]⟩, ⟨#[114, 101, 116, 117, 114, 110]⟩, ⟨#[101, 110, 100]⟩, ⟨#[106, 117, 109, 112]⟩, ⟨#[105, 102, 102, 97, 108, 115, 101]⟩, ⟨#[105, 102, 116, 114, 117, 101]⟩, ⟨#[116, 105, 99, 107]⟩, ⟨#[108, 105, 109, 105, 116, 115]⟩, ⟨#[99, 111, 117, 110, 116]⟩, ⟨#[115, 116, 101, 112]⟩]
def opt (b : Bool) (t : ByteArray) : List ByteArray := if b then [t] else []
def ag.ln (x : ag) : ByteArray := if inR x.op 1 26 then lnB (dG.getD x.op.toNat ⟨#[]⟩) (opt (acJ x.op) (ba x.a) ++ (opt (acT x.op) (ba x.b) ++ opt (acM x.op) x.text)) else ⟨#[]⟩
def aw.lns (x : aw) : List ByteArray := lnB (if x.block then ⟨#[98, 108, 111, 99, 107, 99, 111, 100, 101]⟩ else ⟨#[99, 111, 100, 101]⟩) [ba x.params, ba x.slots] :: x.instrs.map ag.ln
def aa.ln (x : aa) : ByteArray := lnB ⟨#[99, 108, 97, 115, 115]⟩ ([x.name, ba x.parent] ++ x.fields)
def gy (b : Bool) : ByteArray := if b then ⟨#[49]⟩ else ⟨#[48]⟩
def av.ln (x : av) : ByteArray := lnB ⟨#[101, 110, 116, 114, 121]⟩ [ba x.owner, gy x.class_, x.selector, ba x.code]
def dh (l : List ab) : List ByteArray := ba (l.length : Nat) :: l.map ab.fmt
def au.ln (x : au) : ByteArray := lnB ⟨#[111, 98, 106, 101, 99, 116]⟩ ([ba x.kind, ba x.class_, ba (x.numbers.length : Nat)] ++ (x.numbers.map ba ++ dh x.fields))
def am.ln (x : am) : ByteArray := lnB ⟨#[99, 108, 111, 115, 117, 114, 101]⟩ [ba x.code, ba x.outer, ba x.home, x.self.fmt]
def aj.ln (x : aj) : ByteArray := lnB ⟨#[99, 111, 110, 116, 101, 120, 116]⟩ ([ba x.mark, ba x.code, ba x.pc, ba x.sender, ba x.outer, ba x.home, ba x.other, gy x.retry, x.self.fmt] ++ (dh x.slots ++ (dh x.stack ++ dh x.values)))
def ap.ln (x : ap) : ByteArray := lnB ⟨#[112, 114, 111, 99, 101, 115, 115]⟩ [ba x.at_, gy x.main]
def eT (s : ByteArray) : ByteArray := lnB ⟨#[111, 117, 116, 112, 117, 116]⟩ [s]
def aA.lns (x : aA) : List ByteArray := x.classes.map aa.ln ++ (x.codes.flatMap aw.lns ++ (x.entries.map av.ln ++ [lnB ⟨#[109, 97, 105, 110]⟩ [ba x.main]]))
def sa (m : ao) : List ByteArray := [lnB ⟨#[114, 101, 97, 100, 121]⟩ (m.ready.map ba), lnB ⟨#[115, 116, 97, 116, 117, 115]⟩ [ba m.now, ba m.status, m.value.fmt], lnB ⟨#[102, 97, 117, 108, 116]⟩ [m.fault]]
def ao.lns (m : ao) : List ByteArray := m.base.lns ++ ([lnB ⟨#[115, 116, 111, 114, 101]⟩ [ba m.store.budget, ba m.store.ticks, ba m.store.made]] ++ (m.store.output.map eT ++ (m.store.objects.map au.ln ++ (m.blocks.map am.ln ++ (m.contexts.map aj.ln ++ (m.processes.map ap.ln ++ sa m))))))
noncomputable def cN (m : ao) : List ByteArray := if ez m = true then m.lns else []
open Classical in
theorem ka {m : ao} (h : ez m = true) : m.base.codes.length <= 200 := by
 have hi : ae0 m := of_decide_eq_true h
 have hp : fU m.base := of_decide_eq_true hi.ver
 exact hp.2.1
theorem fM {n : Nat} (l : List aw) (h : ∀ y ∈ l, aw.small n y) : (l.flatMap aw.lns).length <= l.length * (n + 1) := by
 induction l with
 | nil => simp
 | cons x r ih =>
   have h1 := ih (fun y hy => h y (List.mem_cons_of_mem _ hy))
   have h2 := (h x List.mem_cons_self).1
   rw [List.flatMap_cons, List.length_append, List.length_cons, Nat.succ_mul]
   have : (aw.lns x).length = x.instrs.length + 1 := by simp [aw.lns]
   omega
theorem lS {x : aA} (h : x.small 1048576) (hc : x.codes.length <= 200) : x.lns.length <= 213000000 := by
 have h1 := fM x.codes h.2.1.2
 have h2 : x.codes.length * (1048576 + 1) <= 200 * (1048576 + 1) := Nat.mul_le_mul_right _ hc
 have h3 := h.1.1
 have h4 := h.2.2.1
 simp only [aA.lns, List.length_append, List.length_map, List.length_cons, List.length_nil]
 omega
theorem wh {m : ao} (h : m.small 1048576) (hc : m.base.codes.length <= 200) : m.lns.length <= 220000000 := by
 have h1 := lS h.1 hc
 have h2 := h.2.1.2.1.1
 have h3 := h.2.1.2.2.1
 have h4 := h.2.2.1.1
 have h5 := h.2.2.2.1.1
 have h6 := h.2.2.2.2.1.1
 simp only [ao.lns, sa, List.length_append, List.length_map, List.length_cons, List.length_nil]
 omega
theorem lq {m : ao} (h : m.small 1048576) : (cN m).length <= 220000000 := by
 unfold cN
 split
 ·rename_i hV
  exact wh h (ka hV)
 ·simp
def GF (w : World) : Prop := ex w /\ kh w
theorem fp : aC GF := ⟨fun _ _ h hb => ⟨ex.below h.1 hb, h.2.below hb⟩⟩
theorem abN {w : World} {a b c : TV} {v : Value} (h : Rep w [] (.agg [a, b, c]) v) : ∃ x y z, v = .agg #[x, y, z] /\ Rep w [] a x /\ Rep w [] b y /\ Rep w [] c z := by
 cases h with
 | agg l vs hi h1 h2 =>
   match vs, h1 with
   | ⟨[x, y, z]⟩, _ => exact ⟨x, y, z, rfl, h2 0 a x rfl rfl, h2 1 b y rfl rfl, h2 2 c z rfl rfl⟩
theorem aez {P : Program} {G : World -> Prop} {f : FuncId} {x : ab} {s : ByteArray} (h : ∀ w, G w -> Calls P f #[.agg #[.int .i64 x.kind, .int .i64 x.number, .string x.text]] w fun e w' => e = .returned (.string s) /\ Below w.heap.size w w') : Ct P G f [.agg [.int .i64 x.kind, .int .i64 x.number, .str x.text]] (fun _ => .str s) := fun w vs _ hG hs hr => by
 obtain ⟨v, rfl, h1⟩ := aci hs hr
 obtain ⟨a, b, c, rfl, ha, hb, hc⟩ := abN h1
 rw [ha.int_inv, hb.int_inv, hc.str_inv]
 refine (h w hG).mono ?_
 rintro e w' ⟨rfl, hb⟩
 exact ⟨_, rfl, hb, fun _ _ => .str _⟩
theorem nT (n : Int) (h : i64 n) : Ct Tryz.prog GF 83 [.int .i64 n] (fun _ => .str (ba n)) := l6 fun w hG => dA n w hG.2 h.1 h.2
theorem aed (x : ab) (hx : x.sane) (hs : x.text.size <= 1048576) : Ct Tryz.prog GF 233 [.agg [.int .i64 x.kind, .int .i64 x.number, .str x.text]] (fun _ => .str x.fmt) := aez fun w hG => oZ x w hG.1 hG.2 hx hs
theorem aS {a b : aF} (h : a = b) : cZ a b := h ▸ .refl _
theorem yA (x y z : Nat × Nat × bv) (R : aF) : cZ (x :: y :: R) (x :: y :: z :: R) := .sub (List.Sublist.cons_cons _ (List.Sublist.cons_cons _ (List.sublist_cons_self z R)))
theorem aaU (x y z : Nat × Nat × bv) (R : aF) : cZ (y :: z :: x :: R) (x :: y :: z :: R) := .perm (((List.Perm.swap y x (z :: R)).trans (.cons _ (.swap z x R))).symm)
def lrO (s b s2 b2 : Nat) (xs : List ByteArray) : aF := [(s, b, .box [.ms s2 b2 0 xs.length]), (s2, b2, .row 1 (aT xs))]
def lrC (f : FuncId) (args : List TV) (xs ys : List ByteArray) : Prop := ∀ s b s2 b2 : Nat, CtM Tryz.prog GF f (.mp s b 0 :: args) (lrO s b s2 b2 xs) (fun _ : Nat => True) (fun y => lrO s b s2 y (xs ++ ys)) (fun _ => .mp s b 0)
theorem fd (t : ByteArray) : CtM Tryz.prog GF 161 [.str t] [] (fun _ : (Nat × Nat) × (Nat × Nat) => True) (fun y => lrO y.1.1 y.1.2 y.2.1 y.2.2 [t]) (fun y => .mp y.1.1 y.1.2 0) := by
 refine aB Tryz.func161 rfl Tryz.ntmps161 rfl rfl rfl fun w0 R gs objsR hG hR => ?_
 obtain rfl := hR.inv0
 clear hR
 repeat' (first | refine W_ ?_ | (refine la ?_; intro ss bb) | refine j6 ?_ | ((with_reducible apply aep); rfl; rfl; rfl; intro s2 b2) | refine c_ (fun hc => ?_) (fun hc => ?_) | refine g_ (fun hg => ?_) (fun hg => ?_))
 exact az x_ rfl ((s2, b2), (ss, bb)) trivial rfl (.app _ R) (aS rfl) (.tmp _ _ rfl) rfl
theorem uN (xs : List ByteArray) (t : ByteArray) (hn : xs.length <= 100000000) : lrC 231 [.str t] xs [t] := by
 intro s b s2 b2
 refine aB Tryz.func231 rfl Tryz.ntmps231 rfl rfl rfl fun w0 R gs objsR hG hR => ?_
 obtain rfl := hR.eq
 clear hR
 have hlen := aG xs
 unfold lrO
 refine fr (objs' := (s, b, _) :: (s2, b2, _) :: R) (aS rfl) ?_
 repeat' (first | refine W_ ?_ | refine ch ?_ | refine ae ?_ | ((with_reducible apply bx); rfl; rfl; rfl; kernel_rfl; (repeat (first | with_reducible exact mh | with_reducible refine mt ?_)); exact hlen; exact (rfl : _ = 1); omega; exact jg _ _; (intro bq; (repeat (first | with_reducible exact Upd.head _ | with_reducible apply Upd.tail))); intro bb) | refine c_ (fun hc => ?_) (fun hc => ?_) | refine g_ (fun hg => ?_) (fun hg => ?_))
 exact az x_ rfl bb trivial rfl (.app _ R) (aS (by simp; done)) (.tmp _ _ rfl) rfl
theorem fP (lo : Nat) (l : List Int) (hl : ∀ n ∈ l, i64 n) (xs : List ByteArray) (hn : xs.length + l.length <= 100000000) : lrC 162 [.sl lo 1 (aR l)] xs (l.map ba) := by
 intro s b s2 b2
 refine aB Tryz.func162 rfl Tryz.ntmps162 rfl rfl rfl fun w0 R gs objsR hG hR => ?_
 obtain rfl := hR.eq
 clear hR
 have hst := fp
 have hll := ar l
 unfold lrO
 refine fr (objs' := (s, b, _) :: (s2, b2, _) :: R) (aS rfl) ?_
 repeat' (first | refine W_ ?_ | refine c_ (fun hc => ?_) (fun hc => ?_) | refine g_ (fun hg => ?_) (fun hg => ?_))
 apply ai (X := Nat × Nat) [0, 7, 8, 1000000] (fun x => [(9, .int .i64 (x.1 : Int))]) (fun x => lrO s b s2 x.2 (xs ++ (l.take x.1).map ba) ++ R) (fun x => x.1 <= l.length) (fun x => l.length - x.1) (0, b2) (Nat.zero_le _)
 exact kp_; exact nw_
 ·exact aS (by simp [lrO]; done)
 rintro ⟨k, b3⟩ hk
 dsimp only at hk |-
 by_cases hlt : k < l.length
 ·have hrow := iq hlt
  have hi := hl _ (List.getElem_mem hlt)
  have hsn : xs ++ (l.take (k + 1)).map ba = (xs ++ (l.take k).map ba) ++ [ba l[k]] := by rw [bN hlt, <- List.append_assoc]
  have hzl : (xs ++ (l.take k).map ba).length = xs.length + k := by rw [List.length_append, List.length_map, List.length_take]; omega
  generalize xs ++ (l.take k).map ba = zs at hsn hzl |-
  have hfm := nT _ hi
  have htx := uN zs (ba l[k]) (by omega) s b s2 b3
  generalize l[k] = n at hrow hsn hfm htx
  refine fr (objs' := (s, b, _) :: (s2, b3, _) :: R) (aS rfl) ?_
  repeat' (first | refine W_ ?_ | refine ac hG hst (hfm) ?_ | ((with_reducible apply aE); rfl; kernel_rfl; (repeat (first | exact ay.nil | ((with_reducible apply ay.cons); rfl))); exact hG; exact htx; exact .cons _ _ _ _ (.cons _ _ _ _ (.nil _)); intro y hy; refine eG (objs' := (s, b, _) :: (s2, y, _) :: R) rfl ?_) | refine c_ (fun hc => ?_) (fun hc => ?_) | refine g_ (fun hg => ?_) (fun hg => ?_))
  rw [<- hsn]
  exact ah (k + 1, y) (by (try dsimp only); omega) (by (try dsimp only); omega) (.of _ nw_ od_ (aS rfl))
 ·obtain rfl : k = l.length := by omega
  rw [List.take_length]
  refine fr (objs' := (s, b, _) :: (s2, b3, _) :: R) (aS rfl) ?_
  repeat' (first | refine W_ ?_ | refine c_ (fun hc => ?_) (fun hc => ?_) | refine g_ (fun hg => ?_) (fun hg => ?_))
  exact az x_ rfl b3 trivial rfl (.app _ R) (aS rfl) (.tmp _ _ rfl) rfl
theorem zQ (v : Bool) (xs : List ByteArray) (hn : xs.length <= 90000000) : lrC 166 [.bool v] xs [gy v] := by
 intro s b s2 b2
 refine aB Tryz.func166 rfl Tryz.ntmps166 rfl rfl rfl fun w0 R gs objsR hG hR => ?_
 obtain rfl := hR.eq
 clear hR
 have h1 := fP w0.heap.size [1] (by intro n hn; rw [List.mem_singleton] at hn; subst hn; unfold i64; omega) xs (by simp; omega) s b s2 b2
 have h0 := fP w0.heap.size [0] (by intro n hn; rw [List.mem_singleton] at hn; subst hn; unfold i64; omega) xs (by simp; omega) s b s2 b2
 rw [show ([1] : List Int).map ba = [⟨#[49]⟩] by decide +kernel] at h1
 rw [show ([0] : List Int).map ba = [⟨#[48]⟩] by decide +kernel] at h0
 unfold lrO
 refine fr (objs' := (s, b, _) :: (s2, b2, _) :: R) (aS rfl) ?_
 cases v with
 | true =>
   repeat' (first | refine W_ ?_ | refine ch ?_ | ((with_reducible apply aE); rfl; kernel_rfl; (repeat (first | exact ay.nil | ((with_reducible apply ay.cons); rfl))); exact hG; exact h1; exact .cons _ _ _ _ (.cons _ _ _ _ (.nil _)); intro y hy) | refine c_ (fun hc => ?_) (fun hc => ?_) | refine g_ (fun hg => ?_) (fun hg => ?_))
   exact az x_ rfl y trivial rfl (.app _ R) (aS rfl) (.tmp _ _ rfl) rfl
 | false =>
   repeat' (first | refine W_ ?_ | refine ch ?_ | ((with_reducible apply aE); rfl; kernel_rfl; (repeat (first | exact ay.nil | ((with_reducible apply ay.cons); rfl))); exact hG; exact h0; exact .cons _ _ _ _ (.cons _ _ _ _ (.nil _)); intro y hy) | refine c_ (fun hc => ?_) (fun hc => ?_) | refine g_ (fun hg => ?_) (fun hg => ?_))
   exact az x_ rfl y trivial rfl (.app _ R) (aS rfl) (.tmp _ _ rfl) rfl
theorem re (x : ab) (hx : x.sane) (hs : x.text.size <= 1048576) (xs : List ByteArray) (hn : xs.length <= 100000000) : lrC 165 [.agg [.int .i64 x.kind, .int .i64 x.number, .str x.text]] xs [x.fmt] := by
 intro s b s2 b2
 refine aB Tryz.func165 rfl Tryz.ntmps165 rfl rfl rfl fun w0 R gs objsR hG hR => ?_
 obtain rfl := hR.eq
 clear hR
 have hst := fp
 have hfm := aed x hx hs
 have htx := uN xs x.fmt hn s b s2 b2
 unfold lrO
 refine fr (objs' := (s, b, _) :: (s2, b2, _) :: R) (aS rfl) ?_
 repeat' (first | refine W_ ?_ | refine aJ ?_ | refine ac hG hst (hfm) ?_ | ((with_reducible apply aE); rfl; kernel_rfl; (repeat (first | exact ay.nil | ((with_reducible apply ay.cons); rfl))); exact hG; exact htx; exact .cons _ _ _ _ (.cons _ _ _ _ (.nil _)); intro y hy) | refine c_ (fun hc => ?_) (fun hc => ?_) | refine g_ (fun hg => ?_) (fun hg => ?_))
 exact az x_ rfl y trivial rfl (.app _ R) (aS rfl) (.tmp _ _ rfl) rfl
theorem xI (lo : Nat) (l : List ab) (hl : ∀ v ∈ l, v.sane /\ v.text.size <= 1048576) (xs : List ByteArray) (hn : xs.length + l.length <= 90000000) : lrC 164 [.sl lo 3 (l.map (ab.tw lo))] xs (dh l) := by
 intro s b s2 b2
 refine aB Tryz.func164 rfl Tryz.ntmps164 rfl rfl rfl fun w0 R gs objsR hG hR => ?_
 obtain rfl := hR.eq
 clear hR
 have hst := fp
 have hll : (l.map (ab.tw lo)).length = l.length := List.length_map _
 have h0 := fP w0.heap.size [((l.length : Nat) : Int)] (by intro n hn; rw [List.mem_singleton] at hn; subst hn; unfold i64; omega) xs (by simp; omega) s b s2 b2
 unfold lrO
 refine fr (objs' := (s, b, _) :: (s2, b2, _) :: R) (aS rfl) ?_
 repeat' (first | refine W_ ?_ | refine ch ?_ | ((with_reducible apply aE); rfl; kernel_rfl; (repeat (first | exact ay.nil | ((with_reducible apply ay.cons); rfl))); exact hG; exact h0; exact .cons _ _ _ _ (.cons _ _ _ _ (.nil _)); intro y hy; refine eG (objs' := (s, b, _) :: (s2, y, _) :: R) rfl ?_) | refine c_ (fun hc => ?_) (fun hc => ?_) | refine g_ (fun hg => ?_) (fun hg => ?_))
 apply ai (X := Nat × Nat) [0, 12, 13, 1000000] (fun x => [(14, .int .i64 (x.1 : Int))]) (fun x => lrO s b s2 x.2 ((xs ++ [ba (l.length : Nat)]) ++ (l.take x.1).map ab.fmt) ++ R) (fun x => x.1 <= l.length) (fun x => l.length - x.1) (0, y) (Nat.zero_le _)
 exact kp_; exact nw_
 ·exact aS (by simp [lrO]; done)
 clear y hy
 rintro ⟨k, b3⟩ hk
 dsimp only at hk |-
 by_cases hlt : k < l.length
 ·have hrow := hY (lo := lo) hlt
  obtain ⟨hi1, hi2⟩ := hl _ (List.getElem_mem hlt)
  have hsn : (xs ++ [ba (l.length : Nat)]) ++ (l.take (k + 1)).map ab.fmt = ((xs ++ [ba (l.length : Nat)]) ++ (l.take k).map ab.fmt) ++ [ab.fmt l[k]] := by rw [bN hlt, <- List.append_assoc]
  have hzl : ((xs ++ [ba (l.length : Nat)]) ++ (l.take k).map ab.fmt).length = xs.length + 1 + k := by rw [List.length_append, List.length_append, List.length_map, List.length_take]; simp; omega
  generalize (xs ++ [ba (l.length : Nat)]) ++ (l.take k).map ab.fmt = zs at hsn hzl |-
  have htx := re l[k] hi1 hi2 zs (by omega) s b s2 b3
  generalize l[k] = x at hrow hsn htx
  refine fr (objs' := (s, b, _) :: (s2, b3, _) :: R) (aS rfl) ?_
  repeat' (first | refine W_ ?_ | (refine ak ?_; intro ss bb) | refine ae ?_ | ((with_reducible refine mc (aaU _ _ _ _) ?_); ((with_reducible apply aE); rfl; kernel_rfl; (repeat (first | exact ay.nil | ((with_reducible apply ay.cons); rfl))); exact hG; exact htx; exact .cons _ _ _ _ (.cons _ _ _ _ (.nil _)); intro y hy; refine eG (objs' := (s, b, _) :: (s2, y, _) :: _ :: R) rfl ?_)) | refine c_ (fun hc => ?_) (fun hc => ?_) | refine g_ (fun hg => ?_) (fun hg => ?_))
  rw [<- hsn]
  exact ah (k + 1, y) (by (try dsimp only); omega) (by (try dsimp only); omega) (.of _ nw_ od_ (.trans (aS rfl) (yA _ _ _ _)))
 ·obtain rfl : k = l.length := by omega
  rw [List.take_length]
  refine fr (objs' := (s, b, _) :: (s2, b3, _) :: R) (aS rfl) ?_
  repeat' (first | refine W_ ?_ | refine c_ (fun hc => ?_) (fun hc => ?_) | refine g_ (fun hg => ?_) (fun hg => ?_))
  exact az x_ rfl b3 trivial rfl (.app _ R) (aS (by simp [lrO, dh]; done)) (.tmp _ _ rfl) rfl
theorem e9 (w : ByteArray) (xs : List ByteArray) (hn : xs.length <= 4194304) (c : Nat) (hc : c <= 4194304) (hw : w.size <= c) (hx : ∀ x ∈ xs, x.size <= c) (s b s2 b2 : Nat) : CtM Tryz.prog GF 163 [.mp s b 0] (lrO s b s2 b2 (w :: xs)) (fun _ : Unit => True) (fun _ => []) (fun _ => .str (lnB w xs)) := by
 refine aB Tryz.func163 rfl Tryz.ntmps163 rfl rfl rfl fun w0 R gs objsR hG hR => ?_
 obtain rfl := hR.eq
 clear hR
 have hst := fp
 have hj := abl (G := GF) w xs hn c hc hw hx
 have hlen := aG (w :: xs)
 unfold lrO
 refine fr (objs' := (s, b, _) :: (s2, b2, _) :: R) (aS rfl) ?_
 repeat' (first | refine W_ ?_ | refine j9 hG hst (hj) ?_ | refine c_ (fun hc => ?_) (fun hc => ?_) | refine g_ (fun hg => ?_) (fun hg => ?_))
 exact az x_ rfl () trivial rfl (.nil R) (.drop (.drop (.refl _))) (.tmp _ _ rfl) rfl
theorem vx {lo : Nat} {l : List ag} {i : Nat} (h : i < l.length) : (l.map (ag.tw lo))[i]? = some [.int .i64 l[i].op, .int .i64 l[i].a, .int .i64 l[i].b, .str l[i].text] := aL h
theorem iQ {B : Nat} {objs : aF} {K s b n : Nat} {l : List ByteArray} (hn : l.length = n) (hm : (s, b, bv.row 1 (aT l)) ∈ objs) : Fin B objs K (.ms s b 0 n) (.sl K 1 (aT l)) := by
 subst hn
 exact aa3 (f := fun b : ByteArray => [TV.str b]) (f' := fun b : ByteArray => [TV.str b]) (fun x => .cons (.flat rfl) .nil) hm
theorem mT (w : ByteArray) (ys : List ByteArray) : w ++ lnB ⟨#[]⟩ ys = lnB w ys := by rw [adf, adc]
theorem aaJ (w : ByteArray) (xs ys : List ByteArray) : lnB w (xs ++ ys) = lnB (lnB w xs) ys := by simp [lnB, List.foldl_append]
theorem fx {L : List ByteArray} {e e2 : ByteArray} (h : e = e2) : aT L ++ [[TV.str e]] = aT (L ++ [e2]) := by subst h; exact jg _ _
theorem cK {n : Int} (h : i64 n) : (ba n).size <= 20 := f5 h.1 h.2
theorem mb {n : Nat} (h : n <= 1000000000000) : i64 (n : Int) := by unfold i64; omega
theorem fb (x : ab) (hx : x.sane) (hs : x.text.size <= 1048576) : x.fmt.size <= 2097200 := by
 have h1 := cK hx.2.1
 unfold ab.fmt
 split
 ·simp [ByteArray.size]
 split
 ·simp [ByteArray.size]
 split
 ·have := iw x.text.data.toList
  rw [aO] at this
  show (116 :: pP x.text.data.toList).toArray.size <= _
  simp only [List.size_toArray, List.length_cons]
  omega
 split
 ·simp only [ByteArray.size_append, uA, List.size_toArray, List.length_cons, List.length_nil]; omega
 ·simp only [ByteArray.size_append, uA, List.size_toArray, List.length_cons, List.length_nil]; omega
theorem fm (l : List Int) (hl : ∀ n ∈ l, i64 n) : (lnB ⟨#[]⟩ (l.map ba)).size <= l.length * 21 := by
 have := kX 20 (l.map ba) (fun x hx => by obtain ⟨n, hn, rfl⟩ := List.mem_map.1 hx; exact cK (hl n hn)) ⟨#[]⟩
 rw [List.length_map] at this
 simpa [uA] using this
theorem jb (l : List ab) (hl : ∀ v ∈ l, v.sane /\ v.text.size <= 1048576) (hn : l.length <= 1048576) : (lnB ⟨#[]⟩ (dh l)).size <= 2200000000000 := by
 have := kX 2097200 (dh l) (fun x hx => by
   rcases List.mem_cons.1 hx with rfl | hx
   ·have := cK (mb (n := l.length) (by omega)); omega
   ·obtain ⟨v, hv, rfl⟩ := List.mem_map.1 hx; exact fb v (hl v hv).1 (hl v hv).2) ⟨#[]⟩
 have h2 : (dh l).length * (2097200 + 1) <= 1048577 * (2097200 + 1) := Nat.mul_le_mul_right _ (by simp [dh]; omega)
 simp only [uA, List.size_toArray, List.length_nil] at this
 omega
theorem eu {G : World -> Prop} (n : Int) (h : i64 n) : Ct Tryz.prog G 80 [.int .i64 n] (fun _ => .str (ba n)) := l6 fun w _ => gM n w h.1 h.2
theorem nD (x : ab) (hx : x.sane) (hs : x.text.size <= 1048576) : Ct Tryz.prog GF 148 [.agg [.int .i64 x.kind, .int .i64 x.number, .str x.text]] (fun _ => .str x.fmt) := aez fun w hG => jY x w hG.1 hG.2 hx hs
theorem mq {G : World -> Prop} (v : Bool) : Ct Tryz.prog G 150 [.bool v] (fun _ => .str (lnB ⟨#[]⟩ [gy v])) := by
 refine aq Tryz.func150 rfl Tryz.ntmps150 rfl rfl fun w0 _ hG => ?_
 cases v with
 | true =>
   repeat' (first | refine W_ ?_ | refine c_ (fun hc => ?_) (fun hc => ?_) | refine g_ (fun hg => ?_) (fun hg => ?_))
   refine aD x_ rfl (.tmp _ _ rfl) (fun _ => ?_)
   exact mg (by decide +kernel)
 | false =>
   repeat' (first | refine W_ ?_ | refine c_ (fun hc => ?_) (fun hc => ?_) | refine g_ (fun hg => ?_) (fun hg => ?_))
   refine aD x_ rfl (.tmp _ _ rfl) (fun _ => ?_)
   exact mg (by decide +kernel)
theorem eH {G : World -> Prop} (hst : aC G) (lo : Nat) (l : List Int) (hl : ∀ n ∈ l, i64 n) (hn : l.length <= 10000000) : Ct Tryz.prog G 146 [.sl lo 1 (aR l)] (fun _ => .str (lnB ⟨#[]⟩ (l.map ba))) := by
 refine aq Tryz.func146 rfl Tryz.ntmps146 rfl rfl fun w0 _ hG => ?_
 have hll := ar l
 repeat' (first | refine W_ ?_ | refine c_ (fun hc => ?_) (fun hc => ?_) | refine g_ (fun hg => ?_) (fun hg => ?_))
 apply ai (X := Nat) [0] (fun k => [(3, .str (lnB ⟨#[]⟩ ((l.take k).map ba))), (4, .int .i64 (k : Int))]) (fun _ => []) (fun k => k <= l.length) (fun k => l.length - k) 0 (Nat.zero_le _)
 exact kp_; exact nw_
 ·exact .refl _
 intro k hk
 try dsimp only
 by_cases hlt : k < l.length
 ·have hrow := iq hlt
  have hi := hl _ (List.getElem_mem hlt)
  have hz := fm (l.take k) fun n hn => hl n (List.mem_of_mem_take hn)
  rw [List.length_take] at hz
  have hsn : lnB ⟨#[]⟩ ((l.take (k + 1)).map ba) = lnB ⟨#[]⟩ ((l.take k).map ba) ++ ⟨#[32]⟩ ++ ba l[k] := by rw [List.take_add_one, List.getElem?_eq_getElem hlt, List.map_append]; exact rL _ _ _
  have hfm := eu (G := G) _ hi
  have hz2 := cK hi
  generalize l[k] = n at hrow hsn hfm hz2
  generalize lnB ⟨#[]⟩ ((l.take k).map ba) = A at hz hsn |-
  repeat' (first | refine W_ ?_ | refine ac hG hst (hfm) ?_ | refine c_ (fun hc => ?_) (fun hc => ?_) | refine g_ (fun hg => ?_) (fun hg => ?_))
  exact ah (k + 1) (by (try dsimp only); omega) (by (try dsimp only); omega) (.of _ (bX.envCons (qA rfl hsn.symm) (bX.envCons rfl bX.envNil)) od_ pk_)
 ·obtain rfl : k = l.length := by omega
  rw [List.take_length]
  repeat' (first | refine W_ ?_ | refine c_ (fun hc => ?_) (fun hc => ?_) | refine g_ (fun hg => ?_) (fun hg => ?_))
  exact r1_
theorem f8 (lo : Nat) (l : List ab) (hl : ∀ v ∈ l, v.sane /\ v.text.size <= 1048576) (hn : l.length <= 1048576) : Ct Tryz.prog GF 147 [.sl lo 3 (l.map (ab.tw lo))] (fun _ => .str (lnB ⟨#[]⟩ (dh l))) := by
 refine aq Tryz.func147 rfl Tryz.ntmps147 rfl rfl fun w0 _ hG => ?_
 have hst := fp
 have hll : (l.map (ab.tw lo)).length = l.length := List.length_map _
 have h0 := eu (G := GF) _ (mb (n := l.length) (by omega))
 have hz0 := cK (mb (n := l.length) (by omega))
 have hst0 : ⟨#[32]⟩ ++ ba (l.length : Nat) = lnB ⟨#[]⟩ (ba (l.length : Nat) :: (l.take 0).map ab.fmt) := by
   rw [List.take_zero, List.map_nil, km, vw, adB]; rfl
 repeat' (first | refine W_ ?_ | refine ac hG hst (h0) ?_ | refine c_ (fun hc => ?_) (fun hc => ?_) | refine g_ (fun hg => ?_) (fun hg => ?_))
 apply ai (X := Nat) [0] (fun k => [(3, .str (lnB ⟨#[]⟩ (ba (l.length : Nat) :: (l.take k).map ab.fmt))), (4, .int .i64 (k : Int))]) (fun _ => []) (fun k => k <= l.length) (fun k => l.length - k) 0 (Nat.zero_le _)
 ·exact kp_
 ·exact bX.envCons (qA rfl hst0) (bX.envCons rfl nw_)
 ·exact .refl _
 clear hst0
 intro k hk
 try dsimp only
 by_cases hlt : k < l.length
 ·have hrow := hY (lo := lo) hlt
  obtain ⟨hi1, hi2⟩ := hl _ (List.getElem_mem hlt)
  have hz := jb (l.take k) (fun v hv => hl v (List.mem_of_mem_take hv)) (by rw [List.length_take]; omega)
  have hz := kX 2097200 (ba (l.length : Nat) :: (l.take k).map ab.fmt) (fun x hx => by
    rcases List.mem_cons.1 hx with rfl | hx
    ·omega
    ·obtain ⟨v, hv, rfl⟩ := List.mem_map.1 hx; have h1 := hl v (List.mem_of_mem_take hv); exact fb v h1.1 h1.2) ⟨#[]⟩
  simp only [uA, List.size_toArray, List.length_nil, List.length_cons, List.length_map, List.length_take] at hz
  have hsn : lnB ⟨#[]⟩ (ba (l.length : Nat) :: (l.take (k + 1)).map ab.fmt) = lnB ⟨#[]⟩ (ba (l.length : Nat) :: (l.take k).map ab.fmt) ++ ⟨#[32]⟩ ++ ab.fmt l[k] := by rw [List.take_add_one, List.getElem?_eq_getElem hlt, List.map_append, <- List.cons_append]; exact rL _ _ _
  have hfm := nD _ hi1 hi2
  have hz2 := fb _ hi1 hi2
  generalize l[k] = x at hrow hsn hfm hz2
  generalize lnB ⟨#[]⟩ (ba (l.length : Nat) :: (l.take k).map ab.fmt) = A at hz hsn |-
  repeat' (first | refine W_ ?_ | refine ac hG hst (hfm) ?_ | refine c_ (fun hc => ?_) (fun hc => ?_) | refine g_ (fun hg => ?_) (fun hg => ?_))
  exact ah (k + 1) (by (try dsimp only); omega) (by (try dsimp only); omega) (.of _ (bX.envCons (qA rfl hsn.symm) (bX.envCons rfl bX.envNil)) od_ pk_)
 ·obtain rfl : k = l.length := by omega
  rw [List.take_length]
  repeat' (first | refine W_ ?_ | refine c_ (fun hc => ?_) (fun hc => ?_) | refine g_ (fun hg => ?_) (fun hg => ?_))
  exact r1_
theorem vJ {G : World -> Prop} : Ct Tryz.prog G 305 [] (fun K => .sl K 1 (aT dG)) := by
 refine aq Tryz.func305 rfl Tryz.ntmps305 rfl rfl fun w0 _ hG => ?_
 repeat' (first | refine W_ ?_ | refine ch ?_ | refine c_ (fun hc => ?_) (fun hc => ?_) | refine g_ (fun hg => ?_) (fun hg => ?_))
 refine aD x_ rfl (.tmp _ _ rfl) (fun _ => ?_)
 exact ck (f := fun b : ByteArray => [TV.str b]) (f' := fun b : ByteArray => [TV.str b]) (fun x => .cons (.flat rfl) .nil) dG
theorem tM (lo : Nat) (x : ag) (hx : x.sane) (hs : x.text.size <= 1048576) : Ct Tryz.prog GF 260 [.agg [.int .i64 x.op, .int .i64 x.a, .int .i64 x.b, .str x.text]] (fun _ => .str x.ln) := by
 refine aq Tryz.func260 rfl Tryz.ntmps260 rfl rfl fun w0 _ hG => ?_
 have hst := fp
 have hin := bm (G := GF) x.op 1 26
 have hus := qP (G := GF) x.op
 have hwd := vJ (G := GF)
 have ha := eu (G := GF) x.a hx.2.1
 have hb := eu (G := GF) x.b hx.2.2.1
 have za := cK hx.2.1
 have zb := cK hx.2.2.1
 unfold ag.ln
 cases hI : inR x.op 1 26 with
 | false =>
   rw [hI] at hin
   repeat' (first | refine W_ ?_ | refine aJ ?_ | refine ac hG hst (hin) ?_ | refine c_ (fun hc => ?_) (fun hc => ?_) | refine g_ (fun hg => ?_) (fun hg => ?_))
   exact r1_
 | true =>
   have hi2 : 1 <= x.op /\ x.op <= 26 := of_decide_eq_true hI
   rw [hI] at hin
   obtain ⟨k, hk⟩ : ∃ k : Nat, x.op = k := ⟨x.op.toNat, by omega⟩
   have hk27 : k < 27 := by omega
   have hrow := cB (l := dG) (i := k) hk27
   have hw1 : dG.getD x.op.toNat ⟨#[]⟩ = dG[k]'hk27 := by rw [hk, Int.toNat_natCast, List.getD_eq_getElem?_getD, List.getElem?_eq_getElem hk27]; rfl
   have hwl := aG dG
   have hwz : ∀ w ∈ dG, ByteArray.size w <= 10 := by decide +kernel
   have hwz := hwz _ (List.getElem_mem hk27)
   rw [hw1]
   clear hw1
   rw [hk] at hin hus |-
   generalize dG[k]'hk27 = w at hrow hwz |-
   have hwl : (aT dG).length = 27 := hwl
   generalize aT dG = rows at hrow hwl hwd
   simp only [if_true]
   cases hA : acJ (k : Int) <;> cases hB : acT (k : Int) <;> cases hT : acM (k : Int)
   all_goals
     rw [hA, hB, hT] at hus
     repeat' (first | refine V_ ?_ | refine aJ ?_ | refine ac hG hst (hin) ?_ | refine ac hG hst (hus) ?_ | refine ac hG hst (ha) ?_ | refine ac hG hst (hb) ?_ | refine ad hG hst (hwd) ?_ | refine c_ (fun hc => ?_) (fun hc => ?_) | refine g_ (fun hg => ?_) (fun hg => ?_))
     refine aD x_ rfl (.tmp _ _ rfl) (fun _ => ?_)
     exact mg (by skip; rfl)
theorem aaT (lo : Nat) (x : aw) (hx : x.sane) (hs : x.small 1048576) : Ct Tryz.prog GF 215 [.agg (x.tw lo)] (fun K => .sl K 1 (aT x.lns)) := by
 refine aq Tryz.func215 rfl Tryz.ntmps215 rfl rfl fun w0 _ hG => ?_
 have hst := fp
 have hrl := ag.len lo x.instrs
 have hlen := hs.1
 have h1 := eu (G := GF) _ hx.1
 have h2 := eu (G := GF) _ hx.2.1
 have z1 := cK hx.1
 have z2 := cK hx.2.1
 unfold aw.tw aw.lns
 cases hB : x.block with
 | false =>
   repeat' (first | refine W_ ?_ | refine aJ ?_ | ((with_reducible apply dP (id := 4) 11); kernel_rfl; kernel_rfl; kernel_rfl; (repeat (first | exact Cut.zero _ | apply Cut.succ))) | with_reducible refine dV (by kernel_rfl) (by kernel_rfl) ?_ | with_reducible refine fO ?_ | with_reducible refine d7 ?_ | with_reducible refine dW rfl ?_ | refine fT rfl rfl rfl rr_ ?_ | refine dX rfl rfl rfl rr_ rfl rfl rfl ?_ | refine cT rfl rfl rfl rr_ rfl rfl ?_ | (refine jX rfl rfl rfl rr_ dd_ ?_) | (refine j2 rfl rfl rfl rr_ dd_ ?_) | (refine ce rfl rfl rfl rr_ (fun hg => ?_) (fun hg => ?_)) | (refine bR rfl rfl rfl rr_ (fun hg => ?_) (fun hg => ?_)) | ((with_reducible apply d_y); exact y_; rfl) | refine ad hG hst (h1) ?_ | refine ad hG hst (h2) ?_ | (refine la ?_; intro ss bb) | refine c_ (fun hc => ?_) (fun hc => ?_) | refine g_ (fun hg => ?_) (fun hg => ?_))
   generalize ss = so; generalize bb = b0
   apply ai (X := Nat × Nat) [1] (fun x' => [(4, .ms so x'.2 0 (x'.1 + 1)), (5, .int .i64 (x'.1 : Int))]) (fun x' => [(so, x'.2, .row 1 (aT (lnB ⟨#[99, 111, 100, 101]⟩ [ba x.params, ba x.slots] :: (x.instrs.take x'.1).map ag.ln)))]) (fun x' => x'.1 <= x.instrs.length) (fun x' => x.instrs.length - x'.1) (0, b0) (Nat.zero_le _)
   ·exact kp_
   ·exact nw_
   ·exact .refl _
   rintro ⟨k, b1⟩ hk
   dsimp only at hk |-
   by_cases hlt : k < x.instrs.length
   ·have hrow := vx (lo := lo) hlt
    have hfm := tM lo x.instrs[k] (hx.2.2 _ (List.getElem_mem hlt)) (hs.2 _ (List.getElem_mem hlt))
    have hln : (aT (lnB ⟨#[99, 111, 100, 101]⟩ [ba x.params, ba x.slots] :: (x.instrs.take k).map ag.ln)).length = k + 1 := by rw [aG, List.length_cons, List.length_map, List.length_take]; omega
    have hsn : lnB ⟨#[99, 111, 100, 101]⟩ [ba x.params, ba x.slots] :: (x.instrs.take (k + 1)).map ag.ln = (lnB ⟨#[99, 111, 100, 101]⟩ [ba x.params, ba x.slots] :: (x.instrs.take k).map ag.ln) ++ [x.instrs[k].ln] := by rw [bN hlt, List.cons_append]
    generalize lnB ⟨#[99, 111, 100, 101]⟩ [ba x.params, ba x.slots] :: (x.instrs.take k).map ag.ln = L at hln hsn |-
    generalize x.instrs[k] = i at hrow hfm hsn
    repeat' (first | refine W_ ?_ | refine ch ?_ | refine ac hG hst (hfm) ?_ | ((with_reducible apply bx); rfl; rfl; rfl; kernel_rfl; (repeat (first | with_reducible exact mh | with_reducible refine mt ?_)); exact hln; exact (rfl : _ = 1); omega; exact jg _ _; (intro bq; (repeat (first | with_reducible exact Upd.head _ | with_reducible apply Upd.tail))); intro bb) | refine c_ (fun hc => ?_) (fun hc => ?_) | refine g_ (fun hg => ?_) (fun hg => ?_))
    rw [<- hsn]
    exact ah (k + 1, bb) (by (try dsimp only); omega) (by (try dsimp only); omega) (.of _ nw_ od_ pk_)
   ·obtain rfl : k = x.instrs.length := by omega
    rw [List.take_length]
    repeat' (first | refine W_ ?_ | refine c_ (fun hc => ?_) (fun hc => ?_) | refine g_ (fun hg => ?_) (fun hg => ?_))
    refine aD x_ rfl (.tmp _ _ rfl) (fun _ => ?_)
    exact iQ (by simp) List.mem_cons_self
 | true =>
   repeat' (first | refine W_ ?_ | refine aJ ?_ | ((with_reducible apply dP (id := 4) 11); kernel_rfl; kernel_rfl; kernel_rfl; (repeat (first | exact Cut.zero _ | apply Cut.succ))) | with_reducible refine dV (by kernel_rfl) (by kernel_rfl) ?_ | with_reducible refine fO ?_ | with_reducible refine d7 ?_ | with_reducible refine dW rfl ?_ | refine fT rfl rfl rfl rr_ ?_ | refine dX rfl rfl rfl rr_ rfl rfl rfl ?_ | refine cT rfl rfl rfl rr_ rfl rfl ?_ | (refine jX rfl rfl rfl rr_ dd_ ?_) | (refine j2 rfl rfl rfl rr_ dd_ ?_) | (refine ce rfl rfl rfl rr_ (fun hg => ?_) (fun hg => ?_)) | (refine bR rfl rfl rfl rr_ (fun hg => ?_) (fun hg => ?_)) | ((with_reducible apply d_y); exact y_; rfl) | refine ad hG hst (h1) ?_ | refine ad hG hst (h2) ?_ | (refine la ?_; intro ss bb) | refine c_ (fun hc => ?_) (fun hc => ?_) | refine g_ (fun hg => ?_) (fun hg => ?_))
   generalize ss = so; generalize bb = b0
   apply ai (X := Nat × Nat) [1] (fun x' => [(4, .ms so x'.2 0 (x'.1 + 1)), (5, .int .i64 (x'.1 : Int))]) (fun x' => [(so, x'.2, .row 1 (aT (lnB ⟨#[98, 108, 111, 99, 107, 99, 111, 100, 101]⟩ [ba x.params, ba x.slots] :: (x.instrs.take x'.1).map ag.ln)))]) (fun x' => x'.1 <= x.instrs.length) (fun x' => x.instrs.length - x'.1) (0, b0) (Nat.zero_le _)
   ·exact kp_
   ·exact nw_
   ·exact .refl _
   rintro ⟨k, b1⟩ hk
   dsimp only at hk |-
   by_cases hlt : k < x.instrs.length
   ·have hrow := vx (lo := lo) hlt
    have hfm := tM lo x.instrs[k] (hx.2.2 _ (List.getElem_mem hlt)) (hs.2 _ (List.getElem_mem hlt))
    have hln : (aT (lnB ⟨#[98, 108, 111, 99, 107, 99, 111, 100, 101]⟩ [ba x.params, ba x.slots] :: (x.instrs.take k).map ag.ln)).length = k + 1 := by rw [aG, List.length_cons, List.length_map, List.length_take]; omega
    have hsn : lnB ⟨#[98, 108, 111, 99, 107, 99, 111, 100, 101]⟩ [ba x.params, ba x.slots] :: (x.instrs.take (k + 1)).map ag.ln = (lnB ⟨#[98, 108, 111, 99, 107, 99, 111, 100, 101]⟩ [ba x.params, ba x.slots] :: (x.instrs.take k).map ag.ln) ++ [x.instrs[k].ln] := by rw [bN hlt, List.cons_append]
    generalize lnB ⟨#[98, 108, 111, 99, 107, 99, 111, 100, 101]⟩ [ba x.params, ba x.slots] :: (x.instrs.take k).map ag.ln = L at hln hsn |-
    generalize x.instrs[k] = i at hrow hfm hsn
    repeat' (first | refine W_ ?_ | refine ch ?_ | refine ac hG hst (hfm) ?_ | ((with_reducible apply bx); rfl; rfl; rfl; kernel_rfl; (repeat (first | with_reducible exact mh | with_reducible refine mt ?_)); exact hln; exact (rfl : _ = 1); omega; exact jg _ _; (intro bq; (repeat (first | with_reducible exact Upd.head _ | with_reducible apply Upd.tail))); intro bb) | refine c_ (fun hc => ?_) (fun hc => ?_) | refine g_ (fun hg => ?_) (fun hg => ?_))
    rw [<- hsn]
    exact ah (k + 1, bb) (by (try dsimp only); omega) (by (try dsimp only); omega) (.of _ nw_ od_ pk_)
   ·obtain rfl : k = x.instrs.length := by omega
    rw [List.take_length]
    repeat' (first | refine W_ ?_ | refine c_ (fun hc => ?_) (fun hc => ?_) | refine g_ (fun hg => ?_) (fun hg => ?_))
    refine aD x_ rfl (.tmp _ _ rfl) (fun _ => ?_)
    exact iQ (by simp) List.mem_cons_self
end Go.Proofs.YtigipcbnfeoliaaGreatDoor
