/- Part 8 of the proof: the texts MkT, MkN, MkC, Peek, CpA, CpB, CpC, CpD, IvA, DepP, DepF, SdA, Ints. -/
import Derived.Test.YthpdkhejeookhaaGreatDoorPart2
import Derived.Test.YthpdkhejeookhaaGreatDoorPart1
import Derived.Deep.RegionHeld3
import Derived.Test.YthpdkhejeookhaaGreatDoorPart5
import Derived.Test.YthpdkhejeookhaaGreatDoorPart6
import Derived.Test.YthpdkhejeookhaaGreatDoorPart7
import Derived.Test.YthpdkhejeookhaaGreatDoorChecked
import Derived.Deep.QuietTactic
import Derived.BigQuiet
/- The law's own text for a mark. -/
namespace Go.Proofs.YthpdkhejeookhaaGreatDoor
open Go Go.RowKit
/-- A mark's text. -/
def markB (n : Int) : ByteArray := ⟨(109 :: Lib.itoa n).toArray⟩
set_option maxHeartbeats 400000 in
set_option maxRecDepth 8000 in
theorem markText_any (n : Int) (w : World) (h0 : 0 ≤ n) (h1 : n ≤ 9000000000000000000) : Calls Tryz.prog 127 #[.int .i64 n] w fun e w' => e = .returned (.string (markB n)) ∧ Below w.heap.size w w' := by
  by_cases hz : n = 0
  · subst hz
    go_enter Tryz.func127, Tryz.ntmps127
    go_wp2
    go_ret
    exact ⟨ret_str (by decide +kernel), Below.refl _ _⟩
  have Hlen := Lib.hid (pre_length (u := n.natAbs) (by omega))
  have HP := Lib.hid (numB_pre hz)
  have hpos : 0 < n := by omega
  have hle : ¬ n ≤ 0 := by omega
  go_enter Tryz.func127, Tryz.ntmps127
  go_wp2
  go_loopw [0, 3] (fun nv ov wr => ∃ (m : Nat) (s : ByteArray), nv = .int .i64 (m : Int) ∧ ov = .string s ∧ m ≤ 9000000000000000000 ∧ pre m ++ s.data.toList = pre n.natAbs ∧ Below w.heap.size w wr) (fun nv _ _ => (intOf nv).natAbs)
  case atStart => exact ⟨n.natAbs, _, by rw [show ((n.natAbs : Nat) : Int) = n by omega], rfl, by omega, by simp, Below.refl _ _⟩
  case round =>
    obtain ⟨m, s, rfl, rfl, hm1, hr, hb⟩ := hrel
    have hsz : s.size ≤ 19 := by
      have := congrArg List.length hr
      rw [List.length_append, size_toList] at this
      have := Hlen.out
      omega
    have Hr := Lib.hid hr
    clear hr
    by_cases hm : m = 0
    · subst hm
      go_wp2
      go_ret
      refine ⟨ret_str ?_, hb⟩
      have h2 := Hr.out
      rw [show pre 0 = [] from rfl, List.nil_append] at h2
      refine bytes_eq ?_
      rw [ByteArray.data_append, Array.toList_append, h2]
      have h3 := HP.out
      rw [if_neg (by omega)] at h3
      have h4 : Lib.itoa n = pre n.natAbs := congrArg (fun b : ByteArray => b.data.toList) h3
      show _ = 109 :: Lib.itoa n
      rw [h4]; rfl
    · have hd9 : m % 10 ≤ 9 := by omega
      have hp := pre_step (u := m) hm
      generalize hd : m % 10 = d at hd9 hp
      have hdi : (m : Int) % 10 = (d : Int) := by omega
      have hdq : ((m / 10 : Nat) : Int) = (m : Int) / 10 := by omega
      obtain ⟨b, hbd⟩ : ∃ b, UInt8.ofNat (48 + d) = b := ⟨_, rfl⟩
      rw [hbd] at hp
      have Hp := Lib.hid hp
      have hcv := conv_one 265 5 wr (48 + d) (by omega) (48 + (d : Int)) (by omega) Tryz.underlying265 Tryz.underlying5
      rw [hbd] at hcv
      have Hdq := Lib.hid hdq
      clear hp hd hbd hdq
      have hnext : pre (m / 10) ++ ((⟨#[b]⟩ : ByteArray) ++ s).data.toList = pre n.natAbs := by
        rw [← Hr.out, Hp.out, ByteArray.data_append, Array.toList_append, List.append_assoc]
      have Hn := Lib.hid hnext
      clear hnext
      have hbel : ∀ o, Below w.heap.size w (wr.alloc o) := fun o => hb.trans (((Below.refl _ _).alloc (Nat.le_refl _) o).mono hb.size)
      have hm0 : (0 : Int) < (m : Int) := by omega
      clear hb
      go_wp2
      go_roundw
      case rel => exact ⟨m / 10, _, by rw [Hdq.out], rfl, by omega, Hn.out, hbel _⟩
      case measure => simp [intOf]; omega

theorem markText_ct {G : World → Prop} (n : Int) (h0 : 0 ≤ n) (h1 : n ≤ 9000000000000000000) : Ct Tryz.prog G 127 [.int .i64 n] (fun _ => .str (markB n)) := ct_int_str fun w _ => markText_any n w h0 h1
end Go.Proofs.YthpdkhejeookhaaGreatDoor
/- The laws' marks of what a call owns, and their check: exact. Written by gen_mk.py. -/
namespace Go.Proofs.YthpdkhejeookhaaGreatDoor
set_option maxRecDepth 20000
open Go Go.RowKit
/-- A list marked from k on. -/
def mkL {α : Type} (mk : Int → α → α) (nx : Int → α → Int) : Int → List α → List α
  | _, [] => []
  | k, x :: r => mk k x :: mkL mk nx (nx k x) r
def kL {α : Type} (nx : Int → α → Int) (k : Int) (l : List α) : Int := l.foldl nx k
def ptL {α : Type} (mk : Int → α → α) (nx : Int → α → Int) (k : Int) (l : List α) (i : Nat) : List α := mkL mk nx k (l.take i) ++ l.drop i
section
variable {α : Type} {mk : Int → α → α} {nx : Int → α → Int}
theorem mkL_len : ∀ (k : Int) (l : List α), (mkL mk nx k l).length = l.length
  | _, [] => rfl
  | k, x :: r => by simp [mkL, mkL_len (nx k x) r]
theorem mkL_app : ∀ (k : Int) (a b : List α), mkL mk nx k (a ++ b) = mkL mk nx k a ++ mkL mk nx (kL nx k a) b
  | _, [], b => rfl
  | k, x :: r, b => by
    show mk k x :: mkL mk nx (nx k x) (r ++ b) = mk k x :: (mkL mk nx (nx k x) r ++ mkL mk nx (kL nx (nx k x) r) b)
    rw [mkL_app]
theorem kL_snoc {k : Int} {l : List α} {i : Nat} (h : i < l.length) : kL nx k (l.take (i + 1)) = nx (kL nx k (l.take i)) l[i] := by
  rw [takeSnoc h]
  unfold kL
  rw [List.foldl_append]; rfl
theorem ptL_len {k : Int} {l : List α} {i : Nat} (h : i ≤ l.length) : (ptL mk nx k l i).length = l.length := by
  unfold ptL
  rw [List.length_append, mkL_len, List.length_take, List.length_drop]; omega
theorem ptL_get {k : Int} {l : List α} {i : Nat} (h : i < l.length) : (ptL mk nx k l i)[i]? = some l[i] := by
  unfold ptL
  rw [List.getElem?_append_right (by rw [mkL_len, List.length_take]; omega), mkL_len, List.length_take, show i - min i l.length = 0 by omega, List.drop_eq_getElem_cons h]; rfl
theorem ptL_set {k : Int} {l : List α} {i : Nat} (h : i < l.length) : (ptL mk nx k l i).set i (mk (kL nx k (l.take i)) l[i]) = ptL mk nx k l (i + 1) := by
  unfold ptL
  rw [List.set_append_right _ _ (by rw [mkL_len, List.length_take]; omega), mkL_len, List.length_take, show i - min i l.length = 0 by omega, List.drop_eq_getElem_cons h, List.set_cons_zero, takeSnoc h, mkL_app, List.append_assoc]; rfl
theorem ptL_full (k : Int) (l : List α) : ptL mk nx k l l.length = mkL mk nx k l := by
  unfold ptL
  rw [List.take_length, List.drop_length, List.append_nil]
theorem mkL_get {k : Int} {l : List α} {i : Nat} (h : i < l.length) : (mkL mk nx k l)[i]? = some (mk (kL nx k (l.take i)) l[i]) := by
  conv => lhs; rw [← List.take_append_drop i l, mkL_app]
  rw [List.getElem?_append_right (by rw [mkL_len, List.length_take]; omega), mkL_len, List.length_take, show i - min i l.length = 0 by omega, List.drop_eq_getElem_cons h]; rfl
theorem kL_in {c : Nat} : ∀ {l : List α} {k : Int}, (∀ x ∈ l, ∀ q, q ≤ nx q x ∧ nx q x ≤ q + c) → k ≤ kL nx k l ∧ kL nx k l ≤ k + c * l.length
  | [], k, _ => by show k ≤ k ∧ k ≤ k + _; simp
  | x :: r, k, h => by
    have h1 := h x List.mem_cons_self k
    have h2 := kL_in (l := r) (k := nx k x) (fun y hy => h y (List.mem_cons_of_mem _ hy))
    have e : kL nx k (x :: r) = kL nx (nx k x) r := rfl
    have e2 : (c : Int) * (((x :: r).length : Nat) : Int) = c * (r.length : Nat) + c := by rw [List.length_cons, Int.natCast_add, Int.mul_add]; simp
    rw [e, e2]
    omega
theorem kL_take {c : Nat} {l : List α} {k : Int} {i : Nat} {n : Nat} (hn : l.length ≤ n) (h : ∀ x ∈ l, ∀ q, q ≤ nx q x ∧ nx q x ≤ q + c) (hi : i ≤ l.length) : k ≤ kL nx k (l.take i) ∧ kL nx k (l.take i) ≤ k + c * n := by
  have h1 := kL_in (nx := nx) (c := c) (l := l.take i) (k := k) (fun x hx => h x (List.mem_of_mem_take hx))
  have h2 : (l.take i).length ≤ n := by rw [List.length_take]; omega
  have h3 : (c : Int) * ((l.take i).length : Nat) ≤ c * n := by exact_mod_cast Nat.mul_le_mul_left c h2
  omega
end
/-- One of the rows' objects is taken out of the list, and put back. -/
theorem nO_get {α : Type} (ob : α → TObj) {l : List α} {ps : List (Nat × Nat)} {i : Nat} {p : Nat × Nat} {x : α} (hx : l[i]? = some x) (hp : ps[i]? = some p) : (nO ob l ps)[i]? = some (p.1, p.2, ob x) := by
  unfold nO
  rw [List.getElem?_zipWith, hx, hp]
theorem nR_get {α : Type} (mk : α → Nat × Nat → List TV) {l : List α} {ps : List (Nat × Nat)} {i : Nat} {p : Nat × Nat} {x : α} (hx : l[i]? = some x) (hp : ps[i]? = some p) : (nR mk l ps)[i]? = some (mk x p) := by
  unfold nR
  rw [List.getElem?_zipWith, hx, hp]
theorem zip_set {α β γ : Type} (f : α → β → γ) : ∀ {l : List α} {ps : List β} {i : Nat} {p : β} {x : α}, ps[i]? = some p → List.zipWith f (l.set i x) ps = (List.zipWith f l ps).set i (f x p)
  | [], _, _, _, _, _ => by simp
  | _ :: _, [], _, _, _, h => by simp at h
  | a :: l, q :: ps, 0, p, x, h => by simp at h; subst h; simp
  | a :: l, q :: ps, i + 1, p, x, h => by
    have := zip_set f (l := l) (ps := ps) (i := i) (p := p) (x := x) (by simpa using h)
    simp [this]
theorem nR_put {α : Type} (mk : α → Nat × Nat → List TV) {l : List α} {ps : List (Nat × Nat)} {i : Nat} {p : Nat × Nat} {x : α} (hp : ps[i]? = some p) : nR mk (l.set i x) ps = (nR mk l ps).set i (mk x p) := zip_set mk hp
theorem perm_out {α : Type} : ∀ {l : List α} {i : Nat} {x : α}, l[i]? = some x → l.Perm (x :: l.eraseIdx i)
  | [], _, _, h => by simp at h
  | a :: l, 0, x, h => by simp at h; subst h; exact .refl _
  | a :: l, i + 1, x, h => by
    have := perm_out (l := l) (i := i) (x := x) (by simpa using h)
    exact (this.cons a).trans (.swap x a _)
theorem erase_set {α : Type} : ∀ (l : List α) (i : Nat) (x : α), (l.set i x).eraseIdx i = l.eraseIdx i
  | [], _, _ => rfl
  | a :: l, 0, x => rfl
  | a :: l, i + 1, x => by simp [erase_set l i x]
theorem nO_out {α : Type} (ob : α → TObj) {l : List α} {ps : List (Nat × Nat)} {i : Nat} {p : Nat × Nat} {x : α} (hx : l[i]? = some x) (hp : ps[i]? = some p) : (nO ob l ps).Perm ((p.1, p.2, ob x) :: (nO ob l ps).eraseIdx i) := perm_out (nO_get ob hx hp)
theorem nO_in {α : Type} (ob : α → TObj) {l : List α} {ps : List (Nat × Nat)} {i : Nat} {p : Nat × Nat} {x : α} (hl : i < l.length) (hp : ps[i]? = some p) : (nO ob (l.set i x) ps).Perm ((p.1, p.2, ob x) :: (nO ob l ps).eraseIdx i) := by
  have h := nO_out ob (l := l.set i x) (ps := ps) (i := i) (p := p) (x := x) (by rw [List.getElem?_set_self hl]) hp
  have e : (nO ob (l.set i x) ps).eraseIdx i = (nO ob l ps).eraseIdx i := by
    unfold nO
    rw [zip_set _ hp, erase_set]
  rw [e] at h
  exact h
theorem pick_out {a z : Nat × Nat × TObj} {N E : Objs} (h : N.Perm (z :: E)) (R : Objs) : Pick (z :: a :: (E ++ R)) (a :: (N ++ R)) := .perm (by
  have h1 : (a :: (N ++ R)).Perm (a :: z :: (E ++ R)) := ((h.append_right R)).cons a
  exact (List.Perm.swap a z _).trans h1.symm)
theorem pick_in {a z : Nat × Nat × TObj} {N E : Objs} (h : N.Perm (z :: E)) (R : Objs) : Pick (a :: (N ++ R)) (z :: a :: (E ++ R)) := .perm (by
  have h1 : (a :: (N ++ R)).Perm (a :: z :: (E ++ R)) := ((h.append_right R)).cons a
  exact h1.trans (List.Perm.swap z a _))
theorem pick_rot (A B C : Objs) : Pick (B ++ (A ++ C)) (A ++ (B ++ C)) := .perm (by
  rw [← List.append_assoc, ← List.append_assoc]
  exact List.perm_append_comm.append_right C)
def mkString (k : Int) (_ : ByteArray) : ByteArray := markB k
def nxString (k : Int) (_ : ByteArray) : Int := k + 1
theorem nxString_in (l : List ByteArray) : ∀ x ∈ l, ∀ q, q ≤ nxString q x ∧ nxString q x ≤ q + (1 : Nat) := fun x _ q => by unfold nxString; omega
theorem strR_put (l : List ByteArray) (k : Nat) (s : ByteArray) : (strR l).set k [TV.str s] = strR (l.set k s) := by simp [strR, List.map_set]
def mkInstr (k : Int) (_ : TInstr) : TInstr := ⟨k, k + 1, k + 1 + 1, markB (k + 1 + 1 + 1)⟩
def nxInstr (k : Int) (_ : TInstr) : Int := k + 1 + 1 + 1 + 1
theorem nxInstr_in (l : List TInstr) : ∀ x ∈ l, ∀ q, q ≤ nxInstr q x ∧ nxInstr q x ≤ q + (4 : Nat) := fun x _ q => by unfold nxInstr; omega
def mkEntry (k : Int) (_ : TEntry) : TEntry := ⟨k, decide ((k + 1).tmod 3 = 0), markB (k + 1 + 1), k + 1 + 1 + 1⟩
def nxEntry (k : Int) (_ : TEntry) : Int := k + 1 + 1 + 1 + 1
theorem nxEntry_in (l : List TEntry) : ∀ x ∈ l, ∀ q, q ≤ nxEntry q x ∧ nxEntry q x ≤ q + (4 : Nat) := fun x _ q => by unfold nxEntry; omega
def mkClassInfo (k : Int) (x : TClassInfo) : TClassInfo := ⟨markB (k), k + 1, mkL mkString nxString (k + 1 + 1) x.fields⟩
def nxClassInfo (k : Int) (x : TClassInfo) : Int := kL nxString (k + 1 + 1) x.fields
theorem nxClassInfo_in {l : List TClassInfo} (h : ∀ y ∈ l, TClassInfo.small 1048576 y) : ∀ x ∈ l, ∀ q, q ≤ nxClassInfo q x ∧ nxClassInfo q x ≤ q + (1048578 : Nat) := fun x hx q => by
  have h1 := h x hx
  have h2 := h1.2.1
  have h3 := kL_in (nx := nxString) (l := x.fields) (k := q + 1 + 1) (nxString_in _)
  unfold nxClassInfo
  omega
def mkCode (k : Int) (x : TCode) : TCode := ⟨decide ((k).tmod 3 = 0), k + 1, k + 1 + 1, mkL mkInstr nxInstr (k + 1 + 1 + 1) x.instrs⟩
def nxCode (k : Int) (x : TCode) : Int := kL nxInstr (k + 1 + 1 + 1) x.instrs
theorem nxCode_in {l : List TCode} (h : ∀ y ∈ l, TCode.small 1048576 y) : ∀ x ∈ l, ∀ q, q ≤ nxCode q x ∧ nxCode q x ≤ q + (4194307 : Nat) := fun x hx q => by
  have h1 := h x hx
  have h2 := h1.1
  have h3 := kL_in (nx := nxInstr) (l := x.instrs) (k := q + 1 + 1 + 1) (nxInstr_in _)
  unfold nxCode
  omega
section
variable {G : World → Prop}
theorem markStringS_own (hst : Stable G) (s b : Nat) (l : List ByteArray) (k : Int) (hn : l.length ≤ 1048576) (hk : 0 ≤ k ∧ k ≤ 1000000000000000) : CtM Tryz.prog G 128 [.ms s b 0 l.length, .int .i64 k] [(s, b, .row 1 (strR (l)))] (fun _ : Unit => True) (fun _ => [(s, b, .row 1 (strR (mkL mkString nxString k l)))]) (fun _ => .int .i64 (kL nxString k l)) := by
  refine ctm_enter Tryz.func128 rfl Tryz.ntmps128 rfl rfl rfl fun w0 R gs objsR hG hR => ?_
  obtain rfl := hR.inv1
  clear hR
  repeat' (first | ((with_reducible apply o_y); exact y_; rfl) | with_reducible refine al_none rfl ?_ | (with_reducible first | apply aw_seq | apply aw_region | apply al_nil | apply aq_then | apply aw_block))
  apply aw_loopk (X := Nat) [0, 1000000] (fun x => [(5, .int .i64 (x : Int)), (1, .int .i64 (kL nxString k (l.take x)))]) (fun x => (s, b, .row 1 (strR (ptL mkString nxString k l x))) :: R) (fun x => x ≤ l.length) (fun x => l.length - x) 0 (Nat.zero_le _)
  exact kp_; (repeat (first | exact Weak.envNil | refine Weak.envCons we_ ?_))
  · exact .refl _
  intro i hi
  try dsimp only
  have hq := kL_take (k := k) (i := i) hn (nxString_in l) hi
  by_cases hlt : i < l.length
  · have hrow : (strR (ptL mkString nxString k l i))[i]? = some ((fun s : ByteArray => [TV.str s]) l[i]) := by
      simp only [strR, List.getElem?_map, ptL_get hlt]; rfl
    have hset : (strR (ptL mkString nxString k l i)).set i ((fun s : ByteArray => [TV.str s]) (mkString (kL nxString k (l.take i)) l[i])) = strR (ptL mkString nxString k l (i + 1)) := by
      rw [← ptL_set hlt, strR_put]
    have hks := kL_snoc (nx := nxString) (k := k) hlt
    have hrl : (strR (ptL mkString nxString k l i)).length = l.length := by simp [strR, ptL_len hi]
    generalize strR (ptL mkString nxString k l i) = rows at hrow hset hrl ⊢
    generalize kL nxString k (l.take i) = q at hq hset hks ⊢
    generalize l[i] = x at hrow hset hks
    replace hrow : rows[i]? = some [.str x] := hrow
    have hks2 : kL nxString k (l.take (i + 1)) = q + 1 := hks
    repeat' (first | ((with_reducible apply o_y); exact y_; rfl) | refine e_store ?_ | ((with_reducible apply o_call); rfl; kernel_rfl; (repeat (first | exact Args.nil | ((with_reducible apply Args.cons); rfl; exact .same _))); exact hG; exact hst; exact markText_ct _ (by omega) (by omega)) | with_reducible refine al_none rfl ?_ | (with_reducible first | apply aw_seq | apply aw_region | apply al_nil | apply aq_then | apply aw_block | apply aw_skip | apply aq_block) | (refine aw_cond_dt rfl rr_ dd_ ?_))
    refine aq_round (i + 1) (by omega) (by omega) (.of _ (Weak.envCons rfl (Weak.envCons (lk_int rfl (by rw [hks2])) Weak.envNil)) od_ ?_)
    rw [← hset]
    (try simp only [List.set_set])
    exact .refl _
  · obtain rfl : i = l.length := by omega
    rw [ptL_full, List.take_length]
    repeat' (first | ((with_reducible apply o_y); exact y_; rfl) | with_reducible refine al_none rfl ?_ | (with_reducible first | apply aw_seq | apply aw_region | apply al_nil | apply aq_then | apply aw_exit | apply aw_ret | apply aq_block_hit | apply aq_then_exit) | (refine aw_cond_df rfl rr_ dd_ ?_))
    exact aq_retm1 x_ rfl () trivial rfl (.cons _ _ _ _ (.nil R)) pk_ (.tmp _ _ rfl) rfl
theorem markInstrS_own (hst : Stable G) (s b : Nat) (l : List TInstr) (k : Int) (hn : l.length ≤ 1048576) (hk : 0 ≤ k ∧ k ≤ 1000000000000000) : CtM Tryz.prog G 129 [.ms s b 0 l.length, .int .i64 k] [(s, b, .row 4 ((l).map (TInstr.tw 0)))] (fun _ : Unit => True) (fun _ => [(s, b, .row 4 ((mkL mkInstr nxInstr k l).map (TInstr.tw 0)))]) (fun _ => .int .i64 (kL nxInstr k l)) := by
  refine ctm_enter Tryz.func129 rfl Tryz.ntmps129 rfl rfl rfl fun w0 R gs objsR hG hR => ?_
  obtain rfl := hR.inv1
  clear hR
  repeat' (first | ((with_reducible apply o_y); exact y_; rfl) | with_reducible refine al_none rfl ?_ | (with_reducible first | apply aw_seq | apply aw_region | apply al_nil | apply aq_then | apply aw_block))
  apply aw_loopk (X := Nat) [0, 1000000] (fun x => [(5, .int .i64 (x : Int)), (1, .int .i64 (kL nxInstr k (l.take x)))]) (fun x => (s, b, .row 4 ((ptL mkInstr nxInstr k l x).map (TInstr.tw 0))) :: R) (fun x => x ≤ l.length) (fun x => l.length - x) 0 (Nat.zero_le _)
  exact kp_; (repeat (first | exact Weak.envNil | refine Weak.envCons we_ ?_))
  · exact .refl _
  intro i hi
  try dsimp only
  have hq := kL_take (k := k) (i := i) hn (nxInstr_in l) hi
  by_cases hlt : i < l.length
  · have hrow : ((ptL mkInstr nxInstr k l i).map (TInstr.tw 0))[i]? = some ((TInstr.tw 0) l[i]) := by
      simp only [strR, List.getElem?_map, ptL_get hlt]; rfl
    have hset : ((ptL mkInstr nxInstr k l i).map (TInstr.tw 0)).set i ((TInstr.tw 0) (mkInstr (kL nxInstr k (l.take i)) l[i])) = (ptL mkInstr nxInstr k l (i + 1)).map (TInstr.tw 0) := by
      rw [← ptL_set hlt, List.map_set]
    have hks := kL_snoc (nx := nxInstr) (k := k) hlt
    have hrl : ((ptL mkInstr nxInstr k l i).map (TInstr.tw 0)).length = l.length := by simp [strR, ptL_len hi]
    generalize (ptL mkInstr nxInstr k l i).map (TInstr.tw 0) = rows at hrow hset hrl ⊢
    generalize kL nxInstr k (l.take i) = q at hq hset hks ⊢
    generalize l[i] = x at hrow hset hks
    replace hrow : rows[i]? = some [.int .i64 x.op, .int .i64 x.a, .int .i64 x.b, .str x.text] := hrow
    have hr1 : (rows.set i [.int .i64 q, .int .i64 x.a, .int .i64 x.b, .str x.text])[i]? = some [.int .i64 q, .int .i64 x.a, .int .i64 x.b, .str x.text] := by rw [List.getElem?_set_self (by omega)]
    have hks2 : kL nxInstr k (l.take (i + 1)) = q + 1 + 1 + 1 + 1 := hks
    repeat' (first | ((with_reducible apply o_y); exact y_; rfl) | refine e_store ?_ | ((with_reducible apply o_call); rfl; kernel_rfl; (repeat (first | exact Args.nil | ((with_reducible apply Args.cons); rfl; exact .same _))); exact hG; exact hst; exact markText_ct _ (by omega) (by omega)) | with_reducible refine al_none rfl ?_ | (with_reducible first | apply aw_seq | apply aw_region | apply al_nil | apply aq_then | apply aw_block | apply aw_skip | apply aq_block) | (refine aw_cond_dt rfl rr_ dd_ ?_))
    refine aq_round (i + 1) (by omega) (by omega) (.of _ (Weak.envCons rfl (Weak.envCons (lk_int rfl (by rw [hks2])) Weak.envNil)) od_ ?_)
    rw [← hset]
    (try simp only [List.set_set])
    exact .refl _
  · obtain rfl : i = l.length := by omega
    rw [ptL_full, List.take_length]
    repeat' (first | ((with_reducible apply o_y); exact y_; rfl) | with_reducible refine al_none rfl ?_ | (with_reducible first | apply aw_seq | apply aw_region | apply al_nil | apply aq_then | apply aw_exit | apply aw_ret | apply aq_block_hit | apply aq_then_exit) | (refine aw_cond_df rfl rr_ dd_ ?_))
    exact aq_retm1 x_ rfl () trivial rfl (.cons _ _ _ _ (.nil R)) pk_ (.tmp _ _ rfl) rfl
theorem markEntryS_own (hst : Stable G) (s b : Nat) (l : List TEntry) (k : Int) (hn : l.length ≤ 1048576) (hk : 0 ≤ k ∧ k ≤ 1000000000000000) : CtM Tryz.prog G 50 [.ms s b 0 l.length, .int .i64 k] [(s, b, .row 4 ((l).map (TEntry.tw 0)))] (fun _ : Unit => True) (fun _ => [(s, b, .row 4 ((mkL mkEntry nxEntry k l).map (TEntry.tw 0)))]) (fun _ => .int .i64 (kL nxEntry k l)) := by
  refine ctm_enter Tryz.func50 rfl Tryz.ntmps50 rfl rfl rfl fun w0 R gs objsR hG hR => ?_
  obtain rfl := hR.inv1
  clear hR
  repeat' (first | ((with_reducible apply o_y); exact y_; rfl) | with_reducible refine al_none rfl ?_ | (with_reducible first | apply aw_seq | apply aw_region | apply al_nil | apply aq_then | apply aw_block))
  apply aw_loopk (X := Nat) [0, 1000000] (fun x => [(5, .int .i64 (x : Int)), (1, .int .i64 (kL nxEntry k (l.take x)))]) (fun x => (s, b, .row 4 ((ptL mkEntry nxEntry k l x).map (TEntry.tw 0))) :: R) (fun x => x ≤ l.length) (fun x => l.length - x) 0 (Nat.zero_le _)
  exact kp_; (repeat (first | exact Weak.envNil | refine Weak.envCons we_ ?_))
  · exact .refl _
  intro i hi
  try dsimp only
  have hq := kL_take (k := k) (i := i) hn (nxEntry_in l) hi
  by_cases hlt : i < l.length
  · have hrow : ((ptL mkEntry nxEntry k l i).map (TEntry.tw 0))[i]? = some ((TEntry.tw 0) l[i]) := by
      simp only [strR, List.getElem?_map, ptL_get hlt]; rfl
    have hset : ((ptL mkEntry nxEntry k l i).map (TEntry.tw 0)).set i ((TEntry.tw 0) (mkEntry (kL nxEntry k (l.take i)) l[i])) = (ptL mkEntry nxEntry k l (i + 1)).map (TEntry.tw 0) := by
      rw [← ptL_set hlt, List.map_set]
    have hks := kL_snoc (nx := nxEntry) (k := k) hlt
    have hrl : ((ptL mkEntry nxEntry k l i).map (TEntry.tw 0)).length = l.length := by simp [strR, ptL_len hi]
    generalize (ptL mkEntry nxEntry k l i).map (TEntry.tw 0) = rows at hrow hset hrl ⊢
    generalize kL nxEntry k (l.take i) = q at hq hset hks ⊢
    generalize l[i] = x at hrow hset hks
    replace hrow : rows[i]? = some [.int .i64 x.owner, .bool x.class_, .str x.selector, .int .i64 x.code] := hrow
    have hr1 : (rows.set i [.int .i64 q, .bool x.class_, .str x.selector, .int .i64 x.code])[i]? = some [.int .i64 q, .bool x.class_, .str x.selector, .int .i64 x.code] := by rw [List.getElem?_set_self (by omega)]
    have hks2 : kL nxEntry k (l.take (i + 1)) = q + 1 + 1 + 1 + 1 := hks
    repeat' (first | ((with_reducible apply o_y); exact y_; rfl) | refine e_store ?_ | ((with_reducible apply o_call); rfl; kernel_rfl; (repeat (first | exact Args.nil | ((with_reducible apply Args.cons); rfl; exact .same _))); exact hG; exact hst; exact markText_ct _ (by omega) (by omega)) | with_reducible refine al_none rfl ?_ | (with_reducible first | apply aw_seq | apply aw_region | apply al_nil | apply aq_then | apply aw_block | apply aw_skip | apply aq_block) | (refine aw_cond_dt rfl rr_ dd_ ?_))
    refine aq_round (i + 1) (by omega) (by omega) (.of _ (Weak.envCons rfl (Weak.envCons (lk_int rfl (by rw [hks2])) Weak.envNil)) od_ ?_)
    rw [← hset]
    (try simp only [List.set_set])
    exact .refl _
  · obtain rfl : i = l.length := by omega
    rw [ptL_full, List.take_length]
    repeat' (first | ((with_reducible apply o_y); exact y_; rfl) | with_reducible refine al_none rfl ?_ | (with_reducible first | apply aw_seq | apply aw_region | apply al_nil | apply aq_then | apply aw_exit | apply aw_ret | apply aq_block_hit | apply aq_then_exit) | (refine aw_cond_df rfl rr_ dd_ ?_))
    exact aq_retm1 x_ rfl () trivial rfl (.cons _ _ _ _ (.nil R)) pk_ (.tmp _ _ rfl) rfl
theorem markClassInfoS_own (hst : Stable G) (s b : Nat) (l : List TClassInfo) (ps : List (Nat × Nat)) (hps : ps.length = l.length) (k : Int) (hn : l.length ≤ 1048576 ∧ ∀ y ∈ l, TClassInfo.small 1048576 y) (hk : 0 ≤ k ∧ k ≤ 100000000000000) :
    CtM Tryz.prog G 48 [.ms s b 0 l.length, .int .i64 k] ((s, b, .row 3 (nR clsMk l ps)) :: nO clsOb l ps) (fun _ : Unit => True) (fun _ => (s, b, .row 3 (nR clsMk (mkL mkClassInfo nxClassInfo k l) ps)) :: nO clsOb (mkL mkClassInfo nxClassInfo k l) ps) (fun _ => .int .i64 (kL nxClassInfo k l)) := by
  refine ctm_enter Tryz.func48 rfl Tryz.ntmps48 rfl rfl rfl fun w0 R gs objsR hG hR => ?_
  obtain rfl := hR.eq
  clear hR
  obtain ⟨hn, hsm⟩ := hn
  repeat' (first | ((with_reducible apply o_y); exact y_; rfl) | with_reducible refine al_none rfl ?_ | (with_reducible first | apply aw_seq | apply aw_region | apply al_nil | apply aq_then | apply aw_block))
  apply aw_loopk (X := Nat) [0, 1000000] (fun x => [(5, .int .i64 (x : Int)), (1, .int .i64 (kL nxClassInfo k (l.take x)))]) (fun x => (s, b, .row 3 (nR clsMk (ptL mkClassInfo nxClassInfo k l x) ps)) :: (nO clsOb (ptL mkClassInfo nxClassInfo k l x) ps ++ R)) (fun x => x ≤ l.length) (fun x => l.length - x) 0 (Nat.zero_le _)
  exact kp_; (repeat (first | exact Weak.envNil | refine Weak.envCons we_ ?_))
  · exact .refl _
  intro i hi
  try dsimp only
  have hq := kL_take (k := k) (i := i) hn (nxClassInfo_in hsm) hi
  by_cases hlt : i < l.length
  · obtain ⟨p, hp⟩ : ∃ p, ps[i]? = some p := ⟨_, List.getElem?_eq_getElem (by omega)⟩
    have hpl : i < (ptL mkClassInfo nxClassInfo k l i).length := by rw [ptL_len hi]; exact hlt
    have hrow := nR_get clsMk (ptL_get (mk := mkClassInfo) (nx := nxClassInfo) (k := k) hlt) hp
    have hset := nR_put clsMk (l := ptL mkClassInfo nxClassInfo k l i) (x := mkClassInfo (kL nxClassInfo k (l.take i)) l[i]) hp
    have hout := nO_out clsOb (ptL_get (mk := mkClassInfo) (nx := nxClassInfo) (k := k) hlt) hp
    have hin := nO_in clsOb (x := mkClassInfo (kL nxClassInfo k (l.take i)) l[i]) hpl hp
    rw [ptL_set hlt] at hset hin
    have hks := kL_snoc (nx := nxClassInfo) (k := k) hlt
    have hrl : (nR clsMk (ptL mkClassInfo nxClassInfo k l i) ps).length = l.length := by rw [nR_len _ (by rw [ptL_len hi]; exact hps), ptL_len hi]
    have hb := hsm _ (List.getElem_mem hlt)
    generalize (nO clsOb (ptL mkClassInfo nxClassInfo k l i) ps).eraseIdx i = E at hout hin
    generalize nO clsOb (ptL mkClassInfo nxClassInfo k l i) ps = N0 at hout ⊢
    generalize nR clsMk (ptL mkClassInfo nxClassInfo k l i) ps = rows at hrow hset hrl ⊢
    generalize kL nxClassInfo k (l.take i) = q at hq hset hks hin ⊢
    generalize l[i] = x at hrow hset hks hout hin hb
    replace hrow : rows[i]? = some [.str x.name, .int .i64 x.parent, .ms p.1 p.2 0 x.fields.length] := hrow
    have hr1 : (rows.set i [.str (markB (q)), .int .i64 x.parent, .ms p.1 p.2 0 x.fields.length])[i]? = some [.str (markB (q)), .int .i64 x.parent, .ms p.1 p.2 0 x.fields.length] := by rw [List.getElem?_set_self (by omega)]
    have hct := markStringS_own hst p.1 p.2 x.fields (q + 1 + 1) hb.2.1 (by omega)
    repeat' (first | ((with_reducible apply o_y); exact y_; rfl) | refine e_store ?_ | ((with_reducible apply o_call); rfl; kernel_rfl; (repeat (first | exact Args.nil | ((with_reducible apply Args.cons); rfl; exact .same _))); exact hG; exact hst; exact markText_ct _ (by omega) (by omega)) | with_reducible refine al_none rfl ?_ | (with_reducible first | apply aw_seq | apply aw_region | apply al_nil | apply aq_then | apply aw_block | apply aw_skip) | (refine aw_cond_dt rfl rr_ dd_ ?_))
    refine ao_pick (pick_out hout R) ?_
    repeat' (first | ((with_reducible apply o_y); exact y_; rfl) | ((with_reducible apply o_callM); rfl; kernel_rfl; (repeat (first | exact ArgsM.nil | ((with_reducible apply ArgsM.cons); rfl))); exact hG; exact hct; exact .cons _ _ _ _ (.nil _); intro y hy; refine al_app1 ?_) | with_reducible refine al_none rfl ?_ | (with_reducible first | apply aw_region | apply al_nil | apply aq_then | apply aq_block))
    refine aq_round (i + 1) (by omega) (by omega) (.of _ (Weak.envCons rfl (Weak.envCons (lk_int rfl (by rw [hks]; rfl)) Weak.envNil)) od_ ?_)
    rw [hset]
    simp only [List.set_set]
    have hcl : clsMk (mkClassInfo q x) p = [.str (markB (q)), .int .i64 (q + 1), .ms p.1 p.2 0 x.fields.length] := by
      unfold clsMk mkClassInfo
      dsimp only
      rw [mkL_len]
    rw [hcl]
    exact pick_in hin R
  · obtain rfl : i = l.length := by omega
    rw [ptL_full, List.take_length]
    repeat' (first | ((with_reducible apply o_y); exact y_; rfl) | with_reducible refine al_none rfl ?_ | (with_reducible first | apply aw_seq | apply aw_region | apply al_nil | apply aq_then | apply aw_exit | apply aw_ret | apply aq_block_hit | apply aq_then_exit) | (refine aw_cond_df rfl rr_ dd_ ?_))
    exact aq_retm1 x_ rfl () trivial rfl (.cons _ _ _ _ (.app _ R)) (.refl _) (.tmp _ _ rfl) rfl
theorem markCodeS_own (hst : Stable G) (s b : Nat) (l : List TCode) (ps : List (Nat × Nat)) (hps : ps.length = l.length) (k : Int) (hn : l.length ≤ 1048576 ∧ ∀ y ∈ l, TCode.small 1048576 y) (hk : 0 ≤ k ∧ k ≤ 100000000000000) :
    CtM Tryz.prog G 49 [.ms s b 0 l.length, .int .i64 k] ((s, b, .row 4 (nR codMk l ps)) :: nO codOb l ps) (fun _ : Unit => True) (fun _ => (s, b, .row 4 (nR codMk (mkL mkCode nxCode k l) ps)) :: nO codOb (mkL mkCode nxCode k l) ps) (fun _ => .int .i64 (kL nxCode k l)) := by
  refine ctm_enter Tryz.func49 rfl Tryz.ntmps49 rfl rfl rfl fun w0 R gs objsR hG hR => ?_
  obtain rfl := hR.eq
  clear hR
  obtain ⟨hn, hsm⟩ := hn
  repeat' (first | ((with_reducible apply o_y); exact y_; rfl) | with_reducible refine al_none rfl ?_ | (with_reducible first | apply aw_seq | apply aw_region | apply al_nil | apply aq_then | apply aw_block))
  apply aw_loopk (X := Nat) [0, 1000000] (fun x => [(5, .int .i64 (x : Int)), (1, .int .i64 (kL nxCode k (l.take x)))]) (fun x => (s, b, .row 4 (nR codMk (ptL mkCode nxCode k l x) ps)) :: (nO codOb (ptL mkCode nxCode k l x) ps ++ R)) (fun x => x ≤ l.length) (fun x => l.length - x) 0 (Nat.zero_le _)
  exact kp_; (repeat (first | exact Weak.envNil | refine Weak.envCons we_ ?_))
  · exact .refl _
  intro i hi
  try dsimp only
  have hq := kL_take (k := k) (i := i) hn (nxCode_in hsm) hi
  by_cases hlt : i < l.length
  · obtain ⟨p, hp⟩ : ∃ p, ps[i]? = some p := ⟨_, List.getElem?_eq_getElem (by omega)⟩
    have hpl : i < (ptL mkCode nxCode k l i).length := by rw [ptL_len hi]; exact hlt
    have hrow := nR_get codMk (ptL_get (mk := mkCode) (nx := nxCode) (k := k) hlt) hp
    have hset := nR_put codMk (l := ptL mkCode nxCode k l i) (x := mkCode (kL nxCode k (l.take i)) l[i]) hp
    have hout := nO_out codOb (ptL_get (mk := mkCode) (nx := nxCode) (k := k) hlt) hp
    have hin := nO_in codOb (x := mkCode (kL nxCode k (l.take i)) l[i]) hpl hp
    rw [ptL_set hlt] at hset hin
    have hks := kL_snoc (nx := nxCode) (k := k) hlt
    have hrl : (nR codMk (ptL mkCode nxCode k l i) ps).length = l.length := by rw [nR_len _ (by rw [ptL_len hi]; exact hps), ptL_len hi]
    have hb := hsm _ (List.getElem_mem hlt)
    generalize (nO codOb (ptL mkCode nxCode k l i) ps).eraseIdx i = E at hout hin
    generalize nO codOb (ptL mkCode nxCode k l i) ps = N0 at hout ⊢
    generalize nR codMk (ptL mkCode nxCode k l i) ps = rows at hrow hset hrl ⊢
    generalize kL nxCode k (l.take i) = q at hq hset hks hin ⊢
    generalize l[i] = x at hrow hset hks hout hin hb
    replace hrow : rows[i]? = some [.bool x.block, .int .i64 x.params, .int .i64 x.slots, .ms p.1 p.2 0 x.instrs.length] := hrow
    have hr1 : (rows.set i [.bool (decide ((q).tmod 3 = 0)), .int .i64 x.params, .int .i64 x.slots, .ms p.1 p.2 0 x.instrs.length])[i]? = some [.bool (decide ((q).tmod 3 = 0)), .int .i64 x.params, .int .i64 x.slots, .ms p.1 p.2 0 x.instrs.length] := by rw [List.getElem?_set_self (by omega)]
    have hct := markInstrS_own hst p.1 p.2 x.instrs (q + 1 + 1 + 1) hb.1 (by omega)
    repeat' (first | ((with_reducible apply o_y); exact y_; rfl) | refine e_store ?_ | with_reducible refine al_none rfl ?_ | (with_reducible first | apply aw_seq | apply aw_region | apply al_nil | apply aq_then | apply aw_block | apply aw_skip) | (refine aw_cond_dt rfl rr_ dd_ ?_))
    refine ao_pick (pick_out hout R) ?_
    repeat' (first | ((with_reducible apply o_y); exact y_; rfl) | ((with_reducible apply o_callM); rfl; kernel_rfl; (repeat (first | exact ArgsM.nil | ((with_reducible apply ArgsM.cons); rfl))); exact hG; exact hct; exact .cons _ _ _ _ (.nil _); intro y hy; refine al_app1 ?_) | with_reducible refine al_none rfl ?_ | (with_reducible first | apply aw_region | apply al_nil | apply aq_then | apply aq_block))
    refine aq_round (i + 1) (by omega) (by omega) (.of _ (Weak.envCons rfl (Weak.envCons (lk_int rfl (by rw [hks]; rfl)) Weak.envNil)) od_ ?_)
    rw [hset]
    simp only [List.set_set]
    have hcl : codMk (mkCode q x) p = [.bool (decide ((q).tmod 3 = 0)), .int .i64 (q + 1), .int .i64 (q + 1 + 1), .ms p.1 p.2 0 x.instrs.length] := by
      unfold codMk mkCode
      dsimp only
      rw [mkL_len]
    rw [hcl]
    exact pick_in hin R
  · obtain rfl : i = l.length := by omega
    rw [ptL_full, List.take_length]
    repeat' (first | ((with_reducible apply o_y); exact y_; rfl) | with_reducible refine al_none rfl ?_ | (with_reducible first | apply aw_seq | apply aw_region | apply al_nil | apply aq_then | apply aw_exit | apply aw_ret | apply aq_block_hit | apply aq_then_exit) | (refine aw_cond_df rfl rr_ dd_ ?_))
    exact aq_retm1 x_ rfl () trivial rfl (.cons _ _ _ _ (.app _ R)) (.refl _) (.tmp _ _ rfl) rfl
end
end Go.Proofs.YthpdkhejeookhaaGreatDoor
/- A code base that the call owns: its copy (toCodeBase), its marks (markCodeBase), and how it is looked at. -/
namespace Go.Proofs.YthpdkhejeookhaaGreatDoor
set_option maxRecDepth 20000
open Go Go.RowKit
def clsO (l : List TClassInfo) (y : (Nat × Nat) × List (Nat × Nat)) : Objs := (y.1.1, y.1.2, .row 3 (nR clsMk l y.2)) :: nO clsOb l y.2
def codO (l : List TCode) (y : (Nat × Nat) × List (Nat × Nat)) : Objs := (y.1.1, y.1.2, .row 4 (nR codMk l y.2)) :: nO codOb l y.2
def entO (l : List TEntry) (y : Nat × Nat) : Objs := [(y.1, y.2, .row 4 (l.map (TEntry.tw 0)))]
/-- The places of a code base. -/
def CbP : Type := ((Nat × Nat) × List (Nat × Nat)) × ((Nat × Nat) × List (Nat × Nat)) × (Nat × Nat)
def cbO (x : TCodeBase) (y : CbP) : Objs := clsO x.classes y.1 ++ (codO x.codes y.2.1 ++ entO x.entries y.2.2)
def cbC (x : TCodeBase) (y : CbP) : List TV := [.ms y.1.1.1 y.1.1.2 0 x.classes.length, .ms y.2.1.1.1 y.2.1.1.2 0 x.codes.length, .ms y.2.2.1 y.2.2.2 0 x.entries.length, .int .i64 x.main]
def cbI (x : TCodeBase) (y : CbP) : Prop := y.1.2.length = x.classes.length ∧ y.2.1.2.length = x.codes.length
theorem pick_box2 (A : Objs) (x z : Nat × Nat × TObj) (R : Objs) : Pick (x :: z :: (A ++ R)) (A ++ (x :: z :: R)) := .perm (by
  have h1 : (A ++ (x :: z :: R)).Perm (x :: (A ++ (z :: R))) := List.perm_middle
  have h2 : (A ++ (z :: R)).Perm (z :: (A ++ R)) := List.perm_middle
  exact (h1.trans (h2.cons x)).symm)
theorem perm_cb (A B C R : Objs) : ((A ++ (B ++ C)) ++ R).Perm (C ++ (B ++ (A ++ R))) := by
  have h1 : (A ++ (B ++ C)).Perm (C ++ (B ++ A)) := by
    have : (A ++ (B ++ C)).Perm ((B ++ C) ++ A) := List.perm_append_comm
    refine this.trans ?_
    have h2 : ((B ++ C) ++ A).Perm ((C ++ B) ++ A) := (List.perm_append_comm).append_right A
    rw [List.append_assoc] at h2
    rw [List.append_assoc] at h2 ⊢
    exact h2
  have h3 := h1.append_right R
  simpa [List.append_assoc] using h3
theorem pick_end (A B C R : Objs) : Pick (C ++ (A ++ (B ++ R))) (B ++ (A ++ (C ++ R))) := .perm (by
  have h1 : (C ++ (A ++ B)).Perm (B ++ (A ++ C)) := by
    have h := (perm_cb C A B [])
    simpa using h
  simpa [List.append_assoc] using h1.append_right R)
theorem pick_three (A B C R : Objs) : Pick (A ++ (B ++ (C ++ R))) (C ++ (A ++ (B ++ R))) := .perm (by
  have h1 : (A ++ (B ++ C)).Perm (C ++ (A ++ B)) := by
    rw [← List.append_assoc]
    exact List.perm_append_comm
  simpa [List.append_assoc] using h1.append_right R)
section
variable {G : World → Prop}
theorem toCodeBase_own (hst : Stable G) (lo : Nat) (x : TCodeBase) (hb : x.small 1048576) : CtM Tryz.prog G 10 [.agg (x.tw lo)] [] (cbI x) (cbO x) (fun y => .agg (cbC x y)) := by
  refine ctm_enter Tryz.func10 rfl Tryz.ntmps10 rfl rfl rfl fun w0 R gs objsR hG hR => ?_
  obtain rfl := hR.inv0
  clear hR
  have c1 := toClassInfoS_own hst lo x.classes hb.1
  have c2 := toCodeS_own hst lo x.codes hb.2.1
  have c3 := toEntryS_own hst lo x.entries hb.2.2
  unfold TCodeBase.tw
  repeat' (first | ((with_reducible apply o_y); exact y_; rfl) | refine e_box ?_ | (refine e_alloc ?_; intro ss bb) | refine e_storep ?_ | ((with_reducible apply o_callM); rfl; kernel_rfl; (repeat (first | exact ArgsM.nil | ((with_reducible apply ArgsM.cons); rfl))); exact hG; (first | exact c1 | exact c2 | exact c3); exact .nil _; intro y hy; refine al_pick (pick_box2 _ _ _ _) ?_) | with_reducible refine al_none rfl ?_ | (with_reducible first | apply aw_seq | apply aw_region | apply al_nil | apply aq_then | apply aw_ret))
  rename_i yc hyc yd hyd
  refine aq_retm1 (t1 := .agg [.ms yc.1.1 yc.1.2 0 x.classes.length, .ms yd.1.1 yd.1.2 0 x.codes.length, .ms y.1 y.2 0 x.entries.length, .int .i64 x.main]) x_ rfl (yc, yd, y) ⟨hyc, hyd⟩ rfl (.app _ R) (.drop (.drop (.perm (perm_cb _ _ _ R)))) (.cell _ _ _ _ _ rfl mm_ (by kernel_rfl) (by kernel_rfl) (by kernel_rfl)) rfl
def mkCodeBase (k : Int) (x : TCodeBase) : TCodeBase := ⟨mkL mkClassInfo nxClassInfo k x.classes, mkL mkCode nxCode (kL nxClassInfo k x.classes) x.codes, mkL mkEntry nxEntry (kL nxCode (kL nxClassInfo k x.classes) x.codes) x.entries, x.main⟩
def nxCodeBase (k : Int) (x : TCodeBase) : Int := kL nxEntry (kL nxCode (kL nxClassInfo k x.classes) x.codes) x.entries
theorem nxCodeBase_in {x : TCodeBase} (hb : x.small 1048576) (k : Int) : k ≤ nxCodeBase k x ∧ nxCodeBase k x ≤ k + 6000000000000 := by
  have h1 := kL_take (k := k) (i := x.classes.length) hb.1.1 (nxClassInfo_in hb.1.2) (Nat.le_refl _)
  have h2 := kL_take (k := kL nxClassInfo k x.classes) (i := x.codes.length) hb.2.1.1 (nxCode_in hb.2.1.2) (Nat.le_refl _)
  have h3 := kL_take (k := kL nxCode (kL nxClassInfo k x.classes) x.codes) (i := x.entries.length) hb.2.2.1 (nxEntry_in x.entries) (Nat.le_refl _)
  rw [List.take_length] at h1 h2 h3
  unfold nxCodeBase
  omega
theorem markCodeBase_own (hst : Stable G) (x : TCodeBase) (y : CbP) (hy : cbI x y) (hb : x.small 1048576) (k : Int) (hk : 0 ≤ k ∧ k ≤ 50000000000000) :
    CtM Tryz.prog G 13 [.agg (cbC x y), .int .i64 k] (cbO x y) (fun _ : Unit => True) (fun _ => cbO (mkCodeBase k x) y) (fun _ => .int .i64 (nxCodeBase k x)) := by
  refine ctm_enter Tryz.func13 rfl Tryz.ntmps13 rfl rfl rfl fun w0 R gs objsR hG hR => ?_
  obtain rfl := hR.eq
  clear hR
  have h1 := kL_take (k := k) (i := x.classes.length) hb.1.1 (nxClassInfo_in hb.1.2) (Nat.le_refl _)
  have h2 := kL_take (k := kL nxClassInfo k x.classes) (i := x.codes.length) hb.2.1.1 (nxCode_in hb.2.1.2) (Nat.le_refl _)
  rw [List.take_length] at h1 h2
  have c1 := markClassInfoS_own hst y.1.1.1 y.1.1.2 x.classes y.1.2 hy.1 k hb.1 (by omega)
  have c2 := markCodeS_own hst y.2.1.1.1 y.2.1.1.2 x.codes y.2.1.2 hy.2 (kL nxClassInfo k x.classes) hb.2.1 (by omega)
  have c3 := markEntryS_own hst y.2.2.1 y.2.2.2 x.entries (kL nxCode (kL nxClassInfo k x.classes) x.codes) hb.2.2.1 (by omega)
  have e0 : cbO x y ++ R = clsO x.classes y.1 ++ (codO x.codes y.2.1 ++ (entO x.entries y.2.2 ++ R)) := by unfold cbO; simp [List.append_assoc]
  have e1 : cbO (mkCodeBase k x) y ++ R = clsO (mkCodeBase k x).classes y.1 ++ (codO (mkCodeBase k x).codes y.2.1 ++ (entO (mkCodeBase k x).entries y.2.2 ++ R)) := by unfold cbO; simp [List.append_assoc]
  rw [e0]
  unfold cbC
  repeat' (first | ((with_reducible apply o_y); exact y_; rfl) | refine e_box ?_ | ((with_reducible apply o_callM); rfl; kernel_rfl; (repeat (first | exact ArgsM.nil | ((with_reducible apply ArgsM.cons); rfl))); exact hG; exact c1; exact .app _ _; intro z hz; refine al_pick (pick_rot _ _ _) ?_) | ((with_reducible apply o_callM); rfl; kernel_rfl; (repeat (first | exact ArgsM.nil | ((with_reducible apply ArgsM.cons); rfl))); exact hG; exact c2; exact .app _ _; intro z hz; refine al_pick (pick_end _ _ _ _) ?_) | ((with_reducible apply o_callM); rfl; kernel_rfl; (repeat (first | exact ArgsM.nil | ((with_reducible apply ArgsM.cons); rfl))); exact hG; exact c3; exact .app _ _; intro z hz) | with_reducible refine al_none rfl ?_ | (with_reducible first | apply aw_seq | apply aw_region | apply al_nil | apply aq_then | apply aw_ret))
  refine aq_retm1 x_ rfl () trivial rfl (.app _ R) ?_ (.tmp _ _ rfl) rfl
  rw [e1]
  exact pick_three _ _ _ R
end
end Go.Proofs.YthpdkhejeookhaaGreatDoor
/- For looking at a walk while it is made; no hand-in imports it. -/
open Lean Elab Tactic Meta
elab "peek" : tactic => withMainContext do
  let mut i := 0
  for g in (← getGoals) do
    i := i + 1
    if i > 12 then break
    g.withContext do
      let t ← instantiateMVars (← g.getType)
      let t := if t.isAppOfArity ``Go.Proofs.YthpdkhejeookhaaGreatDoor.Held 1 then t.appArg! else t
      let t ← instantiateMVars t
      let a := t.getAppArgs
      let nm := match t.getAppFn with | .const n _ => n.getString! | _ => "?"
      let s := a.size
      let cut := fun (k : Nat) (x : Format) => let y := (x.pretty 400); ((" ".intercalate ((y.splitToList (fun c => c == ' ' || c == '\n')).filter (· ≠ ""))).take k).toString
      let pp := fun (k : Nat) (e : Expr) => do
        let f ← withOptions (fun o => ((o.set `pp.deepTerms true).set `pp.maxSteps (200000 : Nat)).set `pp.fieldNotation false) (ppExpr e)
        return cut k f
      let mut hs := ""
      let mut hl : List String := []
      for d in (← getLCtx) do
        if d.isImplementationDetail then continue
        let ty ← instantiateMVars d.type
        if (← isProp ty) then
          hl := (toString d.userName ++ " : " ++ (← pp 160 ty)) :: hl
      for x in (hl.take 14).reverse do hs := hs ++ "\n    " ++ x
      if ["AW", "AL", "AO", "AQ", "DR", "DO"].contains nm && s ≥ 6 then
        let head := if nm == "DO" then a[6]! else if nm == "AO" then a[5]! else if nm == "AL" then a[5]! else if nm == "AW" then a[3]! else if nm == "AQ" then a[3]! else a[s-2]!
        let env := if nm == "DR" || nm == "DO" then a[s-1]! else a[s-2]!
        let objs := if nm == "DR" || nm == "DO" then a[4]! else a[s-1]!
        logInfo s!"GOAL {i} {nm}: {hs}\n  AT {← pp 330 head}\n  ENV {← pp 1300 env}\n  OBJS {← pp 1000 objs}"
      else
        logInfo s!"GOAL {i}: {hs}\n  ⊢ {← pp 1500 t}"
/- Copies of a code base that the caller owns: the program's copyClasses. -/
namespace Go.Proofs.YthpdkhejeookhaaGreatDoor
set_option maxRecDepth 20000
open Go Go.RowKit
theorem nR_snoc {α : Type} (mk : α → Nat × Nat → List TV) {l : List α} {ps : List (Nat × Nat)} {i : Nat} (h : i < l.length) (hp : ps.length = i) (p : Nat × Nat) : nR mk (l.take i) ps ++ [mk l[i] p] = nR mk (l.take (i + 1)) (ps ++ [p]) := by
  unfold nR
  rw [takeSnoc h, List.zipWith_append (by rw [List.length_take]; omega)]; rfl
section
variable {G : World → Prop}
theorem copyClasses_own (hst : Stable G) (lo : Nat) (l : List TClassInfo) (hb : l.length ≤ 1048576 ∧ ∀ y ∈ l, TClassInfo.small 1048576 y) : CtM Tryz.prog G 121 [.sl lo 3 (l.map (TClassInfo.tw lo))] [] (fun y : (Nat × Nat) × List (Nat × Nat) => y.2.length = l.length) (fun y => (y.1.1, y.1.2, .row 3 (nR clsMk l y.2)) :: nO clsOb l y.2) (fun y => .ms y.1.1 y.1.2 0 l.length) := by
  refine ctm_enter Tryz.func121 rfl Tryz.ntmps121 rfl rfl rfl fun w0 R gs objsR hG hR => ?_
  obtain rfl := hR.inv0
  clear hR
  have hlen := TClassInfo.len lo l
  have hl1 := hb.1
  repeat' (first | ((with_reducible apply o_y); exact y_; rfl) | (refine e_own ?_; intro ss bb) | with_reducible refine al_none rfl ?_ | (with_reducible first | apply aw_seq | apply aw_region | apply al_nil | apply aq_then | apply aw_block))
  generalize ss = so; generalize bb = bo
  apply aw_loopk (X := Nat × Nat × List (Nat × Nat)) [7, 8, 1000000] (fun x => [(9, .int .i64 (x.1 : Int)), (3, .ms so x.2.1 0 x.1)]) (fun x => (so, x.2.1, .row 3 (nR clsMk (l.take x.1) x.2.2)) :: (nO clsOb (l.take x.1) x.2.2 ++ R)) (fun x => x.1 ≤ l.length ∧ x.2.2.length = x.1) (fun x => l.length - x.1) (0, bo, []) ⟨Nat.zero_le _, rfl⟩
  exact kp_; (repeat (first | exact Weak.envNil | refine Weak.envCons we_ ?_))
  · exact .refl _
  rintro ⟨i, bo, ps⟩ ⟨hi, hps⟩
  dsimp only at hi hps ⊢
  by_cases hlt : i < l.length
  · have hrs := fun p => nR_snoc clsMk hlt hps p
    have hos := fun p => nO_snoc clsOb hlt hps p
    have hra : (l.map (TClassInfo.tw lo))[i]? = some (l[i].tw lo) := row_map hlt
    have hrl : (nR clsMk (l.take i) ps).length = i := by rw [nR_len _ (by rw [List.length_take]; omega), List.length_take]; omega
    have hbi := hb.2 _ (List.getElem_mem hlt)
    generalize l[i] = x at hrs hos hra hbi
    rw [show x.tw lo = [.str x.name, .int .i64 x.parent, .sl lo 1 (strR x.fields)] from rfl] at hra
    have hsl := strR_len x.fields
    have hf := hbi.2.1
    generalize nO clsOb (l.take i) ps = T at hos ⊢
    repeat' (first | ((with_reducible apply o_y); exact y_; rfl) | (refine e_alloc ?_; intro ss bb) | refine e_storep ?_ | ((with_reducible apply o_own (n := 0)); rfl; rfl; kernel_rfl; kernel_rfl; rfl; kernel_rfl; rfl; rfl; rfl; rfl; intro ss bb) | refine e_lit ?_ | ((with_reducible apply o_append0); rfl; rfl; rfl; kernel_rfl; (repeat (with_reducible exact mh)); (with_reducible assumption); omega; (intro bq; (repeat (with_reducible exact Upd.head _))); intro bb) | ((with_reducible apply o_append); rfl; rfl; rfl; kernel_rfl; (repeat (first | with_reducible exact mh | with_reducible refine mt ?_)); exact hrl; ((show List.length _ = 1; rfl)); omega; exact hrs (_, _); (intro bq; (repeat (first | with_reducible exact Upd.head _ | with_reducible apply Upd.tail))); intro bb) | with_reducible refine al_none rfl ?_ | (with_reducible first | apply aw_seq | apply aw_region | apply al_nil | apply aq_then | apply aw_block | apply aw_skip | apply aq_block) | (refine aw_cond_dt rfl rr_ dd_ ?_))

    rename_i s5 b5 _ bx
    generalize ss = sx
    refine aq_pick (objs' := (sx, bx, .row 1 (strR x.fields)) :: (so, bb, .row 3 (nR clsMk (l.take (i + 1)) (ps ++ [(sx, bx)]))) :: (T ++ R)) pk_ ?_
    refine aq_round (i + 1, bb, ps ++ [(sx, bx)]) ⟨by dsimp only; omega, by dsimp only; simp [hps]⟩ (by dsimp only; omega) (.of _ nw_ od_ ?_)
    dsimp only
    rw [hos (sx, bx)]
    exact pick_snoc _ _ T R
  · obtain rfl : i = l.length := by omega
    rw [List.take_of_length_le (Nat.le_refl _)]
    repeat' (first | ((with_reducible apply o_y); exact y_; rfl) | with_reducible refine al_none rfl ?_ | (with_reducible first | apply aw_seq | apply aw_region | apply al_nil | apply aq_then | apply aw_exit | apply aw_ret | apply aq_block_hit | apply aq_then_exit) | (refine aw_cond_df rfl rr_ dd_ ?_))
    exact aq_retm1 x_ rfl ((so, bo), ps) hps rfl (.cons _ _ _ _ (.app _ R)) (.refl _) (.tmp _ _ rfl) rfl
end
end Go.Proofs.YthpdkhejeookhaaGreatDoor
/- Copies of a code base that the caller owns: the program's copyBase. -/
namespace Go.Proofs.YthpdkhejeookhaaGreatDoor
set_option maxRecDepth 20000
open Go Go.RowKit
theorem zip_mem {α β γ : Type} {f : α → β → γ} {l : List α} {ps : List β} {z : γ} (h : z ∈ List.zipWith f l ps) : ∃ x p, f x p = z ∧ ∀ {δ : Type} (g : α → β → δ), g x p ∈ List.zipWith g l ps := by
  induction l generalizing ps with
  | nil => simp at h
  | cons a l ih =>
    cases ps with
    | nil => simp at h
    | cons q ps =>
      rw [List.zipWith_cons_cons, List.mem_cons] at h
      rcases h with rfl | h
      · exact ⟨a, q, rfl, fun g => by rw [List.zipWith_cons_cons]; exact List.mem_cons_self⟩
      · obtain ⟨x, p, h1, h2⟩ := ih h
        exact ⟨x, p, h1, fun g => by rw [List.zipWith_cons_cons]; exact List.mem_cons_of_mem _ (h2 g)⟩
theorem nest_new {α : Type} {mk : α → Nat × Nat → List TV} {ob : α → TObj} {m s b n : Nat} (hmk : ∀ x p objs, (p.1, p.2, ob x) ∈ objs → ∀ t ∈ mk x p, NewOk objs t) (hob : ∀ x objs, ObjNew objs (ob x)) (l : List α) (ps : List (Nat × Nat)) :
    (∀ s' b' o, (s', b', o) ∈ (s, b, TObj.row m (nR mk l ps)) :: nO ob l ps → ObjNew ((s, b, TObj.row m (nR mk l ps)) :: nO ob l ps) o) ∧ NewOk ((s, b, TObj.row m (nR mk l ps)) :: nO ob l ps) (.ms s b 0 n) := by
  refine ⟨fun s' b' o h => ?_, .ms _ _ _ _ _ _ List.mem_cons_self⟩
  rcases List.mem_cons.1 h with h | h
  · simp only [Prod.mk.injEq] at h
    obtain ⟨_, _, rfl⟩ := h
    intro t ht
    obtain ⟨r, hr, htr⟩ := List.mem_flatten.1 ht
    obtain ⟨x, p, rfl, hg⟩ := zip_mem hr
    exact hmk x p _ (List.mem_cons_of_mem _ (hg fun x p => (p.1, p.2, ob x))) t htr
  · obtain ⟨x, p, he, _⟩ := zip_mem h
    simp only [Prod.mk.injEq] at he
    obtain ⟨_, _, rfl⟩ := he
    exact hob x _
theorem clsMk_new (x : TClassInfo) (p : Nat × Nat) (objs : Objs) (h : (p.1, p.2, clsOb x) ∈ objs) : ∀ t ∈ clsMk x p, NewOk objs t := fun t ht => by
  simp only [clsMk, List.mem_cons, List.not_mem_nil, or_false] at ht
  rcases ht with rfl | rfl | rfl
  · exact .flat _ rfl
  · exact .flat _ rfl
  · exact .ms _ _ _ _ _ _ h
theorem clsOb_new (x : TClassInfo) (objs : Objs) : ObjNew objs (clsOb x) := flat_new (strR_flat _)
theorem pick_snoc2 (a b z : Nat × Nat × TObj) (T R : Objs) : Pick (a :: b :: ((T ++ [z]) ++ R)) (z :: a :: b :: (T ++ R)) := .perm (by
  have h : ((T ++ [z]) ++ R).Perm (z :: (T ++ R)) := by
    rw [List.append_assoc]
    exact List.perm_middle
  exact ((h.cons b).cons a).trans (((List.Perm.swap z b _).cons a).trans (List.Perm.swap z a _)))
theorem pick_cp (a e z2 z3 : Nat × Nat × TObj) (C A R : Objs) : Pick (z2 :: z3 :: a :: (A ++ (e :: (C ++ R)))) (z3 :: a :: (A ++ (e :: (C ++ (z2 :: R))))) := .perm (by
  have h : ((z3 :: a :: A) ++ (e :: C) ++ z2 :: R).Perm (z2 :: ((z3 :: a :: A) ++ (e :: C) ++ R)) := List.perm_middle
  simpa using h.symm)
theorem perm_cp (a e : Nat × Nat × TObj) (C A R : Objs) : ((C ++ ((a :: A) ++ [e])) ++ R).Perm (a :: (A ++ (e :: (C ++ R)))) := by
  rw [List.append_assoc, List.append_assoc]
  refine (List.perm_append_comm_assoc C (a :: A) ([e] ++ R)).trans ?_
  exact List.Perm.append_left (a :: A) (List.perm_append_comm_assoc C [e] R)
section
variable {G : World → Prop}
set_option maxHeartbeats 1000000 in
theorem implCopyBase_own (hst : Stable G) (lo : Nat) (x : TCodeBase) (hb : x.small 1048576) : CtM Tryz.prog G 40 [.agg (x.tw lo)] [] (cbI x) (cbO x) (fun y => .agg (cbC x y)) := by
  refine ctm_enter Tryz.func40 rfl Tryz.ntmps40 rfl rfl rfl fun w0 R gs objsR hG hR => ?_
  obtain rfl := hR.inv0
  clear hR
  have c1 := copyClasses_own hst lo x.classes hb.1
  have n1 := fun (y : (Nat × Nat) × List (Nat × Nat)) (_ : y.2.length = x.classes.length) => nest_new (m := 3) (s := y.1.1) (b := y.1.2) (n := x.classes.length) clsMk_new clsOb_new x.classes y.2
  have hel := TEntry.len lo x.entries
  have he1 := hb.2.2.1
  unfold TCodeBase.tw
  repeat' (first | refine e_box ?_ | (refine e_alloc ?_; intro ss bb) | ((with_reducible apply aw_drawM (id := 1) 11); kernel_rfl; kernel_rfl; kernel_rfl; rfl; (repeat (first | exact Cut.zero _ | apply Cut.succ))) | ((with_reducible apply m_q); exact ym_; rfl; exact ind_) | ((with_reducible apply m_build); rfl; (intro p; try dsimp only); (repeat (first | exact TB.nil _ | ((with_reducible apply TB.cons); rfl; rfl; (first | exact .put _ _ _ _ _ (.nil _) | exact .skip _ _ _ _ _ (.skip _ _ _ _ _ (.put _ _ _ _ _ (.nil _))) | (repeat (first | exact .nil _ | apply Splice.put | apply Splice.skip))); kernel_rfl))); rfl; kernel_rfl; kernel_rfl; exact ind_) | ((with_reducible apply m_alloc); rfl; rfl; kernel_rfl) | ((with_reducible apply m_own); (intro p; rfl); rfl; kernel_rfl; kernel_rfl; rfl; kernel_rfl; rfl; rfl; rfl; rfl) | ((with_reducible apply m_app0); (intro p; rfl); (intro p; rfl); rfl; kernel_rfl; (intro p; rfl); (with_reducible assumption); omega; exact ⟨by decide, ah_⟩; rfl; (focus (simp; done))) | ((with_reducible apply m_call hG hst c1); rfl; kernel_rfl; (intro p; (repeat (first | exact Args.nil | ((with_reducible apply Args.cons); rfl; exact .same _)))); exact n1) | (with_reducible refine DM.nil _ _ _ ?_) | with_reducible refine al_none rfl ?_ | (with_reducible first | apply aw_seq | apply aw_region | apply al_nil | apply aq_then))
  generalize ss = s2; generalize bb = b2
  intro p hp
  simp only [List.forall_mem_cons] at hp
  obtain ⟨_, _, _, hI, _⟩ := hp
  refine al_obj (objs' := ((p 10).a, (p 10).b, .box [.nils, .nils, .nils, .int .i64 0]) :: ((p 3).a, (p 6).b, .row 4 (x.entries.map (TEntry.tw lo))) :: (clsO x.classes (Enc.dec (p 2)) ++ ((s2, b2, .box [.nils, .nils, .nils, .int .i64 0]) :: R))) (by rw [show liveL _ = [_, _, _] from rfl]; simp only [List.flatMap_cons, List.flatMap_nil, List.append_nil, List.append_assoc, List.cons_append, List.nil_append]; rfl) ?_
  dsimp only [Nat.reduceAdd] at hI ⊢
  generalize (Enc.dec (p 2) : (Nat × Nat) × List (Nat × Nat)) = yc at hI ⊢
  generalize Yu.a (p 10) = s3
  generalize Yu.b (p 10) = b3
  generalize Yu.a (p 3) = se
  generalize Yu.b (p 6) = be
  have hcl := TCode.len lo x.codes
  have hc1 := hb.2.1.1
  have hsm := hb.2.1.2
  repeat' (first | ((with_reducible apply o_y); exact y_; rfl) | refine e_storep ?_ | with_reducible refine al_none rfl ?_ | (with_reducible first | apply aw_seq | apply aw_region | apply al_nil | apply aq_then | apply aw_block))
  refine aw_nilC 1 4 (by decide) rfl fun sc => ?_
  obtain ⟨RR, hRR⟩ : ∃ RR : Objs, RR = ((se, be, .row 4 (x.entries.map (TEntry.tw 0))) :: (clsO x.classes yc ++ ((s2, b2, TObj.box [.nils, .nils, .nils, .int .i64 0]) :: R))) := ⟨_, rfl⟩
  refine aw_pick (objs' := (s3, b3, .box [.ms yc.1.1 yc.1.2 0 x.classes.length, .ms sc 0 0 0, .ms se be 0 x.entries.length, .int .i64 x.main]) :: (sc, 0, .row 4 []) :: RR) (by rw [hRR]; exact .refl _) ?_
  apply aw_loopk (X := Nat × Nat × List (Nat × Nat)) [2, 3, 17, 18, 1000000] (fun y => [(19, .int .i64 (y.1 : Int))])
    (fun y => (s3, b3, .box [.ms yc.1.1 yc.1.2 0 x.classes.length, .ms sc y.2.1 0 y.1, .ms se be 0 x.entries.length, .int .i64 x.main]) :: (sc, y.2.1, .row 4 (nR codMk (x.codes.take y.1) y.2.2)) :: (nO codOb (x.codes.take y.1) y.2.2 ++ RR))
    (fun y => y.1 ≤ x.codes.length ∧ y.2.2.length = y.1) (fun y => x.codes.length - y.1) (0, 0, []) ⟨Nat.zero_le _, rfl⟩
  exact kp_; (repeat (first | exact Weak.envNil | refine Weak.envCons we_ ?_))
  · exact .refl _
  rintro ⟨i, bc, ps⟩ ⟨hi, hps⟩
  dsimp only at hi hps ⊢
  by_cases hlt : i < x.codes.length
  · have hrs := fun p => nR_snoc codMk hlt hps p
    have hos := fun p => nO_snoc codOb hlt hps p
    have hra : (x.codes.map (TCode.tw lo))[i]? = some (x.codes[i].tw lo) := row_map hlt
    have hrl : (nR codMk (x.codes.take i) ps).length = i := by rw [nR_len _ (by rw [List.length_take]; omega), List.length_take]; omega
    have hbi := hsm _ (List.getElem_mem hlt)
    generalize x.codes[i] = c at hrs hos hra hbi
    have hil : c.instrs.length ≤ 1048576 := hbi.1
    rw [show c.tw lo = [.bool c.block, .int .i64 c.params, .int .i64 c.slots, .sl lo 4 (c.instrs.map (TInstr.tw lo))] from rfl] at hra
    generalize nO codOb (x.codes.take i) ps = T at hos ⊢
    repeat' (first | ((with_reducible apply o_y); exact y_; rfl) | (refine e_alloc ?_; intro ss bb) | refine e_storep ?_ | ((with_reducible apply o_own (n := 0)); rfl; rfl; kernel_rfl; kernel_rfl; rfl; kernel_rfl; rfl; rfl; rfl; rfl; intro ss bb) | refine e_lit ?_ | ((with_reducible apply o_append0); rfl; rfl; rfl; kernel_rfl; (repeat (with_reducible exact mh)); (exact List.length_map _); omega; (intro bq; (repeat (with_reducible exact Upd.head _))); intro bb) | ((with_reducible apply o_append); rfl; rfl; rfl; kernel_rfl; (repeat (first | with_reducible exact mh | with_reducible refine mt ?_)); exact hrl; ((show List.length _ = 1; rfl)); omega; exact hrs (_, _); (intro bq; (repeat (first | with_reducible exact Upd.head _ | with_reducible apply Upd.tail))); intro bb) | with_reducible refine al_none rfl ?_ | (with_reducible first | apply aw_seq | apply aw_region | apply al_nil | apply aq_then | apply aw_block | apply aw_skip | apply aq_block) | (refine aw_cond_dt rfl rr_ dd_ ?_))
    rename_i s5 b5 _ bx
    generalize ss = sx
    refine aq_pick (objs' := (sx, bx, .row 4 (c.instrs.map (TInstr.tw 0))) :: (s3, b3, .box [.ms yc.1.1 yc.1.2 0 x.classes.length, .ms sc bb 0 (i + 1), .ms se be 0 x.entries.length, .int .i64 x.main]) :: (sc, bb, .row 4 (nR codMk (x.codes.take (i + 1)) (ps ++ [(sx, bx)]))) :: (T ++ RR)) pk_ ?_
    refine aq_round (i + 1, bb, ps ++ [(sx, bx)]) ⟨by dsimp only; omega, by dsimp only; simp [hps]⟩ (by dsimp only; omega) (.of _ nw_ od_ ?_)
    dsimp only
    rw [hos (sx, bx)]
    exact pick_snoc2 _ _ _ T RR
  · obtain rfl : i = x.codes.length := by omega
    rw [List.take_of_length_le (Nat.le_refl _), hRR]
    refine aw_pick (pick_cp _ _ _ _ _ _ _) ?_
    repeat' (first | ((with_reducible apply o_y); exact y_; rfl) | refine e_storep ?_ | with_reducible refine al_none rfl ?_ | (with_reducible first | apply aw_seq | apply aw_region | apply al_nil | apply aq_then | apply aw_exit | apply aw_ret | apply aq_block_hit | apply aq_then_exit) | (refine aw_cond_df rfl rr_ dd_ ?_))
    exact aq_retm1 (t1 := .agg [.ms yc.1.1 yc.1.2 0 x.classes.length, .ms sc bc 0 x.codes.length, .ms se be 0 x.entries.length, .int .i64 x.main]) x_ rfl (yc, ((sc, bc), ps), (se, be)) ⟨hI, hps⟩ rfl (.app _ R) (.drop (.drop (.perm (perm_cp _ _ _ _ R)))) (.cell _ _ _ _ _ rfl mm_ (by kernel_rfl) (by kernel_rfl) (by kernel_rfl)) rfl
end
end Go.Proofs.YthpdkhejeookhaaGreatDoor
/- Copies of a code base that the caller owns: the reference's l11ClassesCopy, l14Copy, l14Base. -/
namespace Go.Proofs.YthpdkhejeookhaaGreatDoor
set_option maxRecDepth 20000
open Go Go.RowKit
section
variable {G : World → Prop}
theorem l11ClassesCopy_own (hst : Stable G) (lo : Nat) (l : List TClassInfo) (hb : l.length ≤ 1048576 ∧ ∀ y ∈ l, TClassInfo.small 1048576 y) : CtM Tryz.prog G 112 [.sl lo 3 (l.map (TClassInfo.tw lo))] [] (fun y : (Nat × Nat) × List (Nat × Nat) => y.2.length = l.length) (fun y => (y.1.1, y.1.2, .row 3 (nR clsMk l y.2)) :: nO clsOb l y.2) (fun y => .ms y.1.1 y.1.2 0 l.length) := by
  refine ctm_enter Tryz.func112 rfl Tryz.ntmps112 rfl rfl rfl fun w0 R gs objsR hG hR => ?_
  obtain rfl := hR.inv0
  clear hR
  have hlen := TClassInfo.len lo l
  have hl1 := hb.1
  repeat' (first | ((with_reducible apply o_y); exact y_; rfl) | (refine e_own ?_; intro ss bb) | with_reducible refine al_none rfl ?_ | (with_reducible first | apply aw_seq | apply aw_region | apply al_nil | apply aq_then | apply aw_block))
  generalize ss = so; generalize bb = bo
  apply aw_loopk (X := Nat × Nat × List (Nat × Nat)) [0, 1000000] (fun x => [(4, .int .i64 (x.1 : Int)), (3, .ms so x.2.1 0 x.1)]) (fun x => (so, x.2.1, .row 3 (nR clsMk (l.take x.1) x.2.2)) :: (nO clsOb (l.take x.1) x.2.2 ++ R)) (fun x => x.1 ≤ l.length ∧ x.2.2.length = x.1) (fun x => l.length - x.1) (0, bo, []) ⟨Nat.zero_le _, rfl⟩
  exact kp_; (repeat (first | exact Weak.envNil | refine Weak.envCons we_ ?_))
  · exact .refl _
  rintro ⟨i, bo, ps⟩ ⟨hi, hps⟩
  dsimp only at hi hps ⊢
  by_cases hlt : i < l.length
  · have hrs := fun p => nR_snoc clsMk hlt hps p
    have hos := fun p => nO_snoc clsOb hlt hps p
    have hra : (l.map (TClassInfo.tw lo))[i]? = some (l[i].tw lo) := row_map hlt
    have hrl : (nR clsMk (l.take i) ps).length = i := by rw [nR_len _ (by rw [List.length_take]; omega), List.length_take]; omega
    have hbi := hb.2 _ (List.getElem_mem hlt)
    generalize l[i] = x at hrs hos hra hbi
    rw [show x.tw lo = [.str x.name, .int .i64 x.parent, .sl lo 1 (strR x.fields)] from rfl] at hra
    have hsl := strR_len x.fields
    have hf := hbi.2.1
    generalize nO clsOb (l.take i) ps = T at hos ⊢
    repeat' (first | ((with_reducible apply o_y); exact y_; rfl) | ((with_reducible apply aw_drawM (id := 5) 20); kernel_rfl; kernel_rfl; kernel_rfl; rfl; (repeat (first | exact Cut.zero _ | apply Cut.succ))) | ((with_reducible apply m_q); exact ym_; rfl; exact ind_) | ((with_reducible apply m_build); rfl; (intro p; try dsimp only); (repeat (first | exact TB.nil _ | ((with_reducible apply TB.cons); rfl; rfl; (first | exact .put _ _ _ _ _ (.nil _) | exact .skip _ _ _ _ _ (.put _ _ _ _ _ (.nil _)) | exact .skip _ _ _ _ _ (.skip _ _ _ _ _ (.put _ _ _ _ _ (.nil _)))); kernel_rfl))); rfl; kernel_rfl; kernel_rfl; exact ind_) | ((with_reducible apply m_app0); (intro p; rfl); (intro p; rfl); rfl; kernel_rfl; (intro p; rfl); (with_reducible assumption); omega; exact ⟨by decide, ah_⟩; rfl; (focus (simp; done))) | ((with_reducible apply m_own (n := 0)); (intro p; rfl); rfl; kernel_rfl; kernel_rfl; rfl; kernel_rfl; rfl; rfl; rfl; rfl) | ((with_reducible apply m_litq); (intro p; rfl); rfl; kernel_rfl; kernel_rfl; rfl; kernel_rfl; rfl; (intro p; rfl); rfl; (intro p; rfl); exact ind_) | (with_reducible refine DM.nil _ _ _ ?_) | with_reducible refine al_none rfl ?_ | (with_reducible first | apply aw_seq | apply aw_region | apply al_nil | apply aq_then | apply aw_block | apply aw_skip) | (refine aw_cond_dt rfl rr_ dd_ ?_))
    intro p hp
    refine al_obj (objs' := ((p 11).a, (p 17).b, .row 1 (strR x.fields)) :: (so, bo, .row 3 (nR clsMk (l.take i) ps)) :: (T ++ R)) (by rw [show liveL _ = [_] from rfl]; simp only [List.flatMap_cons, List.flatMap_nil, List.append_nil, List.append_assoc, List.cons_append, List.nil_append]; (try rfl)) ?_
    dsimp only [Nat.reduceAdd]
    generalize Yu.a (p 11) = sx
    generalize Yu.b (p 17) = bx
    repeat' (first | ((with_reducible apply o_y); exact y_; rfl) | ((with_reducible apply o_append); rfl; rfl; rfl; kernel_rfl; (repeat (first | with_reducible exact mh | with_reducible refine mt ?_)); exact hrl; ((show List.length _ = 1; rfl)); omega; exact hrs (_, _); (intro bq; (repeat (first | with_reducible exact Upd.head _ | with_reducible apply Upd.tail))); intro bb) | with_reducible refine al_none rfl ?_ | (with_reducible first | apply aw_region | apply al_nil | apply aq_then | apply aq_block))
    refine aq_round (i + 1, bb, ps ++ [(sx, bx)]) ⟨by dsimp only; omega, by dsimp only; simp [hps]⟩ (by dsimp only; omega) (.of _ nw_ od_ ?_)
    dsimp only
    rw [hos (sx, bx)]
    exact pick_snoc _ _ T R
  · obtain rfl : i = l.length := by omega
    rw [List.take_of_length_le (Nat.le_refl _)]
    repeat' (first | ((with_reducible apply o_y); exact y_; rfl) | with_reducible refine al_none rfl ?_ | (with_reducible first | apply aw_seq | apply aw_region | apply al_nil | apply aq_then | apply aw_exit | apply aw_ret | apply aq_block_hit | apply aq_then_exit) | (refine aw_cond_df rfl rr_ dd_ ?_))
    exact aq_retm1 x_ rfl ((so, bo), ps) hps rfl (.cons _ _ _ _ (.app _ R)) (.refl _) (.tmp _ _ rfl) rfl
theorem l14Copy_own (hst : Stable G) (lo : Nat) (x : TCode) (hb : x.small 1048576) : CtM Tryz.prog G 113 [.agg [.bool x.block, .int .i64 x.params, .int .i64 x.slots, .sl lo 4 (x.instrs.map (TInstr.tw lo))]] [] (fun _ : Nat × Nat => True) (fun y => [(y.1, y.2, codOb x)]) (fun y => .agg (codMk x y)) := by
  refine ctm_enter Tryz.func113 rfl Tryz.ntmps113 rfl rfl rfl fun w0 R gs objsR hG hR => ?_
  obtain rfl := hR.inv0
  clear hR
  have hil : x.instrs.length ≤ 1048576 := hb.1
  repeat' (first | refine e_box ?_ | (refine e_alloc ?_; intro ss bb) | ((with_reducible apply aw_drawM (id := 1) 11); kernel_rfl; kernel_rfl; kernel_rfl; rfl; (repeat (first | exact Cut.zero _ | apply Cut.succ))) | ((with_reducible apply m_q); exact ym_; rfl; exact ind_) | ((with_reducible apply m_build); rfl; (intro p; try dsimp only); (repeat (first | exact TB.nil _ | ((with_reducible apply TB.cons); rfl; rfl; (first | exact .put _ _ _ _ _ (.nil _) | exact .skip _ _ _ _ _ (.put _ _ _ _ _ (.nil _)) | exact .skip _ _ _ _ _ (.skip _ _ _ _ _ (.put _ _ _ _ _ (.nil _))) | (repeat (first | exact .nil _ | apply Splice.put | apply Splice.skip))); kernel_rfl))); rfl; kernel_rfl; kernel_rfl; exact ind_) | ((with_reducible apply m_own); (intro p; rfl); rfl; kernel_rfl; kernel_rfl; rfl; kernel_rfl; rfl; rfl; rfl; rfl) | ((with_reducible apply m_app0); (intro p; rfl); (intro p; rfl); rfl; kernel_rfl; (intro p; rfl); (exact List.length_map _); omega; exact ⟨by decide, ah_⟩; rfl; (focus (simp; done))) | (with_reducible refine DM.nil _ _ _ ?_) | with_reducible refine al_none rfl ?_ | (with_reducible first | apply aw_seq | apply aw_region | apply al_nil | apply aq_then))
  generalize ss = s2; generalize bb = b2
  intro p hp
  refine al_obj (objs' := ((p 6).a, (p 9).b, .row 4 (x.instrs.map (TInstr.tw 0))) :: (s2, b2, .box [.bool false, .int .i64 0, .int .i64 0, .nils]) :: R) (by rw [show liveL _ = [_] from rfl]; simp only [List.flatMap_cons, List.flatMap_nil, List.append_nil, List.append_assoc, List.cons_append, List.nil_append]; (try rfl)) ?_
  dsimp only [Nat.reduceAdd]
  generalize Yu.a (p 6) = sx
  generalize Yu.b (p 9) = bx
  repeat' (first | refine e_storep ?_ | with_reducible refine al_none rfl ?_ | (with_reducible first | apply al_nil | apply aq_then | apply aw_ret))
  exact aq_retm1 (t1 := .agg [.bool x.block, .int .i64 x.params, .int .i64 x.slots, .ms sx bx 0 x.instrs.length]) x_ rfl (sx, bx) trivial rfl (.cons _ _ _ _ (.nil R)) pk_ (.cell _ _ _ _ _ rfl mm_ (by kernel_rfl) (by kernel_rfl) (by kernel_rfl)) rfl
end
end Go.Proofs.YthpdkhejeookhaaGreatDoor
/- Copies of a code base that the caller owns: the reference's l14Base. -/
namespace Go.Proofs.YthpdkhejeookhaaGreatDoor
set_option maxRecDepth 20000
open Go Go.RowKit
theorem codMk_new (x : TCode) (y : Nat × Nat) : (∀ s b o, (s, b, o) ∈ [(y.1, y.2, codOb x)] → ObjNew [(y.1, y.2, codOb x)] o) ∧ NewOk [(y.1, y.2, codOb x)] (.agg (codMk x y)) := by
  refine ⟨fun s b o h => ?_, .agg _ fun t ht => ?_⟩
  · simp only [List.mem_singleton, Prod.mk.injEq] at h
    obtain ⟨_, _, rfl⟩ := h
    refine flat_new fun t ht => ?_
    obtain ⟨r, hr, htr⟩ := List.mem_flatten.1 ht
    obtain ⟨i, _, rfl⟩ := List.mem_map.1 hr
    simp only [TInstr.tw, List.mem_cons, List.not_mem_nil, or_false] at htr
    rcases htr with rfl | rfl | rfl | rfl <;> rfl
  · simp only [codMk, List.mem_cons, List.not_mem_nil, or_false] at ht
    rcases ht with rfl | rfl | rfl | rfl
    · exact .flat _ rfl
    · exact .flat _ rfl
    · exact .flat _ rfl
    · exact .ms _ _ _ _ _ _ List.mem_cons_self
theorem pick_snoc3 (a b z : Nat × Nat × TObj) (T R : Objs) : Pick (a :: b :: ((T ++ [z]) ++ R)) (a :: z :: b :: (T ++ R)) := .perm (by
  have h : ((T ++ [z]) ++ R).Perm (z :: (T ++ R)) := by
    rw [List.append_assoc]
    exact List.perm_middle
  exact (((h.cons b).trans (List.Perm.swap z b _)).cons a))
theorem pick_cpd (a e z2 z3 : Nat × Nat × TObj) (C A R : Objs) : Pick (z2 :: z3 :: a :: (A ++ (e :: (C ++ R)))) (a :: z3 :: (A ++ (e :: (C ++ (z2 :: R))))) := .perm (by
  have h : ((z3 :: a :: A) ++ (e :: C) ++ z2 :: R).Perm (z2 :: ((z3 :: a :: A) ++ (e :: C) ++ R)) := List.perm_middle
  exact .trans (by simpa using h.symm) (List.Perm.swap a z3 _))
section
variable {G : World → Prop}
set_option maxHeartbeats 1000000 in
theorem l14Base_own (hst : Stable G) (f lo : Nat) (x : TCodeBase) (hb : x.small 1048576) : CtM Tryz.prog G 34 [.cp f (x.tw lo)] [] (cbI x) (cbO x) (fun y => .agg (cbC x y)) := by
  refine ctm_enter Tryz.func34 rfl Tryz.ntmps34 rfl rfl rfl fun w0 R gs objsR hG hR => ?_
  obtain rfl := hR.inv0
  clear hR
  have c1 := l11ClassesCopy_own hst lo x.classes hb.1
  have n1 := fun (y : (Nat × Nat) × List (Nat × Nat)) (_ : y.2.length = x.classes.length) => nest_new (m := 3) (s := y.1.1) (b := y.1.2) (n := x.classes.length) clsMk_new clsOb_new x.classes y.2
  have hel := TEntry.len lo x.entries
  have he1 := hb.2.2.1
  unfold TCodeBase.tw
  repeat' (first | (refine e_alloc ?_; intro ss bb) | ((with_reducible apply aw_drawM (id := 1) 17); kernel_rfl; kernel_rfl; kernel_rfl; rfl; (repeat (first | exact Cut.zero _ | apply Cut.succ))) | ((with_reducible apply m_q); exact ym_; rfl; exact ind_) | ((with_reducible apply m_build); rfl; (intro p; try dsimp only); (repeat (first | exact TB.nil _ | ((with_reducible apply TB.cons); rfl; rfl; (first | exact .put _ _ _ _ _ (.nil _) | exact .skip _ _ _ _ _ (.skip _ _ _ _ _ (.put _ _ _ _ _ (.nil _))) | (repeat (first | exact .nil _ | apply Splice.put | apply Splice.skip))); kernel_rfl))); rfl; kernel_rfl; kernel_rfl; exact ind_) | ((with_reducible apply m_alloc); rfl; rfl; kernel_rfl) | ((with_reducible apply m_own); (intro p; rfl); rfl; kernel_rfl; kernel_rfl; rfl; kernel_rfl; rfl; rfl; rfl; rfl) | ((with_reducible apply m_app0); (intro p; rfl); (intro p; rfl); rfl; kernel_rfl; (intro p; rfl); (with_reducible assumption); omega; exact ⟨by decide, ah_⟩; rfl; (focus (simp; done))) | ((with_reducible apply m_call hG hst c1); rfl; kernel_rfl; (intro p; (repeat (first | exact Args.nil | ((with_reducible apply Args.cons); rfl; exact .same _)))); exact n1) | (with_reducible refine DM.nil _ _ _ ?_) | with_reducible refine al_none rfl ?_ | (with_reducible first | apply aw_seq | apply aw_region | apply al_nil | apply aq_then))
  generalize ss = s2; generalize bb = b2
  intro p hp
  simp only [List.forall_mem_cons] at hp
  obtain ⟨_, _, _, hI, _⟩ := hp
  refine al_obj (objs' := ((p 16).a, (p 16).b, .box [.nils, .nils, .nils, .int .i64 0]) :: ((p 5).a, (p 10).b, .row 4 (x.entries.map (TEntry.tw lo))) :: (clsO x.classes (Enc.dec (p 4)) ++ ((s2, b2, .box [.nils, .nils, .nils, .int .i64 0]) :: R))) (by rw [show liveL _ = [_, _, _] from rfl]; simp only [List.flatMap_cons, List.flatMap_nil, List.append_nil, List.append_assoc, List.cons_append, List.nil_append]; (try rfl)) ?_
  dsimp only [Nat.reduceAdd] at hI ⊢
  generalize (Enc.dec (p 4) : (Nat × Nat) × List (Nat × Nat)) = yc at hI ⊢
  generalize Yu.a (p 16) = s3
  generalize Yu.b (p 16) = b3
  generalize Yu.a (p 5) = se
  generalize Yu.b (p 10) = be
  have hcl := TCode.len lo x.codes
  have hc1 := hb.2.1.1
  have hsm := hb.2.1.2
  repeat' (first | ((with_reducible apply o_y); exact y_; rfl) | refine e_storep ?_ | with_reducible refine al_none rfl ?_ | (with_reducible first | apply aw_seq | apply aw_region | apply al_nil | apply aq_then | apply aw_block))
  refine aw_nilC 1 4 (by decide) rfl fun sc => ?_
  obtain ⟨RR, hRR⟩ : ∃ RR : Objs, RR = ((se, be, .row 4 (x.entries.map (TEntry.tw 0))) :: (clsO x.classes yc ++ ((s2, b2, TObj.box [.nils, .nils, .nils, .int .i64 0]) :: R))) := ⟨_, rfl⟩
  refine aw_pick (objs' := (sc, 0, .row 4 []) :: (s3, b3, .box [.ms yc.1.1 yc.1.2 0 x.classes.length, .ms sc 0 0 0, .ms se be 0 x.entries.length, .int .i64 x.main]) :: RR) (by rw [hRR]; exact pk_) ?_
  apply aw_loopk (X := Nat × Nat × List (Nat × Nat)) [0, 2, 3, 1000000] (fun y => [(4, .int .i64 (y.1 : Int))])
    (fun y => (sc, y.2.1, .row 4 (nR codMk (x.codes.take y.1) y.2.2)) :: (s3, b3, .box [.ms yc.1.1 yc.1.2 0 x.classes.length, .ms sc y.2.1 0 y.1, .ms se be 0 x.entries.length, .int .i64 x.main]) :: (nO codOb (x.codes.take y.1) y.2.2 ++ RR))
    (fun y => y.1 ≤ x.codes.length ∧ y.2.2.length = y.1) (fun y => x.codes.length - y.1) (0, 0, []) ⟨Nat.zero_le _, rfl⟩
  exact kp_; (repeat (first | exact Weak.envNil | refine Weak.envCons we_ ?_))
  · exact .refl _
  rintro ⟨i, bc, ps⟩ ⟨hi, hps⟩
  dsimp only at hi hps ⊢
  by_cases hlt : i < x.codes.length
  · have hrs := fun p => nR_snoc codMk hlt hps p
    have hos := fun p => nO_snoc codOb hlt hps p
    have hra : (x.codes.map (TCode.tw lo))[i]? = some (x.codes[i].tw lo) := row_map hlt
    have hrl : (nR codMk (x.codes.take i) ps).length = i := by rw [nR_len _ (by rw [List.length_take]; omega), List.length_take]; omega
    have hbi := hsm _ (List.getElem_mem hlt)
    generalize x.codes[i] = c at hrs hos hra hbi
    have hil : c.instrs.length ≤ 1048576 := hbi.1
    rw [show c.tw lo = [.bool c.block, .int .i64 c.params, .int .i64 c.slots, .sl lo 4 (c.instrs.map (TInstr.tw lo))] from rfl] at hra
    have c2 := l14Copy_own hst lo c hbi
    have n2 := fun (y : Nat × Nat) (_ : True) => codMk_new c y
    generalize nO codOb (x.codes.take i) ps = T at hos ⊢
    repeat' (first | ((with_reducible apply o_y); exact y_; rfl) | ((with_reducible apply aw_drawC (id := 5) 13); kernel_rfl; kernel_rfl; kernel_rfl; rfl; (repeat (first | exact Cut.zero _ | apply Cut.succ))) | ((with_reducible apply m_q); exact ym_; rfl; exact ind_) | ((with_reducible apply m_litq); (intro p; rfl); rfl; kernel_rfl; kernel_rfl; rfl; kernel_rfl; rfl; (intro p; rfl); rfl; (intro p; rfl); exact ind_) | ((with_reducible apply m_call hG hst c2); rfl; kernel_rfl; (intro p; (repeat (first | exact Args.nil | ((with_reducible apply Args.cons); rfl; exact .same _)))); exact n2) | ((with_reducible apply m_app1); (intro p; rfl); (intro p; rfl); rfl; kernel_rfl; (intro p; rfl); exact hrl; (intro p; show List.length _ = 1; rfl); omega; exact fun p => hrs (Enc.dec (p _)); exact ⟨by decide, by decide⟩; exact inds_; rfl; (focus (simp; done))) | (with_reducible refine DM.nil _ _ _ ?_) | with_reducible refine al_none rfl ?_ | (with_reducible first | apply aw_seq | apply aw_region | apply al_nil | apply aq_then | apply aw_block | apply aw_skip) | (refine aw_cond_dt rfl rr_ dd_ ?_))
    intro p hp
    refine al_obj (objs' := (sc, (p 11).b, .row 4 (nR codMk (x.codes.take (i + 1)) (ps ++ [Enc.dec (p 9)]))) :: ((Enc.dec (p 9) : Nat × Nat).1, (Enc.dec (p 9) : Nat × Nat).2, codOb c) :: (s3, b3, .box [.ms yc.1.1 yc.1.2 0 x.classes.length, .ms sc bc 0 i, .ms se be 0 x.entries.length, .int .i64 x.main]) :: (T ++ RR)) (by rw [show liveL _ = [_, _] from rfl]; (try simp only [List.flatMap_cons, List.flatMap_nil, List.append_nil, List.append_assoc, List.cons_append, List.nil_append]); (try rfl)) ?_
    dsimp only [Nat.reduceAdd] at hp ⊢
    generalize (Enc.dec (p 9) : Nat × Nat) = q
    generalize Yu.b (p 11) = bb
    repeat' (first | ((with_reducible apply o_y); exact y_; rfl) | refine e_storep ?_ | with_reducible refine al_none rfl ?_ | (with_reducible first | apply aw_region | apply al_nil | apply aq_then | apply aq_block))
    refine aq_round (i + 1, bb, ps ++ [q]) ⟨by dsimp only; omega, by dsimp only; simp [hps]⟩ (by dsimp only; omega) (.of _ nw_ od_ ?_)
    dsimp only
    rw [hos q]
    exact pick_snoc3 _ _ _ T RR
  · obtain rfl : i = x.codes.length := by omega
    rw [List.take_of_length_le (Nat.le_refl _), hRR]
    refine aw_pick (pick_cpd _ _ _ _ _ _ _) ?_
    repeat' (first | ((with_reducible apply o_y); exact y_; rfl) | refine e_storep ?_ | with_reducible refine al_none rfl ?_ | (with_reducible first | apply aw_seq | apply aw_region | apply al_nil | apply aq_then | apply aw_exit | apply aw_ret | apply aq_block_hit | apply aq_then_exit) | (refine aw_cond_df rfl rr_ dd_ ?_))
    exact aq_retm1 (t1 := .agg [.ms yc.1.1 yc.1.2 0 x.classes.length, .ms sc bc 0 x.codes.length, .ms se be 0 x.entries.length, .int .i64 x.main]) x_ rfl (yc, ((sc, bc), ps), (se, be)) ⟨hI, hps⟩ rfl (.app _ R) (.drop (.drop (.perm (perm_cp _ _ _ _ R)))) (.cell _ _ _ _ _ rfl mm_ (by kernel_rfl) (by kernel_rfl) (by kernel_rfl)) rfl
end
end Go.Proofs.YthpdkhejeookhaaGreatDoor
/- The built-in classes of both sides. Written by gen_iv.py. -/
namespace Go.Proofs.YthpdkhejeookhaaGreatDoor
set_option maxRecDepth 20000
open Go Go.RowKit
def builtinL : List TClassInfo := [⟨⟨#[79, 98, 106, 101, 99, 116]⟩, -1, []⟩, ⟨⟨#[69, 120, 99, 101, 112, 116, 105, 111, 110]⟩, 0, [⟨#[116, 101, 120, 116]⟩]⟩, ⟨⟨#[69, 114, 114, 111, 114]⟩, 1, [⟨#[116, 101, 120, 116]⟩]⟩, ⟨⟨#[77, 101, 115, 115, 97, 103, 101, 78, 111, 116, 85, 110, 100, 101, 114, 115, 116, 111, 111, 100]⟩, 2, [⟨#[116, 101, 120, 116]⟩]⟩, ⟨⟨#[90, 101, 114, 111, 68, 105, 118, 105, 100, 101]⟩, 2, [⟨#[116, 101, 120, 116]⟩]⟩, ⟨⟨#[73, 110, 116, 101, 103, 101, 114]⟩, 0, []⟩, ⟨⟨#[66, 111, 111, 108, 101, 97, 110]⟩, 0, []⟩, ⟨⟨#[78, 105, 108]⟩, 0, []⟩, ⟨⟨#[83, 116, 114, 105, 110, 103]⟩, 0, []⟩, ⟨⟨#[83, 121, 109, 98, 111, 108]⟩, 0, []⟩, ⟨⟨#[65, 114, 114, 97, 121]⟩, 0, []⟩, ⟨⟨#[66, 108, 111, 99, 107]⟩, 0, []⟩, ⟨⟨#[83, 101, 109, 97, 112, 104, 111, 114, 101]⟩, 0, []⟩, ⟨⟨#[80, 114, 111, 99, 101, 115, 115]⟩, 0, []⟩, ⟨⟨#[84, 114, 97, 110, 115, 99, 114, 105, 112, 116]⟩, 0, []⟩, ⟨⟨#[67, 108, 97, 115, 115]⟩, 0, []⟩]
def builtinNames : List ByteArray := [⟨#[79, 98, 106, 101, 99, 116]⟩, ⟨#[69, 120, 99, 101, 112, 116, 105, 111, 110]⟩, ⟨#[69, 114, 114, 111, 114]⟩, ⟨#[77, 101, 115, 115, 97, 103, 101, 78, 111, 116, 85, 110, 100, 101, 114, 115, 116, 111, 111, 100]⟩, ⟨#[90, 101, 114, 111, 68, 105, 118, 105, 100, 101]⟩, ⟨#[73, 110, 116, 101, 103, 101, 114]⟩, ⟨#[66, 111, 111, 108, 101, 97, 110]⟩, ⟨#[78, 105, 108]⟩, ⟨#[83, 116, 114, 105, 110, 103]⟩, ⟨#[83, 121, 109, 98, 111, 108]⟩, ⟨#[65, 114, 114, 97, 121]⟩, ⟨#[66, 108, 111, 99, 107]⟩, ⟨#[83, 101, 109, 97, 112, 104, 111, 114, 101]⟩, ⟨#[80, 114, 111, 99, 101, 115, 115]⟩, ⟨#[84, 114, 97, 110, 115, 99, 114, 105, 112, 116]⟩, ⟨#[67, 108, 97, 115, 115]⟩]
def bfields (k : Int) : List ByteArray := if k = 1 ∨ k = 2 ∨ k = 3 ∨ k = 4 then [⟨#[116, 101, 120, 116]⟩] else []
def bparents : List (List TV) := [[TV.int .i64 (-1)], [TV.int .i64 0], [TV.int .i64 1], [TV.int .i64 2], [TV.int .i64 2], [TV.int .i64 0], [TV.int .i64 0], [TV.int .i64 0], [TV.int .i64 0], [TV.int .i64 0], [TV.int .i64 0], [TV.int .i64 0], [TV.int .i64 0], [TV.int .i64 0], [TV.int .i64 0], [TV.int .i64 0]]
theorem builtin_len : builtinL.length = 16 := rfl
theorem builtin_at {i : Nat} (h : i < 16) : ∃ x, builtinL[i]? = some x ∧ (strR builtinNames)[i]? = some [.str x.name] ∧ bparents[i]? = some [.int .i64 x.parent] ∧ bfields (i : Int) = x.fields ∧ builtinL.take (i + 1) = builtinL.take i ++ [x] := by
  match i, h with
  | 0, _ => exact ⟨_, rfl, rfl, rfl, rfl, rfl⟩
  | 1, _ => exact ⟨_, rfl, rfl, rfl, rfl, rfl⟩
  | 2, _ => exact ⟨_, rfl, rfl, rfl, rfl, rfl⟩
  | 3, _ => exact ⟨_, rfl, rfl, rfl, rfl, rfl⟩
  | 4, _ => exact ⟨_, rfl, rfl, rfl, rfl, rfl⟩
  | 5, _ => exact ⟨_, rfl, rfl, rfl, rfl, rfl⟩
  | 6, _ => exact ⟨_, rfl, rfl, rfl, rfl, rfl⟩
  | 7, _ => exact ⟨_, rfl, rfl, rfl, rfl, rfl⟩
  | 8, _ => exact ⟨_, rfl, rfl, rfl, rfl, rfl⟩
  | 9, _ => exact ⟨_, rfl, rfl, rfl, rfl, rfl⟩
  | 10, _ => exact ⟨_, rfl, rfl, rfl, rfl, rfl⟩
  | 11, _ => exact ⟨_, rfl, rfl, rfl, rfl, rfl⟩
  | 12, _ => exact ⟨_, rfl, rfl, rfl, rfl, rfl⟩
  | 13, _ => exact ⟨_, rfl, rfl, rfl, rfl, rfl⟩
  | 14, _ => exact ⟨_, rfl, rfl, rfl, rfl, rfl⟩
  | 15, _ => exact ⟨_, rfl, rfl, rfl, rfl, rfl⟩
  | n + 16, h => omega
section
variable {G : World → Prop}
theorem specBuiltin_ct : Ct Tryz.prog G 219 [] (fun K => .sl K 1 (strR builtinNames)) := by
  refine ct_enter Tryz.func219 rfl Tryz.ntmps219 rfl rfl fun w0 _ hG => ?_
  repeat' (first | ((with_reducible apply o_y); exact y_; rfl) | refine e_lit ?_ | with_reducible refine al_none rfl ?_ | (with_reducible first | apply aw_seq | apply aw_region | apply al_nil | apply aq_then | apply aw_ret))
  refine aq_ret1 (r1 := .tmp 0) (t1 := .sl w0.heap.size 1 (strR builtinNames)) (.inr rfl) rfl (.tmp _ _ rfl) (fun _ => ?_)
  exact fin_sl (f := fun s : ByteArray => [TV.str s]) (f' := fun s : ByteArray => [TV.str s]) (fun x => .cons (.flat rfl) .nil) builtinNames
theorem implBuiltin_ct : Ct Tryz.prog G 229 [] (fun K => .sl K 1 (strR builtinNames)) := by
  refine ct_enter Tryz.func229 rfl Tryz.ntmps229 rfl rfl fun w0 _ hG => ?_
  repeat' (first | ((with_reducible apply o_y); exact y_; rfl) | refine e_lit ?_ | with_reducible refine al_none rfl ?_ | (with_reducible first | apply aw_seq | apply aw_region | apply al_nil | apply aq_then | apply aw_ret))
  refine aq_ret1 (r1 := .tmp 0) (t1 := .sl w0.heap.size 1 (strR builtinNames)) (.inr rfl) rfl (.tmp _ _ rfl) (fun _ => ?_)
  exact fin_sl (f := fun s : ByteArray => [TV.str s]) (f' := fun s : ByteArray => [TV.str s]) (fun x => .cons (.flat rfl) .nil) builtinNames
theorem l7Fields_ct (tu : TV) (k : Int) (h : k < 16) : Ct Tryz.prog G 220 [tu, .int .i64 k] (fun K => .sl K 1 (strR (bfields k))) := by
  refine ct_enter Tryz.func220 rfl Tryz.ntmps220 rfl rfl fun w0 _ hG => ?_
  by_cases hk : k = 1 ∨ k = 2 ∨ k = 3 ∨ k = 4
  · rw [show bfields k = [⟨#[116, 101, 120, 116]⟩] from if_pos hk]
    repeat' (first | ((with_reducible apply o_y); exact y_; rfl) | refine e_lit ?_ | with_reducible refine al_none rfl ?_ | (with_reducible first | apply aw_seq | apply aw_region | apply al_nil | apply aq_then | apply aw_ret | apply aq_then_ret) | refine al_run rfl rfl rfl rr_ ?_ | refine al_skip rfl rfl rfl rr_ rfl rfl rfl ?_ | (refine al_gsplit rfl rfl rfl rr_ (fun hg => ?_) (fun hg => ?_)) | refine aw_cond_t rfl rr_ ?_ | (refine aw_cond_dt rfl rr_ dd_ ?_))
    all_goals first
      | (exfalso; omega)
      | (refine aq_ret1 x_ rfl (.tmp _ _ rfl) (fun _ => ?_)
         exact fin_sl (f := fun s : ByteArray => [TV.str s]) (f' := fun s : ByteArray => [TV.str s]) (fun x => .cons (.flat rfl) .nil) [⟨#[116, 101, 120, 116]⟩])
  · rw [show bfields k = [] from if_neg hk]
    repeat' (first | ((with_reducible apply o_y); exact y_; rfl) | refine e_lit ?_ | with_reducible refine al_none rfl ?_ | (with_reducible first | apply aw_seq | apply aw_region | apply al_nil | apply aq_then | apply aw_skip | apply aw_ret | apply aq_then_ret) | refine al_run rfl rfl rfl rr_ ?_ | (refine al_gf rfl rfl rfl rr_ dd_ ?_) | (refine aw_cond_dt rfl rr_ dd_ ?_) | (refine aw_cond_df rfl rr_ dd_ ?_))
    all_goals first
      | (exfalso; omega)
      | (refine aq_ret1 x_ rfl (.tmp _ _ rfl) (fun _ => ?_)
         exact fin_sl (f := fun s : ByteArray => [TV.str s]) (f' := fun s : ByteArray => [TV.str s]) (fun x => .cons (.flat rfl) .nil) [])
theorem l8Infos_ct (hst : Stable G) (rest : List TV) : Ct Tryz.prog G 179 [.cp 0 (.nils :: rest)] (fun K => .sl K 3 (builtinL.map (TClassInfo.tw K))) := by
  refine ct_enter Tryz.func179 rfl Tryz.ntmps179 rfl rfl fun w0 _ hG => ?_
  repeat' (first | ((with_reducible apply o_y); exact y_; rfl) | refine e_call hG hst (specBuiltin_ct) ?_ | with_reducible refine aw_hold_r (id := 3) ?_ | (refine e_own ?_; intro ss bb) | with_reducible refine al_none rfl ?_ | (with_reducible first | apply aw_seq | apply aw_region | apply al_nil | apply aq_then))
  refine ⟨?_⟩
  repeat' (first | ((with_reducible apply o_y); exact y_; rfl) | refine e_lit ?_ | with_reducible refine al_none rfl ?_ | (with_reducible first | apply aw_seq | apply aw_region | apply al_nil | apply aq_then | apply aw_block))
  apply aw_loopk (X := Nat × Nat) [0, 4, 5] (fun x => [(6, .int .i64 (x.1 : Int)), (3, .ms ss x.2 0 x.1)]) (fun x => [(ss, x.2, .row 3 ((builtinL.take x.1).map (TClassInfo.tw w0.heap.size)))]) (fun x => x.1 ≤ 16) (fun x => 16 - x.1) (0, bb) (Nat.zero_le _)
  exact kp_; (repeat (first | exact Weak.envNil | refine Weak.envCons we_ ?_))
  · exact .refl _
  rintro ⟨i, b⟩ hi
  dsimp only at hi ⊢
  by_cases hlt : i < 16
  · obtain ⟨x, hx, h1, h2, h3, h4⟩ := builtin_at hlt
    unfold bparents at h2
    have hle : ((builtinL.take i).map (TClassInfo.tw w0.heap.size)).length = i := by rw [List.length_map, List.length_take, builtin_len]; omega
    repeat' (first | ((with_reducible apply o_y); exact y_; rfl) | (with_reducible apply aw_draw2 (id := 7) 14; kernel_rfl; kernel_rfl; kernel_rfl; (repeat (first | exact Cut.zero _ | apply Cut.succ))) | with_reducible refine dr_nil2 ?_ | with_reducible refine dr_none rfl ?_ | ((with_reducible apply d_y); exact y_; rfl) | ((with_reducible apply d_call); rfl; kernel_rfl; (repeat (first | exact Args.nil | ((with_reducible apply Args.cons); rfl; exact .same _))); exact hG; exact hst; exact l7Fields_ct _ _ (by omega)) | refine e_buildd ?_ | refine e_litd ?_ | (refine e_app ?_; intro bb) | with_reducible refine al_none rfl ?_ | (with_reducible first | apply aw_seq | apply aw_region | apply al_nil | apply aq_then | apply aw_block | apply aw_skip | apply aq_block) | (refine aw_cond_dt rfl rr_ dd_ ?_))
    have hrow : (builtinL.take i).map (TClassInfo.tw w0.heap.size) ++ [[TV.str x.name, .int .i64 x.parent, .sl w0.heap.size 1 (strR (bfields i))]] = (builtinL.take (i + 1)).map (TClassInfo.tw w0.heap.size) := by
      rw [h4, h3, List.map_append]; rfl
    rw [hrow]
    exact aq_round (i + 1, bb) (by dsimp only; omega) (by dsimp only; omega) (.of _ nw_ od_ pk_)
  · obtain rfl : i = 16 := by omega
    repeat' (first | ((with_reducible apply o_y); exact y_; rfl) | with_reducible refine al_none rfl ?_ | (with_reducible first | apply aw_seq | apply aw_region | apply al_nil | apply aq_then | apply aw_block | apply aw_exit | apply aq_block_hit | apply aq_then_exit) | (refine aw_cond_df rfl rr_ dd_ ?_))
    apply aw_loopk (X := Unit) [0, 3] (fun _ => [(7, .int .i64 0)]) (fun _ => [(ss, b, .row 3 (builtinL.map (TClassInfo.tw w0.heap.size)))]) (fun _ => True) (fun _ => 0) () trivial
    exact kp_; (repeat (first | exact Weak.envNil | refine Weak.envCons we_ ?_))
    · exact .refl _
    rintro _ -
    repeat' (first | ((with_reducible apply o_y); exact y_; rfl) | with_reducible refine al_none rfl ?_ | (with_reducible first | apply aw_seq | apply aw_region | apply al_nil | apply aq_then | apply aw_exit | apply aw_ret | apply aq_block_hit | apply aq_then_exit) | (refine aw_cond_df rfl rr_ dd_ ?_))
    refine aq_ret1 x_ rfl (.tmp _ _ rfl) (fun _ => ?_)
    exact fin_ms (fun x => TClassInfo.fin _ _ _ x) List.mem_cons_self
end
end Go.Proofs.YthpdkhejeookhaaGreatDoor
/- The depths of the stack as plain functions: what an instruction takes, where it goes on, one step of the program's way and of the reference's way, and that both are one. No program here. -/
namespace Go.Proofs.YthpdkhejeookhaaGreatDoor
open Go Go.RowKit

/-- How many values an instruction takes and leaves. -/
def TInstr.eff (i : TInstr) : Int × Int :=
  if i.op = 9 ∨ i.op = 11 ∨ i.op = 18 then (1, 1)
  else if i.op = 13 then (nArgsL i.text.data.toList + 1, 1)
  else if i.op = 14 then (nArgsL i.text.data.toList, 1)
  else if i.op = 16 ∨ i.op = 19 ∨ i.op = 21 ∨ i.op = 22 then (1, 0)
  else if i.op = 17 then (1, 2)
  else if i.op = 24 ∨ i.op = 25 then (2, 2)
  else if i.op = 26 then (2, 1)
  else if i.op = 20 ∨ i.op = 23 then (0, 0)
  else (0, 1)
/-- The labels of an instruction. -/
def TInstr.labs (i : TInstr) : List Int :=
  if i.op = 20 then [i.a] else if i.op = 21 ∨ i.op = 22 then [i.a, i.b] else if i.op = 24 ∨ i.op = 25 ∨ i.op = 26 then [i.b] else []
/-- Where an instruction goes on, and with how many values. -/
def TInstr.nexts (i : TInstr) (at_ d : Int) : List (Int × Int) :=
  if i.op = 19 then []
  else if i.op = 20 then [(i.a, d - i.eff.1 + i.eff.2)]
  else if i.op = 21 ∨ i.op = 22 then [(at_ + 1, d - i.eff.1 + i.eff.2), (i.a, d - i.eff.1 + i.eff.2), (i.b, d - i.eff.1 + i.eff.2 + 1)]
  else if i.op = 24 ∨ i.op = 25 then [(at_ + 1, d - i.eff.1 + i.eff.2), (i.b, d - 1)]
  else if i.op = 26 then [(at_ + 1, d - i.eff.1 + i.eff.2), (i.b, d)]
  else [(at_ + 1, d - i.eff.1 + i.eff.2)]

theorem op_ways (k : Int) : k = 9 ∨ k = 11 ∨ k = 13 ∨ k = 14 ∨ k = 16 ∨ k = 17 ∨ k = 18 ∨ k = 19 ∨ k = 20 ∨ k = 21 ∨ k = 22 ∨ k = 23 ∨ k = 24 ∨ k = 25 ∨ k = 26 ∨ (¬ k = 9 ∧ ¬ k = 11 ∧ ¬ k = 13 ∧ ¬ k = 14 ∧ ¬ k = 16 ∧ ¬ k = 17 ∧ ¬ k = 18 ∧ ¬ k = 19 ∧ ¬ k = 20 ∧ ¬ k = 21 ∧ ¬ k = 22 ∧ ¬ k = 23 ∧ ¬ k = 24 ∧ ¬ k = 25 ∧ ¬ k = 26) := by omega

/-- A selector has at least no arguments. -/
theorem sel_args (l : List UInt8) : isSelL l = decide (0 ≤ nArgsL l) := by
  unfold isSelL nArgsL
  cases isOpL l
  · cases isNameL l
    · cases kwL l <;> simp
    · simp
  · simp
theorem nArgs_ge (l : List UInt8) : -1 ≤ nArgsL l := by
  unfold nArgsL
  split
  · omega
  · split
    · omega
    · split <;> omega
theorem kw_length {l : List UInt8} {ps : List (List UInt8)} (h : kwL l = some ps) : ps.length ≤ 4 := by
  unfold kwL at h
  split at h
  · split at h
    · rename_i h2
      simp only [Bool.and_eq_true, decide_eq_true_eq] at h2
      cases h; exact h2.2
    · cases h
  · cases h
theorem nArgs_le (l : List UInt8) : nArgsL l ≤ 4 := by
  unfold nArgsL
  split
  · omega
  · split
    · omega
    · split
      · rename_i ps h
        have := kw_length h
        omega
      · omega
theorem eff_range (i : TInstr) : -1 ≤ i.eff.1 ∧ i.eff.1 ≤ 5 ∧ 0 ≤ i.eff.2 ∧ i.eff.2 ≤ 2 := by
  have h1 := nArgs_ge i.text.data.toList
  have h2 := nArgs_le i.text.data.toList
  unfold TInstr.eff
  repeat' split
  all_goals (refine ⟨?_, ?_, ?_, ?_⟩ <;> simp <;> omega)

def gd (ds : List Int) (p : Int) : Int := ds.getD p.toNat 0
def opAt (is : List TInstr) (p : Int) : Int := ((is[p.toNat]?).map TInstr.op).getD 0

/-- What is asked of the instructions one by one, ahead of all steps. -/
def preOkI (n : Nat) (i : TInstr) : Bool := inR i.op 1 26 && (!(decide (i.op = 13) || decide (i.op = 14)) || decide (0 ≤ nArgsL i.text.data.toList)) && i.labs.all fun l => inR l 0 ((n : Int) - 1)
def preOk (is : List TInstr) : Bool := is.all (preOkI is.length)

abbrev Dst := List Int × List Nat
def badI (n : Nat) (ds : List Int) (p d : Int) : Bool := !inR p 0 ((n : Int) - 1) || decide (250 < d) || (decide (0 ≤ gd ds p) && !decide (gd ds p = d))
/-- The program's way to mark where an instruction goes on. -/
def pushI (n : Nat) : List (Int × Int) → Dst → Option Dst
  | [], s => some s
  | (p, d) :: r, (ds, q) => if badI n ds p d then none else if gd ds p < 0 then pushI n r (ds.set p.toNat d, q ++ [p.toNat]) else pushI n r (ds, q)
def backI (is : List TInstr) (at_ : Int) (op l : Int) : Bool := !decide (op = 26) && decide (l ≤ at_) && !decide (opAt is l = 23)
def stepI (is : List TInstr) (i : TInstr) (at_ : Nat) (ds : List Int) : Option Dst :=
  if gd ds at_ < i.eff.1 then none
  else if i.labs.any (backI is at_ i.op) then none
  else pushI is.length (i.nexts at_ (gd ds at_)) (ds, [])
def badS (is : List TInstr) (at_ : Int) (op p : Int) : Bool := decide ((is.length : Int) ≤ p) || backI is at_ op p
/-- The reference's way. -/
def pushS (is : List TInstr) (at_ op : Int) : List (Int × Int) → Dst → Option Dst
  | [], s => some s
  | (p, d) :: r, (ds, q) => if badS is at_ op p then none else if gd ds p = -1 then pushS is at_ op r (ds.set p.toNat d, q ++ [p.toNat]) else if gd ds p = d then pushS is at_ op r (ds, q) else none
def stepS (is : List TInstr) (i : TInstr) (at_ : Nat) (ds : List Int) : Option Dst :=
  if gd ds at_ - i.eff.1 < 0 ∨ 250 < gd ds at_ - i.eff.1 + i.eff.2 then none
  else pushS is at_ i.op (i.nexts at_ (gd ds at_)) (ds, [])

/-- The common way: only a mismatch ends it. -/
def pushM : List (Int × Int) → Dst → Option Dst
  | [], s => some s
  | (p, d) :: r, (ds, q) => if gd ds p < 0 then pushM r (ds.set p.toNat d, q ++ [p.toNat]) else if gd ds p = d then pushM r (ds, q) else none
def okP (n : Nat) (x : Int × Int) : Bool := inR x.1 0 ((n : Int) - 1) && decide (x.2 ≤ 250)
theorem pushI_eq (n : Nat) : ∀ (l : List (Int × Int)) (s : Dst), pushI n l s = if l.all (okP n) then pushM l s else none
  | [], s => by simp [pushI, pushM]
  | (p, d) :: r, (ds, q) => by
    have ih := pushI_eq n r
    by_cases hr : inR p 0 ((n : Int) - 1) = true
    · by_cases hd : d ≤ 250
      · have hd' : ¬ 250 < d := by omega
        by_cases hg : gd ds p < 0
        · have hg' : ¬ 0 ≤ gd ds p := by omega
          simp only [pushI, badI, pushM, okP, List.all_cons, hr, hd, hd', hg, hg', ih, decide_true, decide_false, Bool.not_true, Bool.or_false, Bool.false_and, Bool.true_and, if_true, Bool.false_eq_true, if_false]
        · have hg' : 0 ≤ gd ds p := by omega
          by_cases he : gd ds p = d
          · have h1 : ¬ d < 0 := he ▸ hg
            have h2 : 0 ≤ d := he ▸ hg'
            simp only [pushI, badI, pushM, okP, List.all_cons, hr, hd, hd', he, h1, h2, ih, decide_true, decide_false, Bool.not_true, Bool.or_false, Bool.true_and, if_true, Bool.false_eq_true, if_false]
          · simp [pushI, badI, pushM, okP, hr, hd, hd', hg, hg', he]
            exact (ite_self _).symm
      · have hd' : 250 < d := by omega
        simp [pushI, badI, okP, hr, hd, hd']
    · simp [pushI, badI, okP, hr]

/-- All depths lie from -1 to 250. -/
def InvD (ds : List Int) : Prop := ∀ x ∈ ds, -1 ≤ x ∧ x ≤ 250
theorem InvD.gd {ds : List Int} (h : InvD ds) (p : Int) : -1 ≤ gd ds p ∧ gd ds p ≤ 250 := by
  unfold Proofs.YthpdkhejeookhaaGreatDoor.gd
  rw [List.getD_eq_getElem?_getD]
  cases hp : ds[p.toNat]? with
  | none => simp
  | some x => exact h x (List.mem_of_getElem? hp)
theorem InvD.set {ds : List Int} (h : InvD ds) {d : Int} (h0 : -1 ≤ d) (h1 : d ≤ 250) (p : Nat) : InvD (ds.set p d) := fun x hx => by
  rcases List.mem_or_eq_of_mem_set hx with hx | rfl
  · exact h x hx
  · exact ⟨h0, h1⟩
theorem pushS_eq (is : List TInstr) (at_ op : Int) : ∀ (l : List (Int × Int)) (s : Dst), InvD s.1 → (∀ x ∈ l, 0 ≤ x.2 ∧ x.2 ≤ 250) → pushS is at_ op l s = if l.all (fun x => !badS is at_ op x.1) then pushM l s else none
  | [], s, _, _ => by simp [pushS, pushM]
  | (p, d) :: r, (ds, q), hI, hl => by
    have ih := pushS_eq is at_ op r
    have hd := hl (p, d) (by simp)
    have hl' : ∀ x ∈ r, 0 ≤ x.2 ∧ x.2 ≤ 250 := fun x hx => hl x (by simp [hx])
    have hg := hI.gd p
    by_cases hb : badS is at_ op p = true
    · simp [pushS, hb]
    · by_cases h1 : gd ds p = -1
      · have h2 : gd ds p < 0 := by omega
        have := ih (ds.set p.toNat d, q ++ [p.toNat]) (hI.set (by omega) hd.2 _) hl'
        simp only [pushS, pushM, List.all_cons, hb, h1, if_true, Bool.false_eq_true, if_false, Bool.not_false, Bool.true_and, this, show ((-1 : Int) < 0) from by omega]
      · have h2 : ¬ gd ds p < 0 := by simp only at hg; omega
        by_cases he : gd ds p = d
        · have h3 : ¬ d < 0 := he ▸ h2
          have h4 : ¬ d = -1 := he ▸ h1
          have := ih (ds, q) hI hl'
          simp only [pushS, pushM, List.all_cons, hb, he, h3, h4, if_true, Bool.false_eq_true, if_false, Bool.not_false, Bool.true_and, this]
        · simp [pushS, pushM, hb, h1, h2, he]
          exact (ite_self _).symm

theorem nexts_le (i : TInstr) (at_ : Nat) (g : Int) (h0 : 0 ≤ g) (h1 : g ≤ 250) (h : 250 < g - i.eff.1 + i.eff.2) (hl : ∀ l : Int, True) : ∃ x ∈ i.nexts at_ g, 250 < x.2 := by
  rcases op_ways i.op with h' | h' | h' | h' | h' | h' | h' | h' | h' | h' | h' | h' | h' | h' | h' | h'
  all_goals first
    | (refine ⟨((at_ : Int) + 1, g - i.eff.1 + i.eff.2), ?_, h⟩; simp [TInstr.nexts, h']; done)
    | (refine ⟨(i.a, g - i.eff.1 + i.eff.2), ?_, h⟩; simp [TInstr.nexts, h']; done)
    | (exfalso; simp [TInstr.eff, h'] at h; omega)
theorem nexts_range (i : TInstr) (at_ : Nat) (g : Int) (h0 : 0 ≤ g) (h1 : g ≤ 250) (ht : ¬ g < i.eff.1) (h : ¬ 250 < g - i.eff.1 + i.eff.2) (hsel : i.op = 14 → 0 ≤ i.eff.1) : ∀ x ∈ i.nexts at_ g, 0 ≤ x.2 ∧ x.2 ≤ 250 := by
  have he := eff_range i
  intro x hx
  rcases op_ways i.op with h' | h' | h' | h' | h' | h' | h' | h' | h' | h' | h' | h' | h' | h' | h' | h'
  all_goals first
      | (simp [TInstr.nexts, h'] at hx; done)
      | skip
  all_goals
    simp [TInstr.nexts, h'] at hx
    try simp [TInstr.eff, h'] at ht h he hsel hx
    first
      | (subst hx; simp; omega)
      | (rcases hx with rfl | rfl <;> simp <;> omega)
      | (rcases hx with rfl | rfl | rfl <;> simp <;> omega)
theorem inR_cut (n : Nat) (l : Int) : inR l 0 ((n : Int) - 1) = (decide (0 ≤ l) && !decide ((n : Int) ≤ l)) := by
  simp only [inR]; rw [Bool.eq_iff_iff]; simp; omega
theorem nexts_key (is : List TInstr) (i : TInstr) (at_ : Nat) (g : Int) (h0 : 0 ≤ g) (h1 : g ≤ 250) (ht : ¬ g < i.eff.1) (h : ¬ 250 < g - i.eff.1 + i.eff.2) (hlab : (i.labs.all fun l => inR l 0 ((is.length : Int) - 1)) = true) :
    (!i.labs.any (backI is at_ i.op) && (i.nexts at_ g).all (okP is.length)) = (i.nexts at_ g).all (fun x => !badS is at_ i.op x.1) := by
  have hb1 : ∀ op, backI is at_ op ((at_ : Int) + 1) = false := fun op => by
    simp only [backI]
    rw [show decide ((at_ : Int) + 1 ≤ at_) = false from decide_eq_false (by omega)]; simp
  have hin1 : inR ((at_ : Int) + 1) 0 ((is.length : Int) - 1) = !decide ((is.length : Int) ≤ (at_ : Int) + 1) := by
    rw [inR_cut, show decide (0 ≤ (at_ : Int) + 1) = true from decide_eq_true (by omega)]; rfl
  have hl2 : ∀ l ∈ i.labs, inR l 0 ((is.length : Int) - 1) = true ∧ decide ((is.length : Int) ≤ l) = false := fun l hl => by
    have := List.all_eq_true.1 hlab l hl
    refine ⟨this, ?_⟩
    simp only [inR, decide_eq_true_eq] at this
    exact decide_eq_false (by omega)
  rcases op_ways i.op with h' | h' | h' | h' | h' | h' | h' | h' | h' | h' | h' | h' | h' | h' | h' | h'
  all_goals
    simp only [TInstr.labs, TInstr.eff, h'] at hl2 ht h
    simp [TInstr.nexts, TInstr.labs, TInstr.eff, h', okP, badS, hb1, hin1]
    try simp at hl2 ht h
  all_goals first
    | (intros; omega)
    | grind

theorem step_eq (is : List TInstr) (i : TInstr) (at_ : Nat) (ds : List Int) (hI : InvD ds) (hp : preOkI is.length i = true) (hg : 0 ≤ gd ds at_) : stepI is i at_ ds = stepS is i at_ ds := by
  have hr := hI.gd at_
  unfold stepI stepS
  by_cases ht : gd ds at_ < i.eff.1
  · rw [if_pos ht, if_pos (by omega)]
  rw [if_neg ht]
  simp only [preOkI, Bool.and_eq_true] at hp
  obtain ⟨⟨hop, hsel⟩, hlab⟩ := hp
  have hsel' : i.op = 14 → 0 ≤ i.eff.1 := fun h => by
    simp [h] at hsel
    simp [TInstr.eff, h]; exact hsel
  rw [pushI_eq]
  by_cases h250 : 250 < gd ds at_ - i.eff.1 + i.eff.2
  · rw [if_pos (Or.inr h250)]
    obtain ⟨x, hx, hx2⟩ := nexts_le i at_ _ hg hr.2 h250 fun _ => trivial
    have hno : (i.nexts at_ (gd ds at_)).all (okP is.length) = false := by
      rw [List.all_eq_false]
      exact ⟨x, hx, by simp [okP]; intro _; omega⟩
    rw [hno]; simp
  · rw [if_neg (c := gd ds at_ - i.eff.1 < 0 ∨ 250 < gd ds at_ - i.eff.1 + i.eff.2) (by omega), pushS_eq _ _ _ _ _ hI (nexts_range i at_ _ hg hr.2 ht h250 hsel')]
    have key := nexts_key is i at_ _ hg hr.2 ht h250 hlab
    by_cases hA : i.labs.any (backI is at_ i.op) = true
    · rw [hA] at key
      rw [if_pos hA, ← key]; rfl
    · rw [if_neg hA]
      rw [Bool.not_eq_true] at hA
      rw [hA] at key
      rw [← key]; rfl

end Go.Proofs.YthpdkhejeookhaaGreatDoor
/- The whole way of the depths as a plain function: the program's steps and the reference's, one behind the other, and that both come to one result. No program here. -/
namespace Go.Proofs.YthpdkhejeookhaaGreatDoor
open Go Go.RowKit

/-- What holds between two steps: the depths known so far, what is still to do, and how many steps at most are still to come. -/
structure DSt (n : Nat) (ds : List Int) (q : List Nat) (k : Nat) : Prop where
  len : ds.length = n
  inv : InvD ds
  ok : ∀ p ∈ q, p < n ∧ 0 ≤ gd ds p
  mu : q.length + ds.countP (· < 0) ≤ k
theorem gd_set {ds : List Int} {p : Int} (hp : p.toNat < ds.length) (d : Int) (x : Nat) : gd (ds.set p.toNat d) (x : Int) = if p.toNat = x then d else gd ds x := by
  unfold gd
  simp only [Int.toNat_natCast, List.getD_eq_getElem?_getD, List.getElem?_set]
  split
  · rename_i h; subst h; simp [hp]
  · rfl
theorem gd_get {ds : List Int} {p : Nat} (hp : p < ds.length) : gd ds (p : Int) = ds[p] := by
  unfold gd; simp [hp]
theorem DSt.push {n : Nat} {ds : List Int} {q : List Nat} {k : Nat} (h : DSt n ds q k) {p d : Int} (hp : inR p 0 ((n : Int) - 1) = true) (h0 : 0 ≤ d) (h1 : d ≤ 250) (hg : gd ds p < 0) : DSt n (ds.set p.toNat d) (q ++ [p.toNat]) k := by
  simp only [inR, decide_eq_true_eq] at hp
  have hl := h.len
  have hpl : p.toNat < ds.length := by omega
  refine ⟨by simp [hl], h.inv.set (by omega) h1 _, fun x hx => ?_, ?_⟩
  · rw [gd_set hpl]
    rcases List.mem_append.1 hx with hx | hx
    · refine ⟨(h.ok x hx).1, ?_⟩
      split
      · exact h0
      · exact (h.ok x hx).2
    · simp at hx; subst hx
      exact ⟨by omega, by rw [if_pos rfl]; exact h0⟩
  · have hn : ds[p.toNat] < 0 := by
      have := gd_get hpl
      have hpp : ((p.toNat : Nat) : Int) = p := by omega
      rw [hpp] at this; omega
    have hc := List.countP_set (p := fun x : Int => decide (x < 0)) (l := ds) (a := d) hpl
    have hpos : 0 < ds.countP (fun x : Int => decide (x < 0)) := List.countP_pos_iff.2 ⟨_, List.getElem_mem hpl, by simpa using hn⟩
    have hm := h.mu
    simp only [hn, decide_true, if_true, show decide (d < 0) = false from decide_eq_false (by omega), Bool.false_eq_true, if_false] at hc
    rw [List.length_append, List.length_singleton, hc]
    omega
theorem DSt.pop {n : Nat} {ds : List Int} {p : Nat} {q : List Nat} {k : Nat} (h : DSt n ds (p :: q) k) : ∃ j, k = j + 1 ∧ DSt n ds q j ∧ p < n ∧ 0 ≤ gd ds p := by
  have hm := h.mu
  rw [List.length_cons] at hm
  exact ⟨k - 1, by omega, ⟨h.len, h.inv, fun x hx => h.ok x (by simp [hx]), by omega⟩, h.ok p (by simp)⟩

/-- The way from a state on, of at most so many steps. -/
def flow (is : List TInstr) (step : TInstr → Nat → List Int → Option Dst) : Nat → List Int → List Nat → Option (List Int)
  | _, ds, [] => some ds
  | 0, _, _ :: _ => none
  | f + 1, ds, p :: q => match is[p]? with
    | none => none
    | some i => match step i p ds with
      | none => none
      | some (ds', new) => flow is step f ds' (q ++ new)
theorem flow_cons (is : List TInstr) (step : TInstr → Nat → List Int → Option Dst) (f : Nat) (ds : List Int) {p : Nat} (q : List Nat) (hp : p < is.length) : flow is step (f + 1) ds (p :: q) = match step is[p] p ds with
      | none => none
      | some (ds', new) => flow is step f ds' (q ++ new) := by
  simp only [flow, List.getElem?_eq_getElem hp]

theorem nexts_nonneg (i : TInstr) (at_ : Nat) (g : Int) (h0 : 0 ≤ g) (ht : ¬ g < i.eff.1) (hsel : i.op = 14 → 0 ≤ i.eff.1) : ∀ x ∈ i.nexts at_ g, 0 ≤ x.2 := by
  have he := eff_range i
  intro x hx
  rcases op_ways i.op with h' | h' | h' | h' | h' | h' | h' | h' | h' | h' | h' | h' | h' | h' | h' | h'
  all_goals first
      | (simp [TInstr.nexts, h'] at hx; done)
      | skip
  all_goals
    simp [TInstr.nexts, h'] at hx
    try simp [TInstr.eff, h'] at ht he hsel hx
    first
      | (subst hx; simp; omega)
      | (rcases hx with rfl | rfl <;> simp <;> omega)
      | (rcases hx with rfl | rfl | rfl <;> simp <;> omega)

/-- What a push leaves of a state. -/
theorem pushI_st {n k : Nat} : ∀ (l : List (Int × Int)) (ds : List Int) (q0 new : List Nat) (s : Dst), (∀ x ∈ l, 0 ≤ x.2) → DSt n ds (q0 ++ new) k → pushI n l (ds, new) = some s → DSt n s.1 (q0 ++ s.2) k
  | [], ds, q0, new, s, _, h, e => by simp only [pushI, Option.some.injEq] at e; subst e; exact h
  | (p, d) :: r, ds, q0, new, s, hl, h, e => by
    have h0 := hl (p, d) (by simp)
    have hr : ∀ x ∈ r, 0 ≤ x.2 := fun x hx => hl x (by simp [hx])
    simp only [pushI] at e
    by_cases hb : badI n ds p d = true
    · rw [if_pos hb] at e; cases e
    · rw [if_neg hb] at e
      simp only [badI, Bool.or_eq_true, not_or, Bool.not_eq_true, Bool.not_eq_false', decide_eq_false_iff_not] at hb
      by_cases hg : gd ds p < 0
      · rw [if_pos hg] at e
        exact pushI_st r _ q0 _ s hr (by rw [← List.append_assoc]; exact h.push hb.1.1 h0 (by omega) hg) e
      · rw [if_neg hg] at e
        exact pushI_st r _ q0 _ s hr h e

theorem flow_eq (is : List TInstr) (hp : preOk is = true) : ∀ (f : Nat) (ds : List Int) (q : List Nat), DSt is.length ds q f → flow is (stepI is) f ds q = flow is (stepS is) f ds q
  | _, _, [], _ => by simp [flow]
  | 0, _, _ :: _, _ => by simp [flow]
  | f + 1, ds, p :: q, h => by
    obtain ⟨j, hj, hst, hpl, hg⟩ := h.pop
    obtain rfl : f = j := by omega
    rw [flow_cons _ _ _ _ _ hpl, flow_cons _ _ _ _ _ hpl]
    have hpi : preOkI is.length is[p] = true := List.all_eq_true.1 hp _ (List.getElem_mem _)
    have hse := step_eq is is[p] p ds h.inv hpi hg
    rw [← hse]
    cases hs : stepI is is[p] p ds with
    | none => rfl
    | some s =>
      have hsel : is[p].op = 14 → 0 ≤ is[p].eff.1 := fun h14 => by
        simp only [preOkI, Bool.and_eq_true] at hpi
        have := hpi.1.2
        simp [h14] at this
        simp [TInstr.eff, h14]; exact this
      unfold stepI at hs
      by_cases ht : gd ds p < is[p].eff.1
      · rw [if_pos ht] at hs; cases hs
      · rw [if_neg ht] at hs
        by_cases hA : (is[p].labs.any (backI is p is[p].op)) = true
        · rw [if_pos hA] at hs; cases hs
        · rw [if_neg hA] at hs
          have hst' := pushI_st _ ds q [] s (nexts_nonneg _ p _ hg ht hsel) (by rw [List.append_nil]; exact hst) hs
          exact flow_eq is hp f s.1 (q ++ s.2) hst'

/-- The depths of the stack before each instruction, where the code is right. -/
def depthsL (is : List TInstr) : Option (List Int) :=
  if is.length = 0 then none else if preOk is then flow is (stepI is) is.length (0 :: List.replicate (is.length - 1) (-1)) [0] else none
theorem start_st {n : Nat} (hn : 1 ≤ n) : DSt n (0 :: List.replicate (n - 1) (-1)) [0] n := by
  refine ⟨by simp; omega, fun x hx => ?_, fun p hp => ?_, ?_⟩
  · rcases List.mem_cons.1 hx with rfl | hx
    · omega
    · rw [List.eq_of_mem_replicate hx]; omega
  · simp at hp; subst hp; exact ⟨by omega, by simp [gd]⟩
  · simp [List.countP_replicate]; omega
end Go.Proofs.YthpdkhejeookhaaGreatDoor
/- StackDepths by the engine: what an instruction takes and leaves. -/
namespace Go.Proofs.YthpdkhejeookhaaGreatDoor
set_option maxRecDepth 20000
open Go Go.RowKit
theorem ct_str_int {P : Program} {G : World → Prop} {f : FuncId} {s : ByteArray} {n : Int} (h : ∀ w, G w → Calls P f #[.string s] w fun e w' => e = .returned (.int .i64 n) ∧ Below w.heap.size w w') : Ct P G f [.str s] (fun _ => .int .i64 n) := fun w vs _ hG hs hr => by
  obtain ⟨v, rfl, h1⟩ := reps1 hs hr
  rw [h1.str_inv]
  refine (h w hG).mono ?_
  rintro e w' ⟨rfl, hb⟩
  exact ⟨_, rfl, hb, fun _ _ => .int _ _⟩
def TInstr.tv (x : TInstr) : List TV := [.int .i64 x.op, .int .i64 x.a, .int .i64 x.b, .str x.text]
set_option maxRecDepth 4000 in
set_option maxHeartbeats 2000000 in
theorem l16Effect_ct {G : World → Prop} (hst : Stable G) (hca : ∀ s : ByteArray, s.size ≤ 1048576 → Ct Tryz.prog G 183 [.str s] (fun _ => .int .i64 (nArgsL s.data.toList))) (op a b : Int) (t : ByteArray) (hs : t.size ≤ 1048576) (hop : inR op 1 26 = true) : Ct Tryz.prog G 197 [.agg [.int .i64 op, .int .i64 a, .int .i64 b, .str t]] (fun _ => .tup [.int .i64 (TInstr.eff ⟨op, a, b, t⟩).1, .int .i64 (TInstr.eff ⟨op, a, b, t⟩).2]) := by
  refine ct_enter Tryz.func197 rfl Tryz.ntmps197 rfl rfl fun w0 _ hG => ?_
  have h1 := nArgs_ge t.data.toList
  have h2 := nArgs_le t.data.toList
  simp only [inR, decide_eq_true_eq] at hop
  repeat' (first | ((with_reducible apply o_y); exact y_; rfl) | refine e_box ?_ | refine e_call hG hst (hca _ hs) ?_ | with_reducible refine al_none rfl ?_ | (with_reducible first | apply aw_seq | apply aw_region | apply al_nil | apply aq_then | apply aw_block | apply aw_skip | apply aw_ret | apply aq_then_ret | apply aq_block_ret | apply aq_block) | (refine aw_cond_dt rfl rr_ dd_ ?_) | (refine aw_cond rfl rr_ (fun hc => ?_) (fun hc => ?_)))
  all_goals
    clear hst
    have he : TInstr.eff ⟨op, a, b, t⟩ = TInstr.eff ⟨op, a, b, t⟩ := rfl
    conv at he => rhs; unfold TInstr.eff
    dsimp only at he
    rw [he]
    refine aq_ret2 x_ rfl (.tmp _ _ rfl) (.tmp _ _ rfl) (fun _ => ?_) (fun _ => ?_)
    all_goals
      refine fin_int ?_
      first
        | (subst hc; simp; done)
        | (have h3 : op = 20 ∨ op = 23 := by omega
           rcases h3 with rfl | rfl <;> simp; done)
end Go.Proofs.YthpdkhejeookhaaGreatDoor
/- The contracts of the laws' own helpers on []int: copy, compare, mark, look at the marks. -/
namespace Go.Proofs.YthpdkhejeookhaaGreatDoor
open Go Go.RowKit

theorem Tryz.infoInt : (Tryz.prog.info? 3).map (fun i => (i.zero, i.size, i.bytes)) = some (some (.int .i64 0), 1, 8) := by kernel_rfl

def ints (zs : List Int) : List PT := zs.map (PT.int .i64)
/-- The marks k, k + 1, .., n of them. -/
def marks (k n : Nat) : List Int := (List.range n).map fun i => ((k + i : Nat) : Int)
end Go.Proofs.YthpdkhejeookhaaGreatDoor
