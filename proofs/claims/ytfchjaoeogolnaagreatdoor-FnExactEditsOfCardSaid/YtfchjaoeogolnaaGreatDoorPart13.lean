/- Part 13 of the proof: the texts MkN, MkC, MkV, MkH, IvW, EdL. -/
import Derived.Test.YtfchjaoeogolnaaGreatDoorPart6
import Derived.Test.YtfchjaoeogolnaaGreatDoorPart12
import Derived.Test.YtfchjaoeogolnaaGreatDoorPart5
import Derived.Test.YtfchjaoeogolnaaGreatDoorPart11
/- The laws' marks of what a call owns, and their check: exact. Written by gen_mk.py. -/
namespace Go.Proofs.YtfchjaoeogolnaaGreatDoor
set_option maxRecDepth 20000
open Go Go.RowKit
/-- A list marked from k on. -/
def mkL {α : Type} (mk : Int → α → α) (nx : Int → α → Int) : Int → List α → List α
  | _, [] => []
  | k, x :: r => mk k x :: mkL mk nx (nx k x) r
def kL {α : Type} (nx : Int → α → Int) (k : Int) (l : List α) : Int := l.foldl nx k
def ptL {α : Type} (mk : Int → α → α) (nx : Int → α → Int) (k : Int) (l : List α) (i : Nat) : List α := mkL mk nx k (l.take i) ++ l.drop i
section
variable {α : Type} {mk : Int → α → α} {nx : Int → α → Int}
theorem mkL_len : ∀ (k : Int) (l : List α), (mkL mk nx k l).length = l.length
  | _, [] => rfl
  | k, x :: r => by simp [mkL, mkL_len (nx k x) r]
theorem mkL_app : ∀ (k : Int) (a b : List α), mkL mk nx k (a ++ b) = mkL mk nx k a ++ mkL mk nx (kL nx k a) b
  | _, [], b => rfl
  | k, x :: r, b => by
    show mk k x :: mkL mk nx (nx k x) (r ++ b) = mk k x :: (mkL mk nx (nx k x) r ++ mkL mk nx (kL nx (nx k x) r) b)
    rw [mkL_app]
theorem kL_snoc {k : Int} {l : List α} {i : Nat} (h : i < l.length) : kL nx k (l.take (i + 1)) = nx (kL nx k (l.take i)) l[i] := by
  rw [takeSnoc h]
  unfold kL
  rw [List.foldl_append]; rfl
theorem ptL_len {k : Int} {l : List α} {i : Nat} (h : i ≤ l.length) : (ptL mk nx k l i).length = l.length := by
  unfold ptL
  rw [List.length_append, mkL_len, List.length_take, List.length_drop]; omega
theorem ptL_get {k : Int} {l : List α} {i : Nat} (h : i < l.length) : (ptL mk nx k l i)[i]? = some l[i] := by
  unfold ptL
  rw [List.getElem?_append_right (by rw [mkL_len, List.length_take]; omega), mkL_len, List.length_take, show i - min i l.length = 0 by omega, List.drop_eq_getElem_cons h]; rfl
theorem ptL_set {k : Int} {l : List α} {i : Nat} (h : i < l.length) : (ptL mk nx k l i).set i (mk (kL nx k (l.take i)) l[i]) = ptL mk nx k l (i + 1) := by
  unfold ptL
  rw [List.set_append_right _ _ (by rw [mkL_len, List.length_take]; omega), mkL_len, List.length_take, show i - min i l.length = 0 by omega, List.drop_eq_getElem_cons h, List.set_cons_zero, takeSnoc h, mkL_app, List.append_assoc]; rfl
theorem ptL_full (k : Int) (l : List α) : ptL mk nx k l l.length = mkL mk nx k l := by
  unfold ptL
  rw [List.take_length, List.drop_length, List.append_nil]
theorem mkL_get {k : Int} {l : List α} {i : Nat} (h : i < l.length) : (mkL mk nx k l)[i]? = some (mk (kL nx k (l.take i)) l[i]) := by
  conv => lhs; rw [← List.take_append_drop i l, mkL_app]
  rw [List.getElem?_append_right (by rw [mkL_len, List.length_take]; omega), mkL_len, List.length_take, show i - min i l.length = 0 by omega, List.drop_eq_getElem_cons h]; rfl
theorem kL_in {c : Nat} : ∀ {l : List α} {k : Int}, (∀ x ∈ l, ∀ q, q ≤ nx q x ∧ nx q x ≤ q + c) → k ≤ kL nx k l ∧ kL nx k l ≤ k + c * l.length
  | [], k, _ => by show k ≤ k ∧ k ≤ k + _; simp
  | x :: r, k, h => by
    have h1 := h x List.mem_cons_self k
    have h2 := kL_in (l := r) (k := nx k x) (fun y hy => h y (List.mem_cons_of_mem _ hy))
    have e : kL nx k (x :: r) = kL nx (nx k x) r := rfl
    have e2 : (c : Int) * (((x :: r).length : Nat) : Int) = c * (r.length : Nat) + c := by rw [List.length_cons, Int.natCast_add, Int.mul_add]; simp
    rw [e, e2]
    omega
theorem kL_take {c : Nat} {l : List α} {k : Int} {i : Nat} {n : Nat} (hn : l.length ≤ n) (h : ∀ x ∈ l, ∀ q, q ≤ nx q x ∧ nx q x ≤ q + c) (hi : i ≤ l.length) : k ≤ kL nx k (l.take i) ∧ kL nx k (l.take i) ≤ k + c * n := by
  have h1 := kL_in (nx := nx) (c := c) (l := l.take i) (k := k) (fun x hx => h x (List.mem_of_mem_take hx))
  have h2 : (l.take i).length ≤ n := by rw [List.length_take]; omega
  have h3 : (c : Int) * ((l.take i).length : Nat) ≤ c * n := by exact_mod_cast Nat.mul_le_mul_left c h2
  omega
end
/-- One of the rows' objects is taken out of the list, and put back. -/
theorem nO_get {α : Type} (ob : α → TObj) {l : List α} {ps : List (Nat × Nat)} {i : Nat} {p : Nat × Nat} {x : α} (hx : l[i]? = some x) (hp : ps[i]? = some p) : (nO ob l ps)[i]? = some (p.1, p.2, ob x) := by
  unfold nO
  rw [List.getElem?_zipWith, hx, hp]
theorem nR_get {α : Type} (mk : α → Nat × Nat → List TV) {l : List α} {ps : List (Nat × Nat)} {i : Nat} {p : Nat × Nat} {x : α} (hx : l[i]? = some x) (hp : ps[i]? = some p) : (nR mk l ps)[i]? = some (mk x p) := by
  unfold nR
  rw [List.getElem?_zipWith, hx, hp]
theorem zip_set {α β γ : Type} (f : α → β → γ) : ∀ {l : List α} {ps : List β} {i : Nat} {p : β} {x : α}, ps[i]? = some p → List.zipWith f (l.set i x) ps = (List.zipWith f l ps).set i (f x p)
  | [], _, _, _, _, _ => by simp
  | _ :: _, [], _, _, _, h => by simp at h
  | a :: l, q :: ps, 0, p, x, h => by simp at h; subst h; simp
  | a :: l, q :: ps, i + 1, p, x, h => by
    have := zip_set f (l := l) (ps := ps) (i := i) (p := p) (x := x) (by simpa using h)
    simp [this]
theorem nR_put {α : Type} (mk : α → Nat × Nat → List TV) {l : List α} {ps : List (Nat × Nat)} {i : Nat} {p : Nat × Nat} {x : α} (hp : ps[i]? = some p) : nR mk (l.set i x) ps = (nR mk l ps).set i (mk x p) := zip_set mk hp
theorem perm_out {α : Type} : ∀ {l : List α} {i : Nat} {x : α}, l[i]? = some x → l.Perm (x :: l.eraseIdx i)
  | [], _, _, h => by simp at h
  | a :: l, 0, x, h => by simp at h; subst h; exact .refl _
  | a :: l, i + 1, x, h => by
    have := perm_out (l := l) (i := i) (x := x) (by simpa using h)
    exact (this.cons a).trans (.swap x a _)
theorem erase_set {α : Type} : ∀ (l : List α) (i : Nat) (x : α), (l.set i x).eraseIdx i = l.eraseIdx i
  | [], _, _ => rfl
  | a :: l, 0, x => rfl
  | a :: l, i + 1, x => by simp [erase_set l i x]
theorem nO_out {α : Type} (ob : α → TObj) {l : List α} {ps : List (Nat × Nat)} {i : Nat} {p : Nat × Nat} {x : α} (hx : l[i]? = some x) (hp : ps[i]? = some p) : (nO ob l ps).Perm ((p.1, p.2, ob x) :: (nO ob l ps).eraseIdx i) := perm_out (nO_get ob hx hp)
theorem nO_in {α : Type} (ob : α → TObj) {l : List α} {ps : List (Nat × Nat)} {i : Nat} {p : Nat × Nat} {x : α} (hl : i < l.length) (hp : ps[i]? = some p) : (nO ob (l.set i x) ps).Perm ((p.1, p.2, ob x) :: (nO ob l ps).eraseIdx i) := by
  have h := nO_out ob (l := l.set i x) (ps := ps) (i := i) (p := p) (x := x) (by rw [List.getElem?_set_self hl]) hp
  have e : (nO ob (l.set i x) ps).eraseIdx i = (nO ob l ps).eraseIdx i := by
    unfold nO
    rw [zip_set _ hp, erase_set]
  rw [e] at h
  exact h
theorem pick_out {a z : Nat × Nat × TObj} {N E : Objs} (h : N.Perm (z :: E)) (R : Objs) : Pick (z :: a :: (E ++ R)) (a :: (N ++ R)) := .perm (by
  have h1 : (a :: (N ++ R)).Perm (a :: z :: (E ++ R)) := ((h.append_right R)).cons a
  exact (List.Perm.swap a z _).trans h1.symm)
theorem pick_in {a z : Nat × Nat × TObj} {N E : Objs} (h : N.Perm (z :: E)) (R : Objs) : Pick (a :: (N ++ R)) (z :: a :: (E ++ R)) := .perm (by
  have h1 : (a :: (N ++ R)).Perm (a :: z :: (E ++ R)) := ((h.append_right R)).cons a
  exact h1.trans (List.Perm.swap z a _))
theorem pick_rot (A B C : Objs) : Pick (B ++ (A ++ C)) (A ++ (B ++ C)) := .perm (by
  rw [← List.append_assoc, ← List.append_assoc]
  exact List.perm_append_comm.append_right C)
def mkString (k : Int) (_ : ByteArray) : ByteArray := markB k
def nxString (k : Int) (_ : ByteArray) : Int := k + 1
theorem nxString_in (l : List ByteArray) : ∀ x ∈ l, ∀ q, q ≤ nxString q x ∧ nxString q x ≤ q + (1 : Nat) := fun x _ q => by unfold nxString; omega
theorem strR_put (l : List ByteArray) (k : Nat) (s : ByteArray) : (strR l).set k [TV.str s] = strR (l.set k s) := by simp [strR, List.map_set]
def mkInstr (k : Int) (_ : TInstr) : TInstr := ⟨k, k + 1, k + 1 + 1, markB (k + 1 + 1 + 1)⟩
def nxInstr (k : Int) (_ : TInstr) : Int := k + 1 + 1 + 1 + 1
theorem nxInstr_in (l : List TInstr) : ∀ x ∈ l, ∀ q, q ≤ nxInstr q x ∧ nxInstr q x ≤ q + (4 : Nat) := fun x _ q => by unfold nxInstr; omega
def mkEntry (k : Int) (_ : TEntry) : TEntry := ⟨k, decide ((k + 1).tmod 3 = 0), markB (k + 1 + 1), k + 1 + 1 + 1⟩
def nxEntry (k : Int) (_ : TEntry) : Int := k + 1 + 1 + 1 + 1
theorem nxEntry_in (l : List TEntry) : ∀ x ∈ l, ∀ q, q ≤ nxEntry q x ∧ nxEntry q x ≤ q + (4 : Nat) := fun x _ q => by unfold nxEntry; omega
def mkEdit (k : Int) (_ : TEdit) : TEdit := ⟨k, k + 1, k + 1 + 1⟩
def nxEdit (k : Int) (_ : TEdit) : Int := k + 1 + 1 + 1
theorem nxEdit_in (l : List TEdit) : ∀ x ∈ l, ∀ q, q ≤ nxEdit q x ∧ nxEdit q x ≤ q + (4 : Nat) := fun x _ q => by unfold nxEdit; omega
def mkClassInfo (k : Int) (x : TClassInfo) : TClassInfo := ⟨markB (k), k + 1, mkL mkString nxString (k + 1 + 1) x.fields⟩
def nxClassInfo (k : Int) (x : TClassInfo) : Int := kL nxString (k + 1 + 1) x.fields
theorem nxClassInfo_in {l : List TClassInfo} (h : ∀ y ∈ l, TClassInfo.small 1048576 y) : ∀ x ∈ l, ∀ q, q ≤ nxClassInfo q x ∧ nxClassInfo q x ≤ q + (1048578 : Nat) := fun x hx q => by
  have h1 := h x hx
  have h2 := h1.2.1
  have h3 := kL_in (nx := nxString) (l := x.fields) (k := q + 1 + 1) (nxString_in _)
  unfold nxClassInfo
  omega
def mkCode (k : Int) (x : TCode) : TCode := ⟨decide ((k).tmod 3 = 0), k + 1, k + 1 + 1, mkL mkInstr nxInstr (k + 1 + 1 + 1) x.instrs⟩
def nxCode (k : Int) (x : TCode) : Int := kL nxInstr (k + 1 + 1 + 1) x.instrs
theorem nxCode_in {l : List TCode} (h : ∀ y ∈ l, TCode.small 1048576 y) : ∀ x ∈ l, ∀ q, q ≤ nxCode q x ∧ nxCode q x ≤ q + (4194307 : Nat) := fun x hx q => by
  have h1 := h x hx
  have h2 := h1.1
  have h3 := kL_in (nx := nxInstr) (l := x.instrs) (k := q + 1 + 1 + 1) (nxInstr_in _)
  unfold nxCode
  omega
section
variable {G : World → Prop}
theorem markStringS_own (hst : Stable G) (s b : Nat) (l : List ByteArray) (k : Int) (hn : l.length ≤ 1048576) (hk : 0 ≤ k ∧ k ≤ 1000000000000000) : CtM Tryz.prog G 15 [.ms s b 0 l.length, .int .i64 k] [(s, b, .row 1 (strR (l)))] (fun _ : Unit => True) (fun _ => [(s, b, .row 1 (strR (mkL mkString nxString k l)))]) (fun _ => .int .i64 (kL nxString k l)) := by
  refine ctm_enter Tryz.func15 rfl Tryz.ntmps15 rfl rfl rfl fun w0 R gs objsR hG hR => ?_
  obtain rfl := hR.inv1
  clear hR
  repeat' (first | ((with_reducible apply o_y); exact y_; rfl) | with_reducible refine al_none rfl ?_ | (with_reducible first | apply aw_seq | apply aw_region | apply al_nil | apply aq_then | apply aw_block))
  apply aw_loopk (X := Nat) [0, 1000000] (fun x => [(5, .int .i64 (x : Int)), (1, .int .i64 (kL nxString k (l.take x)))]) (fun x => (s, b, .row 1 (strR (ptL mkString nxString k l x))) :: R) (fun x => x ≤ l.length) (fun x => l.length - x) 0 (Nat.zero_le _)
  exact kp_; (repeat (first | exact Weak.envNil | refine Weak.envCons we_ ?_))
  · exact .refl _
  intro i hi
  try dsimp only
  have hq := kL_take (k := k) (i := i) hn (nxString_in l) hi
  by_cases hlt : i < l.length
  · have hrow : (strR (ptL mkString nxString k l i))[i]? = some ((fun s : ByteArray => [TV.str s]) l[i]) := by
      simp only [strR, List.getElem?_map, ptL_get hlt]; rfl
    have hset : (strR (ptL mkString nxString k l i)).set i ((fun s : ByteArray => [TV.str s]) (mkString (kL nxString k (l.take i)) l[i])) = strR (ptL mkString nxString k l (i + 1)) := by
      rw [← ptL_set hlt, strR_put]
    have hks := kL_snoc (nx := nxString) (k := k) hlt
    have hrl : (strR (ptL mkString nxString k l i)).length = l.length := by simp [strR, ptL_len hi]
    generalize strR (ptL mkString nxString k l i) = rows at hrow hset hrl ⊢
    generalize kL nxString k (l.take i) = q at hq hset hks ⊢
    generalize l[i] = x at hrow hset hks
    replace hrow : rows[i]? = some [.str x] := hrow
    have hks2 : kL nxString k (l.take (i + 1)) = q + 1 := hks
    repeat' (first | ((with_reducible apply o_y); exact y_; rfl) | refine e_store ?_ | ((with_reducible apply o_call); rfl; kernel_rfl; (repeat (first | exact Args.nil | ((with_reducible apply Args.cons); rfl; exact .same _))); exact hG; exact hst; exact markText_ct _ (by omega) (by omega)) | with_reducible refine al_none rfl ?_ | (with_reducible first | apply aw_seq | apply aw_region | apply al_nil | apply aq_then | apply aw_block | apply aw_skip | apply aq_block) | (refine aw_cond_dt rfl rr_ dd_ ?_))
    refine aq_round (i + 1) (by omega) (by omega) (.of _ (Weak.envCons rfl (Weak.envCons (lk_int rfl (by rw [hks2])) Weak.envNil)) od_ ?_)
    rw [← hset]
    (try simp only [List.set_set])
    exact .refl _
  · obtain rfl : i = l.length := by omega
    rw [ptL_full, List.take_length]
    repeat' (first | ((with_reducible apply o_y); exact y_; rfl) | with_reducible refine al_none rfl ?_ | (with_reducible first | apply aw_seq | apply aw_region | apply al_nil | apply aq_then | apply aw_exit | apply aw_ret | apply aq_block_hit | apply aq_then_exit) | (refine aw_cond_df rfl rr_ dd_ ?_))
    exact aq_retm1 x_ rfl () trivial rfl (.cons _ _ _ _ (.nil R)) pk_ (.tmp _ _ rfl) rfl
theorem markInstrS_own (hst : Stable G) (s b : Nat) (l : List TInstr) (k : Int) (hn : l.length ≤ 1048576) (hk : 0 ≤ k ∧ k ≤ 1000000000000000) : CtM Tryz.prog G 86 [.ms s b 0 l.length, .int .i64 k] [(s, b, .row 4 ((l).map (TInstr.tw 0)))] (fun _ : Unit => True) (fun _ => [(s, b, .row 4 ((mkL mkInstr nxInstr k l).map (TInstr.tw 0)))]) (fun _ => .int .i64 (kL nxInstr k l)) := by
  refine ctm_enter Tryz.func86 rfl Tryz.ntmps86 rfl rfl rfl fun w0 R gs objsR hG hR => ?_
  obtain rfl := hR.inv1
  clear hR
  repeat' (first | ((with_reducible apply o_y); exact y_; rfl) | with_reducible refine al_none rfl ?_ | (with_reducible first | apply aw_seq | apply aw_region | apply al_nil | apply aq_then | apply aw_block))
  apply aw_loopk (X := Nat) [0, 1000000] (fun x => [(5, .int .i64 (x : Int)), (1, .int .i64 (kL nxInstr k (l.take x)))]) (fun x => (s, b, .row 4 ((ptL mkInstr nxInstr k l x).map (TInstr.tw 0))) :: R) (fun x => x ≤ l.length) (fun x => l.length - x) 0 (Nat.zero_le _)
  exact kp_; (repeat (first | exact Weak.envNil | refine Weak.envCons we_ ?_))
  · exact .refl _
  intro i hi
  try dsimp only
  have hq := kL_take (k := k) (i := i) hn (nxInstr_in l) hi
  by_cases hlt : i < l.length
  · have hrow : ((ptL mkInstr nxInstr k l i).map (TInstr.tw 0))[i]? = some ((TInstr.tw 0) l[i]) := by
      simp only [strR, List.getElem?_map, ptL_get hlt]; rfl
    have hset : ((ptL mkInstr nxInstr k l i).map (TInstr.tw 0)).set i ((TInstr.tw 0) (mkInstr (kL nxInstr k (l.take i)) l[i])) = (ptL mkInstr nxInstr k l (i + 1)).map (TInstr.tw 0) := by
      rw [← ptL_set hlt, List.map_set]
    have hks := kL_snoc (nx := nxInstr) (k := k) hlt
    have hrl : ((ptL mkInstr nxInstr k l i).map (TInstr.tw 0)).length = l.length := by simp [strR, ptL_len hi]
    generalize (ptL mkInstr nxInstr k l i).map (TInstr.tw 0) = rows at hrow hset hrl ⊢
    generalize kL nxInstr k (l.take i) = q at hq hset hks ⊢
    generalize l[i] = x at hrow hset hks
    replace hrow : rows[i]? = some [.int .i64 x.op, .int .i64 x.a, .int .i64 x.b, .str x.text] := hrow
    have hr1 : (rows.set i [.int .i64 q, .int .i64 x.a, .int .i64 x.b, .str x.text])[i]? = some [.int .i64 q, .int .i64 x.a, .int .i64 x.b, .str x.text] := by rw [List.getElem?_set_self (by omega)]
    have hks2 : kL nxInstr k (l.take (i + 1)) = q + 1 + 1 + 1 + 1 := hks
    repeat' (first | ((with_reducible apply o_y); exact y_; rfl) | refine e_store ?_ | ((with_reducible apply o_call); rfl; kernel_rfl; (repeat (first | exact Args.nil | ((with_reducible apply Args.cons); rfl; exact .same _))); exact hG; exact hst; exact markText_ct _ (by omega) (by omega)) | with_reducible refine al_none rfl ?_ | (with_reducible first | apply aw_seq | apply aw_region | apply al_nil | apply aq_then | apply aw_block | apply aw_skip | apply aq_block) | (refine aw_cond_dt rfl rr_ dd_ ?_))
    refine aq_round (i + 1) (by omega) (by omega) (.of _ (Weak.envCons rfl (Weak.envCons (lk_int rfl (by rw [hks2])) Weak.envNil)) od_ ?_)
    rw [← hset]
    (try simp only [List.set_set])
    exact .refl _
  · obtain rfl : i = l.length := by omega
    rw [ptL_full, List.take_length]
    repeat' (first | ((with_reducible apply o_y); exact y_; rfl) | with_reducible refine al_none rfl ?_ | (with_reducible first | apply aw_seq | apply aw_region | apply al_nil | apply aq_then | apply aw_exit | apply aw_ret | apply aq_block_hit | apply aq_then_exit) | (refine aw_cond_df rfl rr_ dd_ ?_))
    exact aq_retm1 x_ rfl () trivial rfl (.cons _ _ _ _ (.nil R)) pk_ (.tmp _ _ rfl) rfl
theorem markEntryS_own (hst : Stable G) (s b : Nat) (l : List TEntry) (k : Int) (hn : l.length ≤ 1048576) (hk : 0 ≤ k ∧ k ≤ 1000000000000000) : CtM Tryz.prog G 45 [.ms s b 0 l.length, .int .i64 k] [(s, b, .row 4 ((l).map (TEntry.tw 0)))] (fun _ : Unit => True) (fun _ => [(s, b, .row 4 ((mkL mkEntry nxEntry k l).map (TEntry.tw 0)))]) (fun _ => .int .i64 (kL nxEntry k l)) := by
  refine ctm_enter Tryz.func45 rfl Tryz.ntmps45 rfl rfl rfl fun w0 R gs objsR hG hR => ?_
  obtain rfl := hR.inv1
  clear hR
  repeat' (first | ((with_reducible apply o_y); exact y_; rfl) | with_reducible refine al_none rfl ?_ | (with_reducible first | apply aw_seq | apply aw_region | apply al_nil | apply aq_then | apply aw_block))
  apply aw_loopk (X := Nat) [0, 1000000] (fun x => [(5, .int .i64 (x : Int)), (1, .int .i64 (kL nxEntry k (l.take x)))]) (fun x => (s, b, .row 4 ((ptL mkEntry nxEntry k l x).map (TEntry.tw 0))) :: R) (fun x => x ≤ l.length) (fun x => l.length - x) 0 (Nat.zero_le _)
  exact kp_; (repeat (first | exact Weak.envNil | refine Weak.envCons we_ ?_))
  · exact .refl _
  intro i hi
  try dsimp only
  have hq := kL_take (k := k) (i := i) hn (nxEntry_in l) hi
  by_cases hlt : i < l.length
  · have hrow : ((ptL mkEntry nxEntry k l i).map (TEntry.tw 0))[i]? = some ((TEntry.tw 0) l[i]) := by
      simp only [strR, List.getElem?_map, ptL_get hlt]; rfl
    have hset : ((ptL mkEntry nxEntry k l i).map (TEntry.tw 0)).set i ((TEntry.tw 0) (mkEntry (kL nxEntry k (l.take i)) l[i])) = (ptL mkEntry nxEntry k l (i + 1)).map (TEntry.tw 0) := by
      rw [← ptL_set hlt, List.map_set]
    have hks := kL_snoc (nx := nxEntry) (k := k) hlt
    have hrl : ((ptL mkEntry nxEntry k l i).map (TEntry.tw 0)).length = l.length := by simp [strR, ptL_len hi]
    generalize (ptL mkEntry nxEntry k l i).map (TEntry.tw 0) = rows at hrow hset hrl ⊢
    generalize kL nxEntry k (l.take i) = q at hq hset hks ⊢
    generalize l[i] = x at hrow hset hks
    replace hrow : rows[i]? = some [.int .i64 x.owner, .bool x.class_, .str x.selector, .int .i64 x.code] := hrow
    have hr1 : (rows.set i [.int .i64 q, .bool x.class_, .str x.selector, .int .i64 x.code])[i]? = some [.int .i64 q, .bool x.class_, .str x.selector, .int .i64 x.code] := by rw [List.getElem?_set_self (by omega)]
    have hks2 : kL nxEntry k (l.take (i + 1)) = q + 1 + 1 + 1 + 1 := hks
    repeat' (first | ((with_reducible apply o_y); exact y_; rfl) | refine e_store ?_ | ((with_reducible apply o_call); rfl; kernel_rfl; (repeat (first | exact Args.nil | ((with_reducible apply Args.cons); rfl; exact .same _))); exact hG; exact hst; exact markText_ct _ (by omega) (by omega)) | with_reducible refine al_none rfl ?_ | (with_reducible first | apply aw_seq | apply aw_region | apply al_nil | apply aq_then | apply aw_block | apply aw_skip | apply aq_block) | (refine aw_cond_dt rfl rr_ dd_ ?_))
    refine aq_round (i + 1) (by omega) (by omega) (.of _ (Weak.envCons rfl (Weak.envCons (lk_int rfl (by rw [hks2])) Weak.envNil)) od_ ?_)
    rw [← hset]
    (try simp only [List.set_set])
    exact .refl _
  · obtain rfl : i = l.length := by omega
    rw [ptL_full, List.take_length]
    repeat' (first | ((with_reducible apply o_y); exact y_; rfl) | with_reducible refine al_none rfl ?_ | (with_reducible first | apply aw_seq | apply aw_region | apply al_nil | apply aq_then | apply aw_exit | apply aw_ret | apply aq_block_hit | apply aq_then_exit) | (refine aw_cond_df rfl rr_ dd_ ?_))
    exact aq_retm1 x_ rfl () trivial rfl (.cons _ _ _ _ (.nil R)) pk_ (.tmp _ _ rfl) rfl
theorem markEditS_own (hst : Stable G) (s b : Nat) (l : List TEdit) (k : Int) (hn : l.length ≤ 1048576) (hk : 0 ≤ k ∧ k ≤ 1000000000000000) : CtM Tryz.prog G 20 [.ms s b 0 l.length, .int .i64 k] [(s, b, .row 3 ((l).map (TEdit.tw 0)))] (fun _ : Unit => True) (fun _ => [(s, b, .row 3 ((mkL mkEdit nxEdit k l).map (TEdit.tw 0)))]) (fun _ => .int .i64 (kL nxEdit k l)) := by
  refine ctm_enter Tryz.func20 rfl Tryz.ntmps20 rfl rfl rfl fun w0 R gs objsR hG hR => ?_
  obtain rfl := hR.inv1
  clear hR
  repeat' (first | ((with_reducible apply o_y); exact y_; rfl) | with_reducible refine al_none rfl ?_ | (with_reducible first | apply aw_seq | apply aw_region | apply al_nil | apply aq_then | apply aw_block))
  apply aw_loopk (X := Nat) [0, 1000000] (fun x => [(5, .int .i64 (x : Int)), (1, .int .i64 (kL nxEdit k (l.take x)))]) (fun x => (s, b, .row 3 ((ptL mkEdit nxEdit k l x).map (TEdit.tw 0))) :: R) (fun x => x ≤ l.length) (fun x => l.length - x) 0 (Nat.zero_le _)
  exact kp_; (repeat (first | exact Weak.envNil | refine Weak.envCons we_ ?_))
  · exact .refl _
  intro i hi
  try dsimp only
  have hq := kL_take (k := k) (i := i) hn (nxEdit_in l) hi
  by_cases hlt : i < l.length
  · have hrow : ((ptL mkEdit nxEdit k l i).map (TEdit.tw 0))[i]? = some ((TEdit.tw 0) l[i]) := by
      simp only [strR, List.getElem?_map, ptL_get hlt]; rfl
    have hset : ((ptL mkEdit nxEdit k l i).map (TEdit.tw 0)).set i ((TEdit.tw 0) (mkEdit (kL nxEdit k (l.take i)) l[i])) = (ptL mkEdit nxEdit k l (i + 1)).map (TEdit.tw 0) := by
      rw [← ptL_set hlt, List.map_set]
    have hks := kL_snoc (nx := nxEdit) (k := k) hlt
    have hrl : ((ptL mkEdit nxEdit k l i).map (TEdit.tw 0)).length = l.length := by simp [strR, ptL_len hi]
    generalize (ptL mkEdit nxEdit k l i).map (TEdit.tw 0) = rows at hrow hset hrl ⊢
    generalize kL nxEdit k (l.take i) = q at hq hset hks ⊢
    generalize l[i] = x at hrow hset hks
    replace hrow : rows[i]? = some [.int .i64 x.code, .int .i64 x.at_, .int .i64 x.kind] := hrow
    have hr1 : (rows.set i [.int .i64 q, .int .i64 x.at_, .int .i64 x.kind])[i]? = some [.int .i64 q, .int .i64 x.at_, .int .i64 x.kind] := by rw [List.getElem?_set_self (by omega)]
    have hks2 : kL nxEdit k (l.take (i + 1)) = q + 1 + 1 + 1 := hks
    repeat' (first | ((with_reducible apply o_y); exact y_; rfl) | refine e_store ?_ | with_reducible refine al_none rfl ?_ | (with_reducible first | apply aw_seq | apply aw_region | apply al_nil | apply aq_then | apply aw_block | apply aw_skip | apply aq_block) | (refine aw_cond_dt rfl rr_ dd_ ?_))
    refine aq_round (i + 1) (by omega) (by omega) (.of _ (Weak.envCons rfl (Weak.envCons (lk_int rfl (by rw [hks2])) Weak.envNil)) od_ ?_)
    rw [← hset]
    (try simp only [List.set_set])
    exact .refl _
  · obtain rfl : i = l.length := by omega
    rw [ptL_full, List.take_length]
    repeat' (first | ((with_reducible apply o_y); exact y_; rfl) | with_reducible refine al_none rfl ?_ | (with_reducible first | apply aw_seq | apply aw_region | apply al_nil | apply aq_then | apply aw_exit | apply aw_ret | apply aq_block_hit | apply aq_then_exit) | (refine aw_cond_df rfl rr_ dd_ ?_))
    exact aq_retm1 x_ rfl () trivial rfl (.cons _ _ _ _ (.nil R)) pk_ (.tmp _ _ rfl) rfl
theorem markClassInfoS_own (hst : Stable G) (s b : Nat) (l : List TClassInfo) (ps : List (Nat × Nat)) (hps : ps.length = l.length) (k : Int) (hn : l.length ≤ 1048576 ∧ ∀ y ∈ l, TClassInfo.small 1048576 y) (hk : 0 ≤ k ∧ k ≤ 100000000000000) :
    CtM Tryz.prog G 43 [.ms s b 0 l.length, .int .i64 k] ((s, b, .row 3 (nR clsMk l ps)) :: nO clsOb l ps) (fun _ : Unit => True) (fun _ => (s, b, .row 3 (nR clsMk (mkL mkClassInfo nxClassInfo k l) ps)) :: nO clsOb (mkL mkClassInfo nxClassInfo k l) ps) (fun _ => .int .i64 (kL nxClassInfo k l)) := by
  refine ctm_enter Tryz.func43 rfl Tryz.ntmps43 rfl rfl rfl fun w0 R gs objsR hG hR => ?_
  obtain rfl := hR.eq
  clear hR
  obtain ⟨hn, hsm⟩ := hn
  repeat' (first | ((with_reducible apply o_y); exact y_; rfl) | with_reducible refine al_none rfl ?_ | (with_reducible first | apply aw_seq | apply aw_region | apply al_nil | apply aq_then | apply aw_block))
  apply aw_loopk (X := Nat) [0, 1000000] (fun x => [(5, .int .i64 (x : Int)), (1, .int .i64 (kL nxClassInfo k (l.take x)))]) (fun x => (s, b, .row 3 (nR clsMk (ptL mkClassInfo nxClassInfo k l x) ps)) :: (nO clsOb (ptL mkClassInfo nxClassInfo k l x) ps ++ R)) (fun x => x ≤ l.length) (fun x => l.length - x) 0 (Nat.zero_le _)
  exact kp_; (repeat (first | exact Weak.envNil | refine Weak.envCons we_ ?_))
  · exact .refl _
  intro i hi
  try dsimp only
  have hq := kL_take (k := k) (i := i) hn (nxClassInfo_in hsm) hi
  by_cases hlt : i < l.length
  · obtain ⟨p, hp⟩ : ∃ p, ps[i]? = some p := ⟨_, List.getElem?_eq_getElem (by omega)⟩
    have hpl : i < (ptL mkClassInfo nxClassInfo k l i).length := by rw [ptL_len hi]; exact hlt
    have hrow := nR_get clsMk (ptL_get (mk := mkClassInfo) (nx := nxClassInfo) (k := k) hlt) hp
    have hset := nR_put clsMk (l := ptL mkClassInfo nxClassInfo k l i) (x := mkClassInfo (kL nxClassInfo k (l.take i)) l[i]) hp
    have hout := nO_out clsOb (ptL_get (mk := mkClassInfo) (nx := nxClassInfo) (k := k) hlt) hp
    have hin := nO_in clsOb (x := mkClassInfo (kL nxClassInfo k (l.take i)) l[i]) hpl hp
    rw [ptL_set hlt] at hset hin
    have hks := kL_snoc (nx := nxClassInfo) (k := k) hlt
    have hrl : (nR clsMk (ptL mkClassInfo nxClassInfo k l i) ps).length = l.length := by rw [nR_len _ (by rw [ptL_len hi]; exact hps), ptL_len hi]
    have hb := hsm _ (List.getElem_mem hlt)
    generalize (nO clsOb (ptL mkClassInfo nxClassInfo k l i) ps).eraseIdx i = E at hout hin
    generalize nO clsOb (ptL mkClassInfo nxClassInfo k l i) ps = N0 at hout ⊢
    generalize nR clsMk (ptL mkClassInfo nxClassInfo k l i) ps = rows at hrow hset hrl ⊢
    generalize kL nxClassInfo k (l.take i) = q at hq hset hks hin ⊢
    generalize l[i] = x at hrow hset hks hout hin hb
    replace hrow : rows[i]? = some [.str x.name, .int .i64 x.parent, .ms p.1 p.2 0 x.fields.length] := hrow
    have hr1 : (rows.set i [.str (markB (q)), .int .i64 x.parent, .ms p.1 p.2 0 x.fields.length])[i]? = some [.str (markB (q)), .int .i64 x.parent, .ms p.1 p.2 0 x.fields.length] := by rw [List.getElem?_set_self (by omega)]
    have hct := markStringS_own hst p.1 p.2 x.fields (q + 1 + 1) hb.2.1 (by omega)
    repeat' (first | ((with_reducible apply o_y); exact y_; rfl) | refine e_store ?_ | ((with_reducible apply o_call); rfl; kernel_rfl; (repeat (first | exact Args.nil | ((with_reducible apply Args.cons); rfl; exact .same _))); exact hG; exact hst; exact markText_ct _ (by omega) (by omega)) | with_reducible refine al_none rfl ?_ | (with_reducible first | apply aw_seq | apply aw_region | apply al_nil | apply aq_then | apply aw_block | apply aw_skip) | (refine aw_cond_dt rfl rr_ dd_ ?_))
    refine ao_pick (pick_out hout R) ?_
    repeat' (first | ((with_reducible apply o_y); exact y_; rfl) | ((with_reducible apply o_callM); rfl; kernel_rfl; (repeat (first | exact ArgsM.nil | ((with_reducible apply ArgsM.cons); rfl))); exact hG; exact hct; exact .cons _ _ _ _ (.nil _); intro y hy; refine al_app1 ?_) | with_reducible refine al_none rfl ?_ | (with_reducible first | apply aw_region | apply al_nil | apply aq_then | apply aq_block))
    refine aq_round (i + 1) (by omega) (by omega) (.of _ (Weak.envCons rfl (Weak.envCons (lk_int rfl (by rw [hks]; rfl)) Weak.envNil)) od_ ?_)
    rw [hset]
    simp only [List.set_set]
    have hcl : clsMk (mkClassInfo q x) p = [.str (markB (q)), .int .i64 (q + 1), .ms p.1 p.2 0 x.fields.length] := by
      unfold clsMk mkClassInfo
      dsimp only
      rw [mkL_len]
    rw [hcl]
    exact pick_in hin R
  · obtain rfl : i = l.length := by omega
    rw [ptL_full, List.take_length]
    repeat' (first | ((with_reducible apply o_y); exact y_; rfl) | with_reducible refine al_none rfl ?_ | (with_reducible first | apply aw_seq | apply aw_region | apply al_nil | apply aq_then | apply aw_exit | apply aw_ret | apply aq_block_hit | apply aq_then_exit) | (refine aw_cond_df rfl rr_ dd_ ?_))
    exact aq_retm1 x_ rfl () trivial rfl (.cons _ _ _ _ (.app _ R)) (.refl _) (.tmp _ _ rfl) rfl
theorem markCodeS_own (hst : Stable G) (s b : Nat) (l : List TCode) (ps : List (Nat × Nat)) (hps : ps.length = l.length) (k : Int) (hn : l.length ≤ 1048576 ∧ ∀ y ∈ l, TCode.small 1048576 y) (hk : 0 ≤ k ∧ k ≤ 100000000000000) :
    CtM Tryz.prog G 44 [.ms s b 0 l.length, .int .i64 k] ((s, b, .row 4 (nR codMk l ps)) :: nO codOb l ps) (fun _ : Unit => True) (fun _ => (s, b, .row 4 (nR codMk (mkL mkCode nxCode k l) ps)) :: nO codOb (mkL mkCode nxCode k l) ps) (fun _ => .int .i64 (kL nxCode k l)) := by
  refine ctm_enter Tryz.func44 rfl Tryz.ntmps44 rfl rfl rfl fun w0 R gs objsR hG hR => ?_
  obtain rfl := hR.eq
  clear hR
  obtain ⟨hn, hsm⟩ := hn
  repeat' (first | ((with_reducible apply o_y); exact y_; rfl) | with_reducible refine al_none rfl ?_ | (with_reducible first | apply aw_seq | apply aw_region | apply al_nil | apply aq_then | apply aw_block))
  apply aw_loopk (X := Nat) [0, 1000000] (fun x => [(5, .int .i64 (x : Int)), (1, .int .i64 (kL nxCode k (l.take x)))]) (fun x => (s, b, .row 4 (nR codMk (ptL mkCode nxCode k l x) ps)) :: (nO codOb (ptL mkCode nxCode k l x) ps ++ R)) (fun x => x ≤ l.length) (fun x => l.length - x) 0 (Nat.zero_le _)
  exact kp_; (repeat (first | exact Weak.envNil | refine Weak.envCons we_ ?_))
  · exact .refl _
  intro i hi
  try dsimp only
  have hq := kL_take (k := k) (i := i) hn (nxCode_in hsm) hi
  by_cases hlt : i < l.length
  · obtain ⟨p, hp⟩ : ∃ p, ps[i]? = some p := ⟨_, List.getElem?_eq_getElem (by omega)⟩
    have hpl : i < (ptL mkCode nxCode k l i).length := by rw [ptL_len hi]; exact hlt
    have hrow := nR_get codMk (ptL_get (mk := mkCode) (nx := nxCode) (k := k) hlt) hp
    have hset := nR_put codMk (l := ptL mkCode nxCode k l i) (x := mkCode (kL nxCode k (l.take i)) l[i]) hp
    have hout := nO_out codOb (ptL_get (mk := mkCode) (nx := nxCode) (k := k) hlt) hp
    have hin := nO_in codOb (x := mkCode (kL nxCode k (l.take i)) l[i]) hpl hp
    rw [ptL_set hlt] at hset hin
    have hks := kL_snoc (nx := nxCode) (k := k) hlt
    have hrl : (nR codMk (ptL mkCode nxCode k l i) ps).length = l.length := by rw [nR_len _ (by rw [ptL_len hi]; exact hps), ptL_len hi]
    have hb := hsm _ (List.getElem_mem hlt)
    generalize (nO codOb (ptL mkCode nxCode k l i) ps).eraseIdx i = E at hout hin
    generalize nO codOb (ptL mkCode nxCode k l i) ps = N0 at hout ⊢
    generalize nR codMk (ptL mkCode nxCode k l i) ps = rows at hrow hset hrl ⊢
    generalize kL nxCode k (l.take i) = q at hq hset hks hin ⊢
    generalize l[i] = x at hrow hset hks hout hin hb
    replace hrow : rows[i]? = some [.bool x.block, .int .i64 x.params, .int .i64 x.slots, .ms p.1 p.2 0 x.instrs.length] := hrow
    have hr1 : (rows.set i [.bool (decide ((q).tmod 3 = 0)), .int .i64 x.params, .int .i64 x.slots, .ms p.1 p.2 0 x.instrs.length])[i]? = some [.bool (decide ((q).tmod 3 = 0)), .int .i64 x.params, .int .i64 x.slots, .ms p.1 p.2 0 x.instrs.length] := by rw [List.getElem?_set_self (by omega)]
    have hct := markInstrS_own hst p.1 p.2 x.instrs (q + 1 + 1 + 1) hb.1 (by omega)
    repeat' (first | ((with_reducible apply o_y); exact y_; rfl) | refine e_store ?_ | with_reducible refine al_none rfl ?_ | (with_reducible first | apply aw_seq | apply aw_region | apply al_nil | apply aq_then | apply aw_block | apply aw_skip) | (refine aw_cond_dt rfl rr_ dd_ ?_))
    refine ao_pick (pick_out hout R) ?_
    repeat' (first | ((with_reducible apply o_y); exact y_; rfl) | ((with_reducible apply o_callM); rfl; kernel_rfl; (repeat (first | exact ArgsM.nil | ((with_reducible apply ArgsM.cons); rfl))); exact hG; exact hct; exact .cons _ _ _ _ (.nil _); intro y hy; refine al_app1 ?_) | with_reducible refine al_none rfl ?_ | (with_reducible first | apply aw_region | apply al_nil | apply aq_then | apply aq_block))
    refine aq_round (i + 1) (by omega) (by omega) (.of _ (Weak.envCons rfl (Weak.envCons (lk_int rfl (by rw [hks]; rfl)) Weak.envNil)) od_ ?_)
    rw [hset]
    simp only [List.set_set]
    have hcl : codMk (mkCode q x) p = [.bool (decide ((q).tmod 3 = 0)), .int .i64 (q + 1), .int .i64 (q + 1 + 1), .ms p.1 p.2 0 x.instrs.length] := by
      unfold codMk mkCode
      dsimp only
      rw [mkL_len]
    rw [hcl]
    exact pick_in hin R
  · obtain rfl : i = l.length := by omega
    rw [ptL_full, List.take_length]
    repeat' (first | ((with_reducible apply o_y); exact y_; rfl) | with_reducible refine al_none rfl ?_ | (with_reducible first | apply aw_seq | apply aw_region | apply al_nil | apply aq_then | apply aw_exit | apply aw_ret | apply aq_block_hit | apply aq_then_exit) | (refine aw_cond_df rfl rr_ dd_ ?_))
    exact aq_retm1 x_ rfl () trivial rfl (.cons _ _ _ _ (.app _ R)) (.refl _) (.tmp _ _ rfl) rfl
end
end Go.Proofs.YtfchjaoeogolnaaGreatDoor
/- A code base that the call owns: its copy (toCodeBase), its marks (markCodeBase), and how it is looked at. -/
namespace Go.Proofs.YtfchjaoeogolnaaGreatDoor
set_option maxRecDepth 20000
open Go Go.RowKit
def clsO (l : List TClassInfo) (y : (Nat × Nat) × List (Nat × Nat)) : Objs := (y.1.1, y.1.2, .row 3 (nR clsMk l y.2)) :: nO clsOb l y.2
def codO (l : List TCode) (y : (Nat × Nat) × List (Nat × Nat)) : Objs := (y.1.1, y.1.2, .row 4 (nR codMk l y.2)) :: nO codOb l y.2
def entO (l : List TEntry) (y : Nat × Nat) : Objs := [(y.1, y.2, .row 4 (l.map (TEntry.tw 0)))]
/-- The places of a code base. -/
def CbP : Type := ((Nat × Nat) × List (Nat × Nat)) × ((Nat × Nat) × List (Nat × Nat)) × (Nat × Nat)
def cbO (x : TCodeBase) (y : CbP) : Objs := clsO x.classes y.1 ++ (codO x.codes y.2.1 ++ entO x.entries y.2.2)
def cbC (x : TCodeBase) (y : CbP) : List TV := [.ms y.1.1.1 y.1.1.2 0 x.classes.length, .ms y.2.1.1.1 y.2.1.1.2 0 x.codes.length, .ms y.2.2.1 y.2.2.2 0 x.entries.length, .int .i64 x.main]
def cbI (x : TCodeBase) (y : CbP) : Prop := y.1.2.length = x.classes.length ∧ y.2.1.2.length = x.codes.length
theorem pick_box2 (A : Objs) (x z : Nat × Nat × TObj) (R : Objs) : Pick (x :: z :: (A ++ R)) (A ++ (x :: z :: R)) := .perm (by
  have h1 : (A ++ (x :: z :: R)).Perm (x :: (A ++ (z :: R))) := List.perm_middle
  have h2 : (A ++ (z :: R)).Perm (z :: (A ++ R)) := List.perm_middle
  exact (h1.trans (h2.cons x)).symm)
theorem pick_unbox2 (A : Objs) (x z : Nat × Nat × TObj) (R : Objs) : Pick (A ++ (x :: z :: R)) (x :: z :: (A ++ R)) := .perm (by
  have h1 : (A ++ (x :: z :: R)).Perm (x :: (A ++ (z :: R))) := List.perm_middle
  have h2 : (A ++ (z :: R)).Perm (z :: (A ++ R)) := List.perm_middle
  exact h1.trans (h2.cons x))
theorem perm_cb (A B C R : Objs) : ((A ++ (B ++ C)) ++ R).Perm (C ++ (B ++ (A ++ R))) := by
  have h1 : (A ++ (B ++ C)).Perm (C ++ (B ++ A)) := by
    have : (A ++ (B ++ C)).Perm ((B ++ C) ++ A) := List.perm_append_comm
    refine this.trans ?_
    have h2 : ((B ++ C) ++ A).Perm ((C ++ B) ++ A) := (List.perm_append_comm).append_right A
    rw [List.append_assoc] at h2
    rw [List.append_assoc] at h2 ⊢
    exact h2
  have h3 := h1.append_right R
  simpa [List.append_assoc] using h3
theorem pick_end (A B C R : Objs) : Pick (C ++ (A ++ (B ++ R))) (B ++ (A ++ (C ++ R))) := .perm (by
  have h1 : (C ++ (A ++ B)).Perm (B ++ (A ++ C)) := by
    have h := (perm_cb C A B [])
    simpa using h
  simpa [List.append_assoc] using h1.append_right R)
theorem pick_three (A B C R : Objs) : Pick (A ++ (B ++ (C ++ R))) (C ++ (A ++ (B ++ R))) := .perm (by
  have h1 : (A ++ (B ++ C)).Perm (C ++ (A ++ B)) := by
    rw [← List.append_assoc]
    exact List.perm_append_comm
  simpa [List.append_assoc] using h1.append_right R)
section
variable {G : World → Prop}
theorem toCodeBase_own (hst : Stable G) (lo : Nat) (x : TCodeBase) (hb : x.small 1048576) : CtM Tryz.prog G 10 [.agg (x.tw lo)] [] (cbI x) (cbO x) (fun y => .agg (cbC x y)) := by
  refine ctm_enter Tryz.func10 rfl Tryz.ntmps10 rfl rfl rfl fun w0 R gs objsR hG hR => ?_
  obtain rfl := hR.inv0
  clear hR
  have c1 := toClassInfoS_own hst lo x.classes hb.1
  have c2 := toCodeS_own hst lo x.codes hb.2.1
  have c3 := toEntryS_own hst lo x.entries hb.2.2
  unfold TCodeBase.tw
  repeat' (first | ((with_reducible apply o_y); exact y_; rfl) | refine e_box ?_ | (refine e_alloc ?_; intro ss bb) | refine e_storep ?_ | ((with_reducible apply o_callM); rfl; kernel_rfl; (repeat (first | exact ArgsM.nil | ((with_reducible apply ArgsM.cons); rfl))); exact hG; (first | exact c1 | exact c2 | exact c3); exact .nil _; intro y hy; refine al_pick (pick_box2 _ _ _ _) ?_) | with_reducible refine al_none rfl ?_ | (with_reducible first | apply aw_seq | apply aw_region | apply al_nil | apply aq_then | apply aw_ret))
  rename_i yc hyc yd hyd
  refine aq_retm1 (t1 := .agg [.ms yc.1.1 yc.1.2 0 x.classes.length, .ms yd.1.1 yd.1.2 0 x.codes.length, .ms y.1 y.2 0 x.entries.length, .int .i64 x.main]) x_ rfl (yc, yd, y) ⟨hyc, hyd⟩ rfl (.app _ R) (.drop (.drop (.perm (perm_cb _ _ _ R)))) (.cell _ _ _ _ _ rfl mm_ (by kernel_rfl) (by kernel_rfl) (by kernel_rfl)) rfl
def mkCodeBase (k : Int) (x : TCodeBase) : TCodeBase := ⟨mkL mkClassInfo nxClassInfo k x.classes, mkL mkCode nxCode (kL nxClassInfo k x.classes) x.codes, mkL mkEntry nxEntry (kL nxCode (kL nxClassInfo k x.classes) x.codes) x.entries, x.main⟩
def nxCodeBase (k : Int) (x : TCodeBase) : Int := kL nxEntry (kL nxCode (kL nxClassInfo k x.classes) x.codes) x.entries
theorem nxCodeBase_in {x : TCodeBase} (hb : x.small 1048576) (k : Int) : k ≤ nxCodeBase k x ∧ nxCodeBase k x ≤ k + 6000000000000 := by
  have h1 := kL_take (k := k) (i := x.classes.length) hb.1.1 (nxClassInfo_in hb.1.2) (Nat.le_refl _)
  have h2 := kL_take (k := kL nxClassInfo k x.classes) (i := x.codes.length) hb.2.1.1 (nxCode_in hb.2.1.2) (Nat.le_refl _)
  have h3 := kL_take (k := kL nxCode (kL nxClassInfo k x.classes) x.codes) (i := x.entries.length) hb.2.2.1 (nxEntry_in x.entries) (Nat.le_refl _)
  rw [List.take_length] at h1 h2 h3
  unfold nxCodeBase
  omega
theorem markCodeBase_own (hst : Stable G) (x : TCodeBase) (y : CbP) (hy : cbI x y) (hb : x.small 1048576) (k : Int) (hk : 0 ≤ k ∧ k ≤ 50000000000000) :
    CtM Tryz.prog G 14 [.agg (cbC x y), .int .i64 k] (cbO x y) (fun _ : Unit => True) (fun _ => cbO (mkCodeBase k x) y) (fun _ => .int .i64 (nxCodeBase k x)) := by
  refine ctm_enter Tryz.func14 rfl Tryz.ntmps14 rfl rfl rfl fun w0 R gs objsR hG hR => ?_
  obtain rfl := hR.eq
  clear hR
  have h1 := kL_take (k := k) (i := x.classes.length) hb.1.1 (nxClassInfo_in hb.1.2) (Nat.le_refl _)
  have h2 := kL_take (k := kL nxClassInfo k x.classes) (i := x.codes.length) hb.2.1.1 (nxCode_in hb.2.1.2) (Nat.le_refl _)
  rw [List.take_length] at h1 h2
  have c1 := markClassInfoS_own hst y.1.1.1 y.1.1.2 x.classes y.1.2 hy.1 k hb.1 (by omega)
  have c2 := markCodeS_own hst y.2.1.1.1 y.2.1.1.2 x.codes y.2.1.2 hy.2 (kL nxClassInfo k x.classes) hb.2.1 (by omega)
  have c3 := markEntryS_own hst y.2.2.1 y.2.2.2 x.entries (kL nxCode (kL nxClassInfo k x.classes) x.codes) hb.2.2.1 (by omega)
  have e0 : cbO x y ++ R = clsO x.classes y.1 ++ (codO x.codes y.2.1 ++ (entO x.entries y.2.2 ++ R)) := by unfold cbO; simp [List.append_assoc]
  have e1 : cbO (mkCodeBase k x) y ++ R = clsO (mkCodeBase k x).classes y.1 ++ (codO (mkCodeBase k x).codes y.2.1 ++ (entO (mkCodeBase k x).entries y.2.2 ++ R)) := by unfold cbO; simp [List.append_assoc]
  rw [e0]
  unfold cbC
  repeat' (first | ((with_reducible apply o_y); exact y_; rfl) | refine e_box ?_ | ((with_reducible apply o_callM); rfl; kernel_rfl; (repeat (first | exact ArgsM.nil | ((with_reducible apply ArgsM.cons); rfl))); exact hG; exact c1; exact .app _ _; intro z hz; refine al_pick (pick_rot _ _ _) ?_) | ((with_reducible apply o_callM); rfl; kernel_rfl; (repeat (first | exact ArgsM.nil | ((with_reducible apply ArgsM.cons); rfl))); exact hG; exact c2; exact .app _ _; intro z hz; refine al_pick (pick_end _ _ _ _) ?_) | ((with_reducible apply o_callM); rfl; kernel_rfl; (repeat (first | exact ArgsM.nil | ((with_reducible apply ArgsM.cons); rfl))); exact hG; exact c3; exact .app _ _; intro z hz) | with_reducible refine al_none rfl ?_ | (with_reducible first | apply aw_seq | apply aw_region | apply al_nil | apply aq_then | apply aw_ret))
  refine aq_retm1 x_ rfl () trivial rfl (.app _ R) ?_ (.tmp _ _ rfl) rfl
  rw [e1]
  exact pick_three _ _ _ R
end
end Go.Proofs.YtfchjaoeogolnaaGreatDoor
/- An owned code base as it looks to who only reads it. -/
namespace Go.Proofs.YtfchjaoeogolnaaGreatDoor
open Go Go.RowKit
def ViewL (objs : Objs) (l l' : List TV) : Prop := l'.length = l.length ∧ ∀ (j : Nat) (t t' : TV), l[j]? = some t → l'[j]? = some t' → View objs t t'
theorem ViewL.nil {objs : Objs} : ViewL objs [] [] := ⟨rfl, by simp⟩
theorem ViewL.cons {objs : Objs} {t t' : TV} {l l' : List TV} (h : View objs t t') (hr : ViewL objs l l') : ViewL objs (t :: l) (t' :: l') := ⟨by simp [hr.1], fun j u u' h1 h2 => by
  cases j with
  | zero => simp at h1 h2; subst h1; subst h2; exact h
  | succ j => exact hr.2 j u u' (by simpa using h1) (by simpa using h2)⟩
theorem ViewL.append {objs : Objs} {a a' b b' : List TV} (h : ViewL objs a a') (k : ViewL objs b b') : ViewL objs (a ++ b) (a' ++ b') := ⟨by simp [h.1, k.1], fun j u u' h1 h2 => by
  by_cases hj : j < a.length
  · rw [List.getElem?_append_left hj] at h1
    rw [List.getElem?_append_left (by rw [h.1]; exact hj)] at h2
    exact h.2 j u u' h1 h2
  · rw [List.getElem?_append_right (by omega)] at h1
    rw [List.getElem?_append_right (by rw [h.1]; omega)] at h2
    rw [h.1] at h2
    exact k.2 _ u u' h1 h2⟩
theorem viewL_zip {α : Type} {objs : Objs} {f : α → List TV} {mk : α → Nat × Nat → List TV} {ob : α → TObj} (h : ∀ x p, (p.1, p.2, ob x) ∈ objs → ViewL objs (mk x p) (f x)) : ∀ (l : List α) (ps : List (Nat × Nat)), ps.length = l.length → (∀ o ∈ nO ob l ps, o ∈ objs) → ViewL objs (nR mk l ps).flatten (l.map f).flatten ∧ (l.map f).map List.length = (nR mk l ps).map List.length
  | [], ps, hl, _ => by simp [nR, ViewL]
  | x :: l, [], hl, _ => by simp at hl
  | x :: l, p :: ps, hl, hm => by
    have h1 := h x p (hm _ (by simp [nO]))
    obtain ⟨h2, h3⟩ := viewL_zip h l ps (by simpa using hl) (fun o ho => hm o (by simp only [nO, List.zipWith_cons_cons, List.mem_cons]; exact .inr ho))
    exact ⟨h1.append h2, by
      show (f x).length :: (l.map f).map List.length = (mk x p).length :: (nR mk l ps).map List.length
      rw [h3, h1.1]⟩
theorem view_zip {α : Type} {objs : Objs} {f : α → List TV} {mk : α → Nat × Nat → List TV} {ob : α → TObj} {m s b : Nat} (h : ∀ x p, (p.1, p.2, ob x) ∈ objs → ViewL objs (mk x p) (f x)) {l : List α} {ps : List (Nat × Nat)} (hl : ps.length = l.length) (hm : (s, b, TObj.row m (nR mk l ps)) ∈ objs) (hp : ∀ o ∈ nO ob l ps, o ∈ objs) : View objs (.ms s b 0 l.length) (.sl 0 m (l.map f)) := by
  obtain ⟨h1, h2⟩ := viewL_zip h l ps hl hp
  have h3 := nR_len mk hl
  exact .ms s b 0 l.length m _ _ _ hm (by omega) rfl (by rw [List.drop_zero, List.take_of_length_le (by omega)]; exact h2) (by rw [List.drop_zero, List.take_of_length_le (by omega)]; exact h1.2)
theorem view_cls {objs : Objs} (x : TClassInfo) (p : Nat × Nat) (h : (p.1, p.2, clsOb x) ∈ objs) : ViewL objs (clsMk x p) (x.tw 0) := .cons (.same _) (.cons (.same _) (.cons (.msAll h (strR_len _)) .nil))
theorem view_cod {objs : Objs} (x : TCode) (p : Nat × Nat) (h : (p.1, p.2, codOb x) ∈ objs) : ViewL objs (codMk x p) (x.tw 0) := .cons (.same _) (.cons (.same _) (.cons (.same _) (.cons (.msAll h (by simp)) .nil)))
theorem view_cb {objs : Objs} {x : TCodeBase} {y : CbP} (hy : cbI x y) (hm : ∀ o ∈ cbO x y, o ∈ objs) : View objs (.agg (cbC x y)) (.agg (x.tw 0)) := by
  have h1 : ∀ o ∈ clsO x.classes y.1, o ∈ objs := fun o h => hm o (List.mem_append_left _ h)
  have h2 : ∀ o ∈ codO x.codes y.2.1, o ∈ objs := fun o h => hm o (List.mem_append_right _ (List.mem_append_left _ h))
  have h3 : ∀ o ∈ entO x.entries y.2.2, o ∈ objs := fun o h => hm o (List.mem_append_right _ (List.mem_append_right _ h))
  have h := (ViewL.cons (view_zip view_cls hy.1 (h1 _ List.mem_cons_self) (fun o h => h1 o (List.mem_cons_of_mem _ h))) (ViewL.cons (view_zip view_cod hy.2 (h2 _ List.mem_cons_self) (fun o h => h2 o (List.mem_cons_of_mem _ h))) (ViewL.cons (View.msAll (len := x.entries.length) (h3 _ List.mem_cons_self) (by simp)) (ViewL.cons (View.same (.int .i64 x.main)) ViewL.nil))))
  exact View.agg (cbC x y) (x.tw 0) h.1 h.2
end Go.Proofs.YtfchjaoeogolnaaGreatDoor
/- The laws' check of their marks. Written by gen_mk.py. -/
namespace Go.Proofs.YtfchjaoeogolnaaGreatDoor
set_option maxRecDepth 20000
open Go Go.RowKit
section
variable {G : World → Prop}
set_option maxHeartbeats 1000000 in
theorem heldEditS_m (hst : Stable G) (lo : Nat) (l : List TEdit) (k : Int) (hn : l.length ≤ 1048576) (hk : 0 ≤ k ∧ k ≤ 1000000000000000) : Ct Tryz.prog G 21 [.sl lo 3 ((mkL mkEdit nxEdit k l).map (TEdit.tw lo)), .int .i64 k] (fun _ => .int .i64 (kL nxEdit k l)) := by
  refine ct_enter Tryz.func21 rfl Tryz.ntmps21 rfl rfl fun w0 _ hG => ?_
  have hrl : ((mkL mkEdit nxEdit k l).map (TEdit.tw lo)).length = l.length := by simp [strR, mkL_len]
  have hget := fun i (h : i < l.length) => mkL_get (mk := mkEdit) (nx := nxEdit) (k := k) h
  have hgr : ∀ i (h : i < l.length), ((mkL mkEdit nxEdit k l).map (TEdit.tw lo))[i]? = some [.int .i64 (kL nxEdit k (l.take i)), .int .i64 (kL nxEdit k (l.take i) + 1), .int .i64 (kL nxEdit k (l.take i) + 1 + 1)] := fun i h => by
    simp only [strR, List.getElem?_map, hget i h]; rfl
  generalize (mkL mkEdit nxEdit k l).map (TEdit.tw lo) = rows at hrl hgr ⊢
  repeat' (first | ((with_reducible apply o_y); exact y_; rfl) | with_reducible refine al_none rfl ?_ | (with_reducible first | apply aw_seq | apply aw_region | apply al_nil | apply aq_then | apply aw_block))
  apply aw_loopk (X := Nat) [0] (fun x => [(5, .int .i64 (x : Int)), (1, .int .i64 (kL nxEdit k (l.take x)))]) (fun _ => []) (fun x => x ≤ l.length) (fun x => l.length - x) 0 (Nat.zero_le _)
  exact kp_; (repeat (first | exact Weak.envNil | refine Weak.envCons we_ ?_))
  · exact .refl _
  intro i hi
  try dsimp only
  have hq := kL_take (k := k) (i := i) hn (nxEdit_in l) hi
  by_cases hlt : i < l.length
  · have hrow := hgr i hlt
    have hks : kL nxEdit k (l.take (i + 1)) = kL nxEdit k (l.take i) + 1 + 1 + 1 := kL_snoc hlt
    generalize kL nxEdit k (l.take i) = q at hq hrow hks ⊢
    have hi0 : ¬ (q) ≠ (q) := fun h => h rfl
    have hi1 : ¬ (q + 1) ≠ (q + 1) := fun h => h rfl
    have hi2 : ¬ (q + 1 + 1) ≠ (q + 1 + 1) := fun h => h rfl
    repeat' (first | ((with_reducible apply o_y); exact y_; rfl) | with_reducible refine al_none rfl ?_ | (with_reducible first | apply aw_seq | apply aw_region | apply al_nil | apply aq_then | apply aw_block | apply aw_skip | apply aq_block) | (refine aw_cond_dt rfl rr_ dd_ ?_) | (refine aw_cond_df rfl rr_ dd_ ?_))
    all_goals first
      | exact aq_round (i + 1) (by omega) (by omega) (.of _ (Weak.envCons rfl (Weak.envCons (lk_int rfl (by rw [hks])) Weak.envNil)) od_ pk_)
      | (exfalso; simp_all; done)
  · obtain rfl : i = l.length := by omega
    rw [List.take_length]
    repeat' (first | ((with_reducible apply o_y); exact y_; rfl) | with_reducible refine al_none rfl ?_ | (with_reducible first | apply aw_seq | apply aw_region | apply al_nil | apply aq_then | apply aw_exit | apply aw_ret | apply aq_block_hit | apply aq_then_exit) | (refine aw_cond_df rfl rr_ dd_ ?_))
    refine aq_ret1 x_ rfl (.tmp _ _ rfl) (fun _ => ?_)
    exact Fin.flat rfl
end
end Go.Proofs.YtfchjaoeogolnaaGreatDoor
/- The law FnExactIsVerified, walked. -/
namespace Go.Proofs.YtfchjaoeogolnaaGreatDoor
set_option maxRecDepth 20000
open Go Go.RowKit
/-- What a code base is to the walk, and its sizes. -/
theorem atL_tvs {α : Type} {R : PT → α → Prop} {f : α → List TV} {l : List PT} {xs : List α} (h : AtL R l xs) (hf : ∀ t x, R t x → t.tvs = f x) : PT.rowsL l = xs.map f := by
  rw [PT.rowsL_map]
  apply List.ext_getElem?
  intro i
  simp only [List.getElem?_map]
  by_cases hi : i < l.length
  · have hj : i < xs.length := by rw [← h.1]; exact hi
    rw [List.getElem?_eq_getElem hi, List.getElem?_eq_getElem hj]
    simp only [Option.map_some]
    rw [hf _ _ (h.get hi)]
  · rw [List.getElem?_eq_none (by omega), List.getElem?_eq_none (by rw [← h.1]; omega)]; rfl
theorem classInfo_tvs {t : PT} {x : TClassInfo} (h : TClassInfoAt t x) : t.tvs = x.tw 0 := by
  obtain ⟨A, c, rfl⟩ := h
  simp [PT.tvs, PT.tvsL, TClassInfo.tw, strR, PT.rowsL_map, Function.comp_def]
theorem code_tvs {t : PT} {x : TCode} (h : TCodeAt t x) : t.tvs = x.tw 0 := by
  obtain ⟨A, c, rfl⟩ := h
  simp [PT.tvs, PT.tvsL, TCode.tw, TInstr.pt, TInstr.tw, PT.rowsL_map, Function.comp_def]
theorem codeBase_tvs {t : PT} {x : TCodeBase} (h : TCodeBaseAt t x) : t.tvs = x.tw 0 := by
  obtain ⟨A0, c0, l0, A1, c1, l1, A2, c2, h0, h1, rfl⟩ := h
  simp only [PT.tvs, PT.tvsL, TCodeBase.tw, atL_tvs h0 (fun _ _ => classInfo_tvs), atL_tvs h1 (fun _ _ => code_tvs), PT.rowsL_map, List.map_map, List.append_nil, List.cons_append, List.nil_append]
  rfl
theorem classInfo_small {w : World} {S : Nat → Prop} {t : PT} {x : TClassInfo} (h : TClassInfoAt t x) (hs : Seen w S t) (hx : x.sane) : TClassInfo.small 9223372036854775807 x := by
  obtain ⟨A, c, rfl⟩ := h
  simp only [Seen, SeenL] at hs
  have h1 := hs.2.2.1.1
  have h2 := hs.2.2.1.2.1
  simp only [List.length_map] at h1
  exact ⟨hx.1, Nat.le_trans h1 h2, hx.2.2⟩
theorem code_small {w : World} {S : Nat → Prop} {t : PT} {x : TCode} (h : TCodeAt t x) (hs : Seen w S t) (hx : x.sane) : TCode.small 9223372036854775807 x := by
  obtain ⟨A, c, rfl⟩ := h
  simp only [Seen, SeenL] at hs
  have h1 := hs.2.2.2.1.1
  have h2 := hs.2.2.2.1.2.1
  simp only [List.length_map] at h1
  exact ⟨Nat.le_trans h1 h2, fun y hy => (hx.2.2 y hy).2.2.2⟩
theorem seenL_get {w : World} {S : Nat → Prop} : ∀ {l : List PT}, SeenL w S l → ∀ t ∈ l, Seen w S t
  | _ :: _, h, t, ht => by
    simp only [SeenL] at h
    rcases List.mem_cons.1 ht with rfl | ht
    · exact h.1
    · exact seenL_get h.2 t ht
theorem atL_small {α : Type} {R : PT → α → Prop} {w : World} {S : Nat → Prop} {l : List PT} {xs : List α} (h : AtL R l xs) (hs : SeenL w S l) {p q : α → Prop} (hp : ∀ t x, R t x → Seen w S t → p x → q x) (ha : ∀ x ∈ xs, p x) : ∀ x ∈ xs, q x := fun x hx => by
  obtain ⟨i, hi, rfl⟩ := List.getElem_of_mem hx
  have hj : i < l.length := by rw [h.1]; exact hi
  exact hp l[i] _ (h.get hj) (seenL_get hs _ (List.getElem_mem hj)) (ha _ hx)
theorem codeBase_small {w : World} {S : Nat → Prop} {t : PT} {x : TCodeBase} (h : TCodeBaseAt t x) (hs : Seen w S t) (hx : x.sane) : TCodeBase.small 9223372036854775807 x := by
  obtain ⟨A0, c0, l0, A1, c1, l1, A2, c2, h0, h1, rfl⟩ := h
  simp only [Seen, SeenL] at hs
  obtain ⟨⟨a1, a2, _, _, a5⟩, ⟨b1, b2, _, _, b5⟩, ⟨d1, d2, _, _, _⟩, _⟩ := hs
  simp only [List.length_map] at d1
  exact ⟨⟨by rw [← h0.1]; exact Nat.le_trans a1 a2, atL_small h0 a5 (fun _ _ => classInfo_small) hx.1⟩, ⟨by rw [← h1.1]; exact Nat.le_trans b1 b2, atL_small h1 b5 (fun _ _ => code_small) hx.2.1⟩, ⟨Nat.le_trans d1 d2, fun y hy => (hx.2.2.1 y hy).2.1⟩⟩
end Go.Proofs.YtfchjaoeogolnaaGreatDoor
/- The law FnExactEditsOf, walked. -/
namespace Go.Proofs.YtfchjaoeogolnaaGreatDoor
set_option maxRecDepth 20000
open Go Go.RowKit
theorem edits_flat (l : List TEdit) : ∀ t ∈ (l.map (TEdit.tw 0)).flatten, t.flat = true := fun t ht => by
  simp only [List.mem_flatten, List.mem_map] at ht
  obtain ⟨r, ⟨x, _, rfl⟩, h2⟩ := ht
  simp only [TEdit.tw, List.mem_cons, List.not_mem_nil, or_false] at h2
  rcases h2 with rfl | rfl | rfl <;> rfl
theorem edits_new1 (l : List TEdit) : ∀ y : Nat × Nat, True → (∀ s b o, (s, b, o) ∈ [(y.1, y.2, TObj.row 3 (l.map (TEdit.tw 0)))] → ObjNew [(y.1, y.2, TObj.row 3 (l.map (TEdit.tw 0)))] o) ∧ NewOk [(y.1, y.2, TObj.row 3 (l.map (TEdit.tw 0)))] (.ms y.1 y.2 0 l.length) := fun y _ =>
  ⟨fun s b o h => by
    simp only [List.mem_singleton, Prod.mk.injEq] at h
    obtain ⟨_, _, rfl⟩ := h
    exact flat_new (edits_flat _), .ms _ _ _ _ _ _ List.mem_cons_self⟩
set_option maxRecDepth 4000 in
set_option maxHeartbeats 4000000 in
theorem fnExactEditsOf_ct (x : TCodeBase) (hb : x.small 9223372036854775807) : Ct Tryz.prog GL 4 [.agg (x.tw 0)] (fun _ => .bool true) := by
  have hst := GL_st
  have hto := fun hx => toCodeBase_ct hst 0 x hx
  have htw := fun hx => toCodeBase_own hst 0 x hx
  refine ct_enter Tryz.func4 rfl Tryz.ntmps4 rfl rfl fun w0 _ hG => ?_
  have hsp := fun hx => specEditsOf_ct w0.heap.size x hx
  have him := fun (hx : x.small 1048576) => implEditsOf_ctm hst 0 x hx
  have him2 := fun (hx : x.small 1048576) => implEditsOf_ctm hst w0.heap.size x hx
  have heq := fun hx => eqCodeBase_ct hst 0 w0.heap.size x hx
  have hmk := fun (hx : x.small 1048576) y hy => markCodeBase_own hst x y hy hx 1 (by omega)
  have hsm := edsB_len x
  have hvw : ∀ {objs : Objs} {y : CbP}, cbI x y → (∀ o ∈ cbO x y, o ∈ objs) → View objs (.agg (cbC x y)) (.agg (x.tw 0)) := fun h1 h2 => view_cb h1 h2
  have hnk := fun hx => nxCodeBase_in (x := x) hx 1
  generalize edsB x = sels at hsp him him2 hsm
  have hnew := edits_new1 sels
  have heqs := fun l1 l2 => eqEditS_ct (G := GL) hst l1 l2 sels ⟨by omega, fun _ _ => trivial⟩
  have hsl := TEdit.len 0 sels
  unfold TCodeBase.tw at hto htw hsp heq hvw ⊢
  repeat' (first | ((with_reducible apply o_y); exact y_; rfl) | refine e_box ?_ | ((with_reducible apply o_callM); rfl; kernel_rfl; (repeat (first | exact ArgsM.nil | ((with_reducible apply ArgsM.cons); rfl))); exact hG; exact szCodeBase_ct hst _ x _ (by omega) hb; exact .nil _; intro y hy; refine al_app0 ?_) | with_reducible refine aw_hold_r (id := 3) ?_ | with_reducible refine al_none rfl ?_ | (with_reducible first | apply aw_seq | apply aw_region | apply al_nil | apply aq_then))
  refine ⟨?_⟩
  by_cases hneg : y < 0
  · repeat' (first | ((with_reducible apply o_y); exact y_; rfl) | with_reducible refine al_none rfl ?_ | (with_reducible first | apply aw_seq | apply aw_region | apply al_nil | apply aq_then | apply aw_ret | apply aq_then_ret) | (refine aw_cond_dt rfl rr_ dd_ ?_))
    refine aq_ret1 x_ rfl (.tmp _ _ rfl) (fun _ => ?_)
    exact Fin.flat rfl
  have hx := hy.2.2 (by omega)
  replace hto := hto hx
  replace htw := htw hx
  replace hsp := hsp hx
  replace him := him hx
  replace him2 := him2 hx
  replace heq := heq hx
  replace hnk := hnk hx
  replace hmk := hmk hx
  clear hb hy
  repeat' (first | ((with_reducible apply o_y); exact y_; rfl) | refine e_call hG hst (hto) ?_ | refine e_call hG hst (hsp) ?_ | with_reducible refine aw_hold_r (id := 6) ?_ | with_reducible refine al_none rfl ?_ | (with_reducible first | apply aw_seq | apply aw_region | apply al_nil | apply aq_then | apply aw_skip) | (refine aw_cond_df rfl rr_ dd_ ?_))
  refine ⟨?_⟩
  repeat' (first | ((with_reducible apply o_y); exact y_; rfl) | ((with_reducible apply o_callM); rfl; kernel_rfl; (repeat (first | exact ArgsM.nil | ((with_reducible apply ArgsM.cons); rfl))); exact hG; exact htw; exact .nil _; intro y hy) | (refine e_alloc ?_; intro ss bb) | refine e_storep ?_ | with_reducible refine aw_hold_r (id := 7) ?_ | with_reducible refine al_none rfl ?_ | (with_reducible first | apply aw_seq | apply aw_region | apply al_nil | apply aq_then))
  refine ⟨?_⟩
  generalize ss = s5; generalize bb = b5
  have hl1 := hmk y hy
  clear hmk
  unfold cbC at hl1 hvw
  repeat' (first | ((with_reducible apply o_y); exact y_; rfl) | ((with_reducible apply o_callOV); rfl; kernel_rfl; exact hG; exact hst; exact him; (repeat (first | exact Args.nil | ((with_reducible apply Args.cons); rfl; exact hvw hy (fun o h => List.mem_cons_of_mem _ (List.mem_append_left _ h))))); exact hnew; rintro ⟨ss, bb⟩ -; refine al_app1 ?_) | with_reducible refine aw_hold_r (id := 8) ?_ | with_reducible refine al_none rfl ?_ | (with_reducible first | apply aw_seq | apply aw_region | apply al_nil | apply aq_then))
  refine ⟨?_⟩
  generalize ss = sg; generalize bb = bg
  repeat' (first | ((with_reducible apply o_y); exact y_; rfl) | refine e_callv hG hst (heqs 0 w0.heap.size) ?_ | with_reducible refine aw_draw (by kernel_rfl) (by kernel_rfl) ?_ | with_reducible refine dr_nil ?_ | with_reducible refine dr_none rfl ?_ | ((with_reducible apply d_y); exact y_; rfl) | refine e_calld hG hst (hto) ?_ | ((with_reducible apply d_callV); rfl; kernel_rfl; exact hG; exact hst; exact heq; (repeat (first | exact Args.nil | ((with_reducible apply Args.cons); rfl; (first | (with_reducible exact View.same _) | exact hvw hy (fun o h => List.mem_cons_of_mem _ (List.mem_cons_of_mem _ (List.mem_append_left _ h)))))))) | with_reducible refine aw_hold_r (id := 13) ?_ | with_reducible refine al_none rfl ?_ | (with_reducible first | apply aw_seq | apply aw_region | apply al_nil | apply aq_then | apply aw_skip) | refine aw_cond_f rfl rr_ ?_)
  all_goals first
    | (exfalso; simp at hc; done)
    | skip
  refine ⟨?_⟩
  repeat' (first | ((with_reducible apply o_y); exact y_; rfl) | with_reducible refine al_none rfl ?_ | (with_reducible first | apply aw_seq | apply aw_region))
  refine ao_pick (pick_unbox2 (cbO x y) _ _ []) ?_
  repeat' (first | ((with_reducible apply o_y); exact y_; rfl) | ((with_reducible apply o_callM); rfl; kernel_rfl; (repeat (first | exact ArgsM.nil | ((with_reducible apply ArgsM.cons); rfl))); exact hG; exact hl1; exact .app _ _; rintro ⟨⟩ -; refine al_pick (pick_box2 _ _ _ _) ?_) | refine e_callv hG hst (heqs 0 w0.heap.size) ?_ | with_reducible refine aw_hold_r (id := 16) ?_ | with_reducible refine al_none rfl ?_ | (with_reducible first | apply aw_seq | apply aw_region | apply al_nil | apply aq_then | apply aw_skip) | refine al_run rfl rfl rfl rr_ ?_ | (refine al_gf rfl rfl rfl rr_ dd_ ?_) | refine aw_cond_f rfl rr_ ?_)
  all_goals first
    | (exfalso; simp at hc; done)
    | skip
  refine ⟨?_⟩
  have hmS := markEditS_own hst sg bg sels 1 (by omega) (by omega)
  have hhS := heldEditS_m hst 0 sels 1 (by omega) (by omega)
  have hkS := kL_in (nx := nxEdit) (l := sels) (k := 1) (nxEdit_in _)
  have hml : ((mkL mkEdit nxEdit 1 sels).map (TEdit.tw 0)).length = sels.length := by rw [List.length_map, mkL_len]
  generalize kL nxEdit 1 sels = kq at hmS hhS hkS
  generalize mkL mkEdit nxEdit 1 sels = ms at hmS hhS hml
  repeat' (first | ((with_reducible apply o_y); exact y_; rfl) | ((with_reducible apply o_callM); rfl; kernel_rfl; (repeat (first | exact ArgsM.nil | ((with_reducible apply ArgsM.cons); rfl))); exact hG; exact hmS; exact .cons _ _ _ _ (.nil _); rintro ⟨⟩ -; refine al_app1 ?_) | refine e_callv hG hst (hhS) ?_ | with_reducible refine aw_hold_r (id := 24) ?_ | with_reducible refine al_none rfl ?_ | (with_reducible first | apply aw_seq | apply aw_region | apply al_nil | apply aq_then | apply aw_skip) | (refine aw_cond_df rfl rr_ dd_ ?_))
  all_goals first
    | (exfalso; simp at hc; done)
    | skip
  refine ⟨?_⟩
  repeat' (first | ((with_reducible apply o_y); exact y_; rfl) | refine e_call hG hst (hto) ?_ | ((with_reducible apply o_callOV); rfl; kernel_rfl; exact hG; exact hst; exact him2; ((repeat (first | exact Args.nil | ((with_reducible apply Args.cons); rfl; (with_reducible exact View.same _))))); exact hnew; rintro ⟨ss, bb⟩ -; refine al_app1 ?_) | refine e_callv hG hst (heqs 0 w0.heap.size) ?_ | refine e_callv hG hst (hhS) ?_ | with_reducible refine al_none rfl ?_ | (with_reducible first | apply aw_seq | apply aw_region | apply al_nil | apply aq_then | apply aw_skip | apply aw_ret) | refine aw_cond_f rfl rr_ ?_ | (refine aw_cond_df rfl rr_ dd_ ?_))
  all_goals first
    | (refine aq_ret1 x_ rfl (.tmp _ _ rfl) (fun _ => ?_)
       exact Fin.flat rfl)
    | (exfalso; simp at hc; done)
/-- The law, with its argument as the row's datum gives it. -/
theorem fnExactEditsOf_any (w : World) (t : PT) (x : TCodeBase) (hat : TCodeBaseAt t x) (hsee : Seen w (· < w.heap.size) t) (hx : x.sane) (hm : MaxL w) : Calls Tryz.prog 4 #[.agg t.cells.toArray] w fun e w' => e = .returned (.bool true) ∧ Below w.heap.size w w' := by
  have h0 : 0 < w.heap.size := by
    obtain ⟨m, hm⟩ := hm
    have := World.block_lt_of_cell? w _ hm
    omega
  have hok := tv_ok w _ _ hsee
  have hsm := codeBase_small hat hsee hx
  rw [codeBase_tvs hat] at hok
  refine (fnExactEditsOf_ct x hsm w _ h0 hm rfl ?_).mono ?_
  · intro i t v h1 h2
    match i, h1, h2 with
    | 0, h1, h2 =>
      cases h1; cases h2
      exact .agg _ _ hok.2.1 (by simpa using hok.1) (fun i t v ht hv => hok.2.2 i t v ht (by simpa using hv))
  · rintro e w' ⟨v, rfl, hb, hr⟩
    have := (hr 0 (Nat.zero_le _)).bool_inv
    subst this
    exact ⟨rfl, hb⟩
end Go.Proofs.YtfchjaoeogolnaaGreatDoor
