/- Part 21 of the proof: the texts MkN, MkC. -/
import Derived.Test.YtiihihgjiklnoaaGreatDoorPart17
import Derived.Test.YtiihihgjiklnoaaGreatDoorPart20
import Derived.Test.YtiihihgjiklnoaaGreatDoorPart16
/- The laws' marks of what a call owns, and their check: exact. Written by gen_mk.py. -/
namespace Go.Proofs.YtiihihgjiklnoaaGreatDoor
set_option maxRecDepth 20000
open Go Go.RowKit
/-- A list marked from k on. -/
def mkL {α : Type} (mk : Int → α → α) (nx : Int → α → Int) : Int → List α → List α
  | _, [] => []
  | k, x :: r => mk k x :: mkL mk nx (nx k x) r
def kL {α : Type} (nx : Int → α → Int) (k : Int) (l : List α) : Int := l.foldl nx k
def ptL {α : Type} (mk : Int → α → α) (nx : Int → α → Int) (k : Int) (l : List α) (i : Nat) : List α := mkL mk nx k (l.take i) ++ l.drop i
section
variable {α : Type} {mk : Int → α → α} {nx : Int → α → Int}
theorem mkL_len : ∀ (k : Int) (l : List α), (mkL mk nx k l).length = l.length
  | _, [] => rfl
  | k, x :: r => by simp [mkL, mkL_len (nx k x) r]
theorem mkL_app : ∀ (k : Int) (a b : List α), mkL mk nx k (a ++ b) = mkL mk nx k a ++ mkL mk nx (kL nx k a) b
  | _, [], b => rfl
  | k, x :: r, b => by
    show mk k x :: mkL mk nx (nx k x) (r ++ b) = mk k x :: (mkL mk nx (nx k x) r ++ mkL mk nx (kL nx (nx k x) r) b)
    rw [mkL_app]
theorem kL_snoc {k : Int} {l : List α} {i : Nat} (h : i < l.length) : kL nx k (l.take (i + 1)) = nx (kL nx k (l.take i)) l[i] := by
  rw [takeSnoc h]
  unfold kL
  rw [List.foldl_append]; rfl
theorem ptL_len {k : Int} {l : List α} {i : Nat} (h : i ≤ l.length) : (ptL mk nx k l i).length = l.length := by
  unfold ptL
  rw [List.length_append, mkL_len, List.length_take, List.length_drop]; omega
theorem ptL_get {k : Int} {l : List α} {i : Nat} (h : i < l.length) : (ptL mk nx k l i)[i]? = some l[i] := by
  unfold ptL
  rw [List.getElem?_append_right (by rw [mkL_len, List.length_take]; omega), mkL_len, List.length_take, show i - min i l.length = 0 by omega, List.drop_eq_getElem_cons h]; rfl
theorem ptL_set {k : Int} {l : List α} {i : Nat} (h : i < l.length) : (ptL mk nx k l i).set i (mk (kL nx k (l.take i)) l[i]) = ptL mk nx k l (i + 1) := by
  unfold ptL
  rw [List.set_append_right _ _ (by rw [mkL_len, List.length_take]; omega), mkL_len, List.length_take, show i - min i l.length = 0 by omega, List.drop_eq_getElem_cons h, List.set_cons_zero, takeSnoc h, mkL_app, List.append_assoc]; rfl
theorem ptL_full (k : Int) (l : List α) : ptL mk nx k l l.length = mkL mk nx k l := by
  unfold ptL
  rw [List.take_length, List.drop_length, List.append_nil]
theorem mkL_get {k : Int} {l : List α} {i : Nat} (h : i < l.length) : (mkL mk nx k l)[i]? = some (mk (kL nx k (l.take i)) l[i]) := by
  conv => lhs; rw [← List.take_append_drop i l, mkL_app]
  rw [List.getElem?_append_right (by rw [mkL_len, List.length_take]; omega), mkL_len, List.length_take, show i - min i l.length = 0 by omega, List.drop_eq_getElem_cons h]; rfl
theorem kL_in {c : Nat} : ∀ {l : List α} {k : Int}, (∀ x ∈ l, ∀ q, q ≤ nx q x ∧ nx q x ≤ q + c) → k ≤ kL nx k l ∧ kL nx k l ≤ k + c * l.length
  | [], k, _ => by show k ≤ k ∧ k ≤ k + _; simp
  | x :: r, k, h => by
    have h1 := h x List.mem_cons_self k
    have h2 := kL_in (l := r) (k := nx k x) (fun y hy => h y (List.mem_cons_of_mem _ hy))
    have e : kL nx k (x :: r) = kL nx (nx k x) r := rfl
    have e2 : (c : Int) * (((x :: r).length : Nat) : Int) = c * (r.length : Nat) + c := by rw [List.length_cons, Int.natCast_add, Int.mul_add]; simp
    rw [e, e2]
    omega
theorem kL_take {c : Nat} {l : List α} {k : Int} {i : Nat} {n : Nat} (hn : l.length ≤ n) (h : ∀ x ∈ l, ∀ q, q ≤ nx q x ∧ nx q x ≤ q + c) (hi : i ≤ l.length) : k ≤ kL nx k (l.take i) ∧ kL nx k (l.take i) ≤ k + c * n := by
  have h1 := kL_in (nx := nx) (c := c) (l := l.take i) (k := k) (fun x hx => h x (List.mem_of_mem_take hx))
  have h2 : (l.take i).length ≤ n := by rw [List.length_take]; omega
  have h3 : (c : Int) * ((l.take i).length : Nat) ≤ c * n := by exact_mod_cast Nat.mul_le_mul_left c h2
  omega
end
/-- One of the rows' objects is taken out of the list, and put back. -/
theorem nO_get {α : Type} (ob : α → TObj) {l : List α} {ps : List (Nat × Nat)} {i : Nat} {p : Nat × Nat} {x : α} (hx : l[i]? = some x) (hp : ps[i]? = some p) : (nO ob l ps)[i]? = some (p.1, p.2, ob x) := by
  unfold nO
  rw [List.getElem?_zipWith, hx, hp]
theorem nR_get {α : Type} (mk : α → Nat × Nat → List TV) {l : List α} {ps : List (Nat × Nat)} {i : Nat} {p : Nat × Nat} {x : α} (hx : l[i]? = some x) (hp : ps[i]? = some p) : (nR mk l ps)[i]? = some (mk x p) := by
  unfold nR
  rw [List.getElem?_zipWith, hx, hp]
theorem zip_set {α β γ : Type} (f : α → β → γ) : ∀ {l : List α} {ps : List β} {i : Nat} {p : β} {x : α}, ps[i]? = some p → List.zipWith f (l.set i x) ps = (List.zipWith f l ps).set i (f x p)
  | [], _, _, _, _, _ => by simp
  | _ :: _, [], _, _, _, h => by simp at h
  | a :: l, q :: ps, 0, p, x, h => by simp at h; subst h; simp
  | a :: l, q :: ps, i + 1, p, x, h => by
    have := zip_set f (l := l) (ps := ps) (i := i) (p := p) (x := x) (by simpa using h)
    simp [this]
theorem nR_put {α : Type} (mk : α → Nat × Nat → List TV) {l : List α} {ps : List (Nat × Nat)} {i : Nat} {p : Nat × Nat} {x : α} (hp : ps[i]? = some p) : nR mk (l.set i x) ps = (nR mk l ps).set i (mk x p) := zip_set mk hp
theorem perm_out {α : Type} : ∀ {l : List α} {i : Nat} {x : α}, l[i]? = some x → l.Perm (x :: l.eraseIdx i)
  | [], _, _, h => by simp at h
  | a :: l, 0, x, h => by simp at h; subst h; exact .refl _
  | a :: l, i + 1, x, h => by
    have := perm_out (l := l) (i := i) (x := x) (by simpa using h)
    exact (this.cons a).trans (.swap x a _)
theorem erase_set {α : Type} : ∀ (l : List α) (i : Nat) (x : α), (l.set i x).eraseIdx i = l.eraseIdx i
  | [], _, _ => rfl
  | a :: l, 0, x => rfl
  | a :: l, i + 1, x => by simp [erase_set l i x]
theorem nO_out {α : Type} (ob : α → TObj) {l : List α} {ps : List (Nat × Nat)} {i : Nat} {p : Nat × Nat} {x : α} (hx : l[i]? = some x) (hp : ps[i]? = some p) : (nO ob l ps).Perm ((p.1, p.2, ob x) :: (nO ob l ps).eraseIdx i) := perm_out (nO_get ob hx hp)
theorem nO_in {α : Type} (ob : α → TObj) {l : List α} {ps : List (Nat × Nat)} {i : Nat} {p : Nat × Nat} {x : α} (hl : i < l.length) (hp : ps[i]? = some p) : (nO ob (l.set i x) ps).Perm ((p.1, p.2, ob x) :: (nO ob l ps).eraseIdx i) := by
  have h := nO_out ob (l := l.set i x) (ps := ps) (i := i) (p := p) (x := x) (by rw [List.getElem?_set_self hl]) hp
  have e : (nO ob (l.set i x) ps).eraseIdx i = (nO ob l ps).eraseIdx i := by
    unfold nO
    rw [zip_set _ hp, erase_set]
  rw [e] at h
  exact h
theorem pick_out {a z : Nat × Nat × TObj} {N E : Objs} (h : N.Perm (z :: E)) (R : Objs) : Pick (z :: a :: (E ++ R)) (a :: (N ++ R)) := .perm (by
  have h1 : (a :: (N ++ R)).Perm (a :: z :: (E ++ R)) := ((h.append_right R)).cons a
  exact (List.Perm.swap a z _).trans h1.symm)
theorem pick_in {a z : Nat × Nat × TObj} {N E : Objs} (h : N.Perm (z :: E)) (R : Objs) : Pick (a :: (N ++ R)) (z :: a :: (E ++ R)) := .perm (by
  have h1 : (a :: (N ++ R)).Perm (a :: z :: (E ++ R)) := ((h.append_right R)).cons a
  exact h1.trans (List.Perm.swap z a _))
theorem pick_rot (A B C : Objs) : Pick (B ++ (A ++ C)) (A ++ (B ++ C)) := .perm (by
  rw [← List.append_assoc, ← List.append_assoc]
  exact List.perm_append_comm.append_right C)
def mkString (k : Int) (_ : ByteArray) : ByteArray := markB k
def nxString (k : Int) (_ : ByteArray) : Int := k + 1
theorem nxString_in (l : List ByteArray) : ∀ x ∈ l, ∀ q, q ≤ nxString q x ∧ nxString q x ≤ q + (1 : Nat) := fun x _ q => by unfold nxString; omega
theorem strR_put (l : List ByteArray) (k : Nat) (s : ByteArray) : (strR l).set k [TV.str s] = strR (l.set k s) := by simp [strR, List.map_set]
def mkInstr (k : Int) (_ : TInstr) : TInstr := ⟨k, k + 1, k + 1 + 1, markB (k + 1 + 1 + 1)⟩
def nxInstr (k : Int) (_ : TInstr) : Int := k + 1 + 1 + 1 + 1
theorem nxInstr_in (l : List TInstr) : ∀ x ∈ l, ∀ q, q ≤ nxInstr q x ∧ nxInstr q x ≤ q + (4 : Nat) := fun x _ q => by unfold nxInstr; omega
def mkEntry (k : Int) (_ : TEntry) : TEntry := ⟨k, decide ((k + 1).tmod 3 = 0), markB (k + 1 + 1), k + 1 + 1 + 1⟩
def nxEntry (k : Int) (_ : TEntry) : Int := k + 1 + 1 + 1 + 1
theorem nxEntry_in (l : List TEntry) : ∀ x ∈ l, ∀ q, q ≤ nxEntry q x ∧ nxEntry q x ≤ q + (4 : Nat) := fun x _ q => by unfold nxEntry; omega
def mkClassInfo (k : Int) (x : TClassInfo) : TClassInfo := ⟨markB (k), k + 1, mkL mkString nxString (k + 1 + 1) x.fields⟩
def nxClassInfo (k : Int) (x : TClassInfo) : Int := kL nxString (k + 1 + 1) x.fields
theorem nxClassInfo_in {l : List TClassInfo} (h : ∀ y ∈ l, TClassInfo.small 1048576 y) : ∀ x ∈ l, ∀ q, q ≤ nxClassInfo q x ∧ nxClassInfo q x ≤ q + (1048578 : Nat) := fun x hx q => by
  have h1 := h x hx
  have h2 := h1.2.1
  have h3 := kL_in (nx := nxString) (l := x.fields) (k := q + 1 + 1) (nxString_in _)
  unfold nxClassInfo
  omega
def mkCode (k : Int) (x : TCode) : TCode := ⟨decide ((k).tmod 3 = 0), k + 1, k + 1 + 1, mkL mkInstr nxInstr (k + 1 + 1 + 1) x.instrs⟩
def nxCode (k : Int) (x : TCode) : Int := kL nxInstr (k + 1 + 1 + 1) x.instrs
theorem nxCode_in {l : List TCode} (h : ∀ y ∈ l, TCode.small 1048576 y) : ∀ x ∈ l, ∀ q, q ≤ nxCode q x ∧ nxCode q x ≤ q + (4194307 : Nat) := fun x hx q => by
  have h1 := h x hx
  have h2 := h1.1
  have h3 := kL_in (nx := nxInstr) (l := x.instrs) (k := q + 1 + 1 + 1) (nxInstr_in _)
  unfold nxCode
  omega
section
variable {G : World → Prop}
theorem markStringS_own (hst : Stable G) (s b : Nat) (l : List ByteArray) (k : Int) (hn : l.length ≤ 1048576) (hk : 0 ≤ k ∧ k ≤ 1000000000000000) : CtM Tryz.prog G 28 [.ms s b 0 l.length, .int .i64 k] [(s, b, .row 1 (strR (l)))] (fun _ : Unit => True) (fun _ => [(s, b, .row 1 (strR (mkL mkString nxString k l)))]) (fun _ => .int .i64 (kL nxString k l)) := by
  refine ctm_enter Tryz.func28 rfl Tryz.ntmps28 rfl rfl rfl fun w0 R gs objsR hG hR => ?_
  obtain rfl := hR.inv1
  clear hR
  repeat' (first | refine W_ ?_ | refine c_ (fun hc => ?_) (fun hc => ?_) | refine g_ (fun hg => ?_) (fun hg => ?_))
  apply aw_loopk (X := Nat) [0, 1000000] (fun x => [(5, .int .i64 (x : Int)), (1, .int .i64 (kL nxString k (l.take x)))]) (fun x => (s, b, .row 1 (strR (ptL mkString nxString k l x))) :: R) (fun x => x ≤ l.length) (fun x => l.length - x) 0 (Nat.zero_le _)
  exact kp_; exact nw_
  · exact .refl _
  intro i hi
  try dsimp only
  have hq := kL_take (k := k) (i := i) hn (nxString_in l) hi
  by_cases hlt : i < l.length
  · have hrow : (strR (ptL mkString nxString k l i))[i]? = some ((fun s : ByteArray => [TV.str s]) l[i]) := by
      simp only [strR, List.getElem?_map, ptL_get hlt]; rfl
    have hset : (strR (ptL mkString nxString k l i)).set i ((fun s : ByteArray => [TV.str s]) (mkString (kL nxString k (l.take i)) l[i])) = strR (ptL mkString nxString k l (i + 1)) := by
      rw [← ptL_set hlt, strR_put]
    have hks := kL_snoc (nx := nxString) (k := k) hlt
    have hrl : (strR (ptL mkString nxString k l i)).length = l.length := by simp [strR, ptL_len hi]
    generalize strR (ptL mkString nxString k l i) = rows at hrow hset hrl ⊢
    generalize kL nxString k (l.take i) = q at hq hset hks ⊢
    generalize l[i] = x at hrow hset hks
    replace hrow : rows[i]? = some [.str x] := hrow
    have hks2 : kL nxString k (l.take (i + 1)) = q + 1 := hks
    repeat' (first | refine W_ ?_ | refine e_store ?_ | ((with_reducible apply o_call); rfl; kernel_rfl; (repeat (first | exact Args.nil | ((with_reducible apply Args.cons); rfl; exact .same _))); exact hG; exact hst; exact markText_ct _ (by omega) (by omega)) | refine c_ (fun hc => ?_) (fun hc => ?_) | refine g_ (fun hg => ?_) (fun hg => ?_))
    refine aq_round (i + 1) (by omega) (by omega) (.of _ (Weak.envCons rfl (Weak.envCons (lk_int rfl (by rw [hks2])) Weak.envNil)) od_ ?_)
    rw [← hset]
    (try simp only [])
    exact .refl _
  · obtain rfl : i = l.length := by omega
    rw [ptL_full, List.take_length]
    repeat' (first | refine W_ ?_ | refine c_ (fun hc => ?_) (fun hc => ?_) | refine g_ (fun hg => ?_) (fun hg => ?_))
    exact aq_retm1 x_ rfl () trivial rfl (.cons _ _ _ _ (.nil R)) pk_ (.tmp _ _ rfl) rfl
theorem markInstrS_own (hst : Stable G) (s b : Nat) (l : List TInstr) (k : Int) (hn : l.length ≤ 1048576) (hk : 0 ≤ k ∧ k ≤ 1000000000000000) : CtM Tryz.prog G 149 [.ms s b 0 l.length, .int .i64 k] [(s, b, .row 4 ((l).map (TInstr.tw 0)))] (fun _ : Unit => True) (fun _ => [(s, b, .row 4 ((mkL mkInstr nxInstr k l).map (TInstr.tw 0)))]) (fun _ => .int .i64 (kL nxInstr k l)) := by
  refine ctm_enter Tryz.func149 rfl Tryz.ntmps149 rfl rfl rfl fun w0 R gs objsR hG hR => ?_
  obtain rfl := hR.inv1
  clear hR
  repeat' (first | refine W_ ?_ | refine c_ (fun hc => ?_) (fun hc => ?_) | refine g_ (fun hg => ?_) (fun hg => ?_))
  apply aw_loopk (X := Nat) [0, 1000000] (fun x => [(5, .int .i64 (x : Int)), (1, .int .i64 (kL nxInstr k (l.take x)))]) (fun x => (s, b, .row 4 ((ptL mkInstr nxInstr k l x).map (TInstr.tw 0))) :: R) (fun x => x ≤ l.length) (fun x => l.length - x) 0 (Nat.zero_le _)
  exact kp_; exact nw_
  · exact .refl _
  intro i hi
  try dsimp only
  have hq := kL_take (k := k) (i := i) hn (nxInstr_in l) hi
  by_cases hlt : i < l.length
  · have hrow : ((ptL mkInstr nxInstr k l i).map (TInstr.tw 0))[i]? = some ((TInstr.tw 0) l[i]) := by
      simp only [List.getElem?_map, ptL_get hlt]; rfl
    have hset : ((ptL mkInstr nxInstr k l i).map (TInstr.tw 0)).set i ((TInstr.tw 0) (mkInstr (kL nxInstr k (l.take i)) l[i])) = (ptL mkInstr nxInstr k l (i + 1)).map (TInstr.tw 0) := by
      rw [← ptL_set hlt, List.map_set]
    have hks := kL_snoc (nx := nxInstr) (k := k) hlt
    have hrl : ((ptL mkInstr nxInstr k l i).map (TInstr.tw 0)).length = l.length := by simp [ptL_len hi]
    generalize (ptL mkInstr nxInstr k l i).map (TInstr.tw 0) = rows at hrow hset hrl ⊢
    generalize kL nxInstr k (l.take i) = q at hq hset hks ⊢
    generalize l[i] = x at hrow hset hks
    replace hrow : rows[i]? = some [.int .i64 x.op, .int .i64 x.a, .int .i64 x.b, .str x.text] := hrow
    have hr1 : (rows.set i [.int .i64 q, .int .i64 x.a, .int .i64 x.b, .str x.text])[i]? = some [.int .i64 q, .int .i64 x.a, .int .i64 x.b, .str x.text] := by rw [List.getElem?_set_self (by omega)]
    have hks2 : kL nxInstr k (l.take (i + 1)) = q + 1 + 1 + 1 + 1 := hks
    repeat' (first | refine W_ ?_ | refine e_store ?_ | ((with_reducible apply o_call); rfl; kernel_rfl; (repeat (first | exact Args.nil | ((with_reducible apply Args.cons); rfl; exact .same _))); exact hG; exact hst; exact markText_ct _ (by omega) (by omega)) | refine c_ (fun hc => ?_) (fun hc => ?_) | refine g_ (fun hg => ?_) (fun hg => ?_))
    refine aq_round (i + 1) (by omega) (by omega) (.of _ (Weak.envCons rfl (Weak.envCons (lk_int rfl (by rw [hks2])) Weak.envNil)) od_ ?_)
    rw [← hset]
    (try simp only [List.set_set])
    exact .refl _
  · obtain rfl : i = l.length := by omega
    rw [ptL_full, List.take_length]
    repeat' (first | refine W_ ?_ | refine c_ (fun hc => ?_) (fun hc => ?_) | refine g_ (fun hg => ?_) (fun hg => ?_))
    exact aq_retm1 x_ rfl () trivial rfl (.cons _ _ _ _ (.nil R)) pk_ (.tmp _ _ rfl) rfl
theorem markEntryS_own (hst : Stable G) (s b : Nat) (l : List TEntry) (k : Int) (hn : l.length ≤ 1048576) (hk : 0 ≤ k ∧ k ≤ 1000000000000000) : CtM Tryz.prog G 67 [.ms s b 0 l.length, .int .i64 k] [(s, b, .row 4 ((l).map (TEntry.tw 0)))] (fun _ : Unit => True) (fun _ => [(s, b, .row 4 ((mkL mkEntry nxEntry k l).map (TEntry.tw 0)))]) (fun _ => .int .i64 (kL nxEntry k l)) := by
  refine ctm_enter Tryz.func67 rfl Tryz.ntmps67 rfl rfl rfl fun w0 R gs objsR hG hR => ?_
  obtain rfl := hR.inv1
  clear hR
  repeat' (first | refine W_ ?_ | refine c_ (fun hc => ?_) (fun hc => ?_) | refine g_ (fun hg => ?_) (fun hg => ?_))
  apply aw_loopk (X := Nat) [0, 1000000] (fun x => [(5, .int .i64 (x : Int)), (1, .int .i64 (kL nxEntry k (l.take x)))]) (fun x => (s, b, .row 4 ((ptL mkEntry nxEntry k l x).map (TEntry.tw 0))) :: R) (fun x => x ≤ l.length) (fun x => l.length - x) 0 (Nat.zero_le _)
  exact kp_; exact nw_
  · exact .refl _
  intro i hi
  try dsimp only
  have hq := kL_take (k := k) (i := i) hn (nxEntry_in l) hi
  by_cases hlt : i < l.length
  · have hrow : ((ptL mkEntry nxEntry k l i).map (TEntry.tw 0))[i]? = some ((TEntry.tw 0) l[i]) := by
      simp only [List.getElem?_map, ptL_get hlt]; rfl
    have hset : ((ptL mkEntry nxEntry k l i).map (TEntry.tw 0)).set i ((TEntry.tw 0) (mkEntry (kL nxEntry k (l.take i)) l[i])) = (ptL mkEntry nxEntry k l (i + 1)).map (TEntry.tw 0) := by
      rw [← ptL_set hlt, List.map_set]
    have hks := kL_snoc (nx := nxEntry) (k := k) hlt
    have hrl : ((ptL mkEntry nxEntry k l i).map (TEntry.tw 0)).length = l.length := by simp [ptL_len hi]
    generalize (ptL mkEntry nxEntry k l i).map (TEntry.tw 0) = rows at hrow hset hrl ⊢
    generalize kL nxEntry k (l.take i) = q at hq hset hks ⊢
    generalize l[i] = x at hrow hset hks
    replace hrow : rows[i]? = some [.int .i64 x.owner, .bool x.class_, .str x.selector, .int .i64 x.code] := hrow
    have hr1 : (rows.set i [.int .i64 q, .bool x.class_, .str x.selector, .int .i64 x.code])[i]? = some [.int .i64 q, .bool x.class_, .str x.selector, .int .i64 x.code] := by rw [List.getElem?_set_self (by omega)]
    have hks2 : kL nxEntry k (l.take (i + 1)) = q + 1 + 1 + 1 + 1 := hks
    repeat' (first | refine W_ ?_ | refine e_store ?_ | ((with_reducible apply o_call); rfl; kernel_rfl; (repeat (first | exact Args.nil | ((with_reducible apply Args.cons); rfl; exact .same _))); exact hG; exact hst; exact markText_ct _ (by omega) (by omega)) | refine c_ (fun hc => ?_) (fun hc => ?_) | refine g_ (fun hg => ?_) (fun hg => ?_))
    refine aq_round (i + 1) (by omega) (by omega) (.of _ (Weak.envCons rfl (Weak.envCons (lk_int rfl (by rw [hks2])) Weak.envNil)) od_ ?_)
    rw [← hset]
    (try simp only [List.set_set])
    exact .refl _
  · obtain rfl : i = l.length := by omega
    rw [ptL_full, List.take_length]
    repeat' (first | refine W_ ?_ | refine c_ (fun hc => ?_) (fun hc => ?_) | refine g_ (fun hg => ?_) (fun hg => ?_))
    exact aq_retm1 x_ rfl () trivial rfl (.cons _ _ _ _ (.nil R)) pk_ (.tmp _ _ rfl) rfl
theorem markClassInfoS_own (hst : Stable G) (s b : Nat) (l : List TClassInfo) (ps : List (Nat × Nat)) (hps : ps.length = l.length) (k : Int) (hn : l.length ≤ 1048576 ∧ ∀ y ∈ l, TClassInfo.small 1048576 y) (hk : 0 ≤ k ∧ k ≤ 100000000000000) :
    CtM Tryz.prog G 65 [.ms s b 0 l.length, .int .i64 k] ((s, b, .row 3 (nR clsMk l ps)) :: nO clsOb l ps) (fun _ : Unit => True) (fun _ => (s, b, .row 3 (nR clsMk (mkL mkClassInfo nxClassInfo k l) ps)) :: nO clsOb (mkL mkClassInfo nxClassInfo k l) ps) (fun _ => .int .i64 (kL nxClassInfo k l)) := by
  refine ctm_enter Tryz.func65 rfl Tryz.ntmps65 rfl rfl rfl fun w0 R gs objsR hG hR => ?_
  obtain rfl := hR.eq
  clear hR
  obtain ⟨hn, hsm⟩ := hn
  repeat' (first | refine W_ ?_ | refine c_ (fun hc => ?_) (fun hc => ?_) | refine g_ (fun hg => ?_) (fun hg => ?_))
  apply aw_loopk (X := Nat) [0, 1000000] (fun x => [(5, .int .i64 (x : Int)), (1, .int .i64 (kL nxClassInfo k (l.take x)))]) (fun x => (s, b, .row 3 (nR clsMk (ptL mkClassInfo nxClassInfo k l x) ps)) :: (nO clsOb (ptL mkClassInfo nxClassInfo k l x) ps ++ R)) (fun x => x ≤ l.length) (fun x => l.length - x) 0 (Nat.zero_le _)
  exact kp_; exact nw_
  · exact .refl _
  intro i hi
  try dsimp only
  have hq := kL_take (k := k) (i := i) hn (nxClassInfo_in hsm) hi
  by_cases hlt : i < l.length
  · obtain ⟨p, hp⟩ : ∃ p, ps[i]? = some p := ⟨_, List.getElem?_eq_getElem (by omega)⟩
    have hpl : i < (ptL mkClassInfo nxClassInfo k l i).length := by rw [ptL_len hi]; exact hlt
    have hrow := nR_get clsMk (ptL_get (mk := mkClassInfo) (nx := nxClassInfo) (k := k) hlt) hp
    have hset := nR_put clsMk (l := ptL mkClassInfo nxClassInfo k l i) (x := mkClassInfo (kL nxClassInfo k (l.take i)) l[i]) hp
    have hout := nO_out clsOb (ptL_get (mk := mkClassInfo) (nx := nxClassInfo) (k := k) hlt) hp
    have hin := nO_in clsOb (x := mkClassInfo (kL nxClassInfo k (l.take i)) l[i]) hpl hp
    rw [ptL_set hlt] at hset hin
    have hks := kL_snoc (nx := nxClassInfo) (k := k) hlt
    have hrl : (nR clsMk (ptL mkClassInfo nxClassInfo k l i) ps).length = l.length := by rw [nR_len _ (by rw [ptL_len hi]; exact hps), ptL_len hi]
    have hb := hsm _ (List.getElem_mem hlt)
    generalize (nO clsOb (ptL mkClassInfo nxClassInfo k l i) ps).eraseIdx i = E at hout hin
    generalize nO clsOb (ptL mkClassInfo nxClassInfo k l i) ps = N0 at hout ⊢
    generalize nR clsMk (ptL mkClassInfo nxClassInfo k l i) ps = rows at hrow hset hrl ⊢
    generalize kL nxClassInfo k (l.take i) = q at hq hset hks hin ⊢
    generalize l[i] = x at hrow hset hks hout hin hb
    replace hrow : rows[i]? = some [.str x.name, .int .i64 x.parent, .ms p.1 p.2 0 x.fields.length] := hrow
    have hr1 : (rows.set i [.str (markB (q)), .int .i64 x.parent, .ms p.1 p.2 0 x.fields.length])[i]? = some [.str (markB (q)), .int .i64 x.parent, .ms p.1 p.2 0 x.fields.length] := by rw [List.getElem?_set_self (by omega)]
    have hct := markStringS_own hst p.1 p.2 x.fields (q + 1 + 1) hb.2.1 (by omega)
    repeat' (first | refine W_ ?_ | refine e_store ?_ | ((with_reducible apply o_call); rfl; kernel_rfl; (repeat (first | exact Args.nil | ((with_reducible apply Args.cons); rfl; exact .same _))); exact hG; exact hst; exact markText_ct _ (by omega) (by omega)) | refine c_ (fun hc => ?_) (fun hc => ?_) | refine g_ (fun hg => ?_) (fun hg => ?_))
    refine ao_pick (pick_out hout R) ?_
    repeat' (first | refine W_ ?_ | ((with_reducible apply o_callM); rfl; kernel_rfl; (repeat (first | exact ArgsM.nil | ((with_reducible apply ArgsM.cons); rfl))); exact hG; exact hct; exact .cons _ _ _ _ (.nil _); intro y hy; refine al_app1 ?_) | refine c_ (fun hc => ?_) (fun hc => ?_) | refine g_ (fun hg => ?_) (fun hg => ?_))
    refine aq_round (i + 1) (by omega) (by omega) (.of _ (Weak.envCons rfl (Weak.envCons (lk_int rfl (by rw [hks]; rfl)) Weak.envNil)) od_ ?_)
    rw [hset]
    simp only [List.set_set]
    have hcl : clsMk (mkClassInfo q x) p = [.str (markB (q)), .int .i64 (q + 1), .ms p.1 p.2 0 x.fields.length] := by
      unfold clsMk mkClassInfo
      dsimp only
      rw [mkL_len]
    rw [hcl]
    exact pick_in hin R
  · obtain rfl : i = l.length := by omega
    rw [ptL_full, List.take_length]
    repeat' (first | refine W_ ?_ | refine c_ (fun hc => ?_) (fun hc => ?_) | refine g_ (fun hg => ?_) (fun hg => ?_))
    exact aq_retm1 x_ rfl () trivial rfl (.cons _ _ _ _ (.app _ R)) (.refl _) (.tmp _ _ rfl) rfl
theorem markCodeS_own (hst : Stable G) (s b : Nat) (l : List TCode) (ps : List (Nat × Nat)) (hps : ps.length = l.length) (k : Int) (hn : l.length ≤ 1048576 ∧ ∀ y ∈ l, TCode.small 1048576 y) (hk : 0 ≤ k ∧ k ≤ 100000000000000) :
    CtM Tryz.prog G 66 [.ms s b 0 l.length, .int .i64 k] ((s, b, .row 4 (nR codMk l ps)) :: nO codOb l ps) (fun _ : Unit => True) (fun _ => (s, b, .row 4 (nR codMk (mkL mkCode nxCode k l) ps)) :: nO codOb (mkL mkCode nxCode k l) ps) (fun _ => .int .i64 (kL nxCode k l)) := by
  refine ctm_enter Tryz.func66 rfl Tryz.ntmps66 rfl rfl rfl fun w0 R gs objsR hG hR => ?_
  obtain rfl := hR.eq
  clear hR
  obtain ⟨hn, hsm⟩ := hn
  repeat' (first | refine W_ ?_ | refine c_ (fun hc => ?_) (fun hc => ?_) | refine g_ (fun hg => ?_) (fun hg => ?_))
  apply aw_loopk (X := Nat) [0, 1000000] (fun x => [(5, .int .i64 (x : Int)), (1, .int .i64 (kL nxCode k (l.take x)))]) (fun x => (s, b, .row 4 (nR codMk (ptL mkCode nxCode k l x) ps)) :: (nO codOb (ptL mkCode nxCode k l x) ps ++ R)) (fun x => x ≤ l.length) (fun x => l.length - x) 0 (Nat.zero_le _)
  exact kp_; exact nw_
  · exact .refl _
  intro i hi
  try dsimp only
  have hq := kL_take (k := k) (i := i) hn (nxCode_in hsm) hi
  by_cases hlt : i < l.length
  · obtain ⟨p, hp⟩ : ∃ p, ps[i]? = some p := ⟨_, List.getElem?_eq_getElem (by omega)⟩
    have hpl : i < (ptL mkCode nxCode k l i).length := by rw [ptL_len hi]; exact hlt
    have hrow := nR_get codMk (ptL_get (mk := mkCode) (nx := nxCode) (k := k) hlt) hp
    have hset := nR_put codMk (l := ptL mkCode nxCode k l i) (x := mkCode (kL nxCode k (l.take i)) l[i]) hp
    have hout := nO_out codOb (ptL_get (mk := mkCode) (nx := nxCode) (k := k) hlt) hp
    have hin := nO_in codOb (x := mkCode (kL nxCode k (l.take i)) l[i]) hpl hp
    rw [ptL_set hlt] at hset hin
    have hks := kL_snoc (nx := nxCode) (k := k) hlt
    have hrl : (nR codMk (ptL mkCode nxCode k l i) ps).length = l.length := by rw [nR_len _ (by rw [ptL_len hi]; exact hps), ptL_len hi]
    have hb := hsm _ (List.getElem_mem hlt)
    generalize (nO codOb (ptL mkCode nxCode k l i) ps).eraseIdx i = E at hout hin
    generalize nO codOb (ptL mkCode nxCode k l i) ps = N0 at hout ⊢
    generalize nR codMk (ptL mkCode nxCode k l i) ps = rows at hrow hset hrl ⊢
    generalize kL nxCode k (l.take i) = q at hq hset hks hin ⊢
    generalize l[i] = x at hrow hset hks hout hin hb
    replace hrow : rows[i]? = some [.bool x.block, .int .i64 x.params, .int .i64 x.slots, .ms p.1 p.2 0 x.instrs.length] := hrow
    have hr1 : (rows.set i [.bool (decide ((q).tmod 3 = 0)), .int .i64 x.params, .int .i64 x.slots, .ms p.1 p.2 0 x.instrs.length])[i]? = some [.bool (decide ((q).tmod 3 = 0)), .int .i64 x.params, .int .i64 x.slots, .ms p.1 p.2 0 x.instrs.length] := by rw [List.getElem?_set_self (by omega)]
    have hct := markInstrS_own hst p.1 p.2 x.instrs (q + 1 + 1 + 1) hb.1 (by omega)
    repeat' (first | refine W_ ?_ | refine e_store ?_ | ((with_reducible apply o_call); rfl; kernel_rfl; (repeat (first | exact Args.nil | ((with_reducible apply Args.cons); rfl; exact .same _))); exact hG; exact hst; exact markText_ct _ (by omega) (by omega)) | refine c_ (fun hc => ?_) (fun hc => ?_) | refine g_ (fun hg => ?_) (fun hg => ?_))
    refine ao_pick (pick_out hout R) ?_
    repeat' (first | refine W_ ?_ | ((with_reducible apply o_callM); rfl; kernel_rfl; (repeat (first | exact ArgsM.nil | ((with_reducible apply ArgsM.cons); rfl))); exact hG; exact hct; exact .cons _ _ _ _ (.nil _); intro y hy; refine al_app1 ?_) | refine c_ (fun hc => ?_) (fun hc => ?_) | refine g_ (fun hg => ?_) (fun hg => ?_))
    refine aq_round (i + 1) (by omega) (by omega) (.of _ (Weak.envCons rfl (Weak.envCons (lk_int rfl (by rw [hks]; rfl)) Weak.envNil)) od_ ?_)
    rw [hset]
    simp only [List.set_set]
    have hcl : codMk (mkCode q x) p = [.bool (decide ((q).tmod 3 = 0)), .int .i64 (q + 1), .int .i64 (q + 1 + 1), .ms p.1 p.2 0 x.instrs.length] := by
      unfold codMk mkCode
      dsimp only
      rw [mkL_len]
    rw [hcl]
    exact pick_in hin R
  · obtain rfl : i = l.length := by omega
    rw [ptL_full, List.take_length]
    repeat' (first | refine W_ ?_ | refine c_ (fun hc => ?_) (fun hc => ?_) | refine g_ (fun hg => ?_) (fun hg => ?_))
    exact aq_retm1 x_ rfl () trivial rfl (.cons _ _ _ _ (.app _ R)) (.refl _) (.tmp _ _ rfl) rfl
end
end Go.Proofs.YtiihihgjiklnoaaGreatDoor
/- A code base that the call owns: its copy (toCodeBase), its marks (markCodeBase), and how it is looked at. -/
namespace Go.Proofs.YtiihihgjiklnoaaGreatDoor
set_option maxRecDepth 20000
open Go Go.RowKit
def clsO (l : List TClassInfo) (y : (Nat × Nat) × List (Nat × Nat)) : Objs := (y.1.1, y.1.2, .row 3 (nR clsMk l y.2)) :: nO clsOb l y.2
def codO (l : List TCode) (y : (Nat × Nat) × List (Nat × Nat)) : Objs := (y.1.1, y.1.2, .row 4 (nR codMk l y.2)) :: nO codOb l y.2
def entO (l : List TEntry) (y : Nat × Nat) : Objs := [(y.1, y.2, .row 4 (l.map (TEntry.tw 0)))]
/-- The places of a code base. -/
def CbP : Type := ((Nat × Nat) × List (Nat × Nat)) × ((Nat × Nat) × List (Nat × Nat)) × (Nat × Nat)
def cbO (x : TCodeBase) (y : CbP) : Objs := clsO x.classes y.1 ++ (codO x.codes y.2.1 ++ entO x.entries y.2.2)
def cbC (x : TCodeBase) (y : CbP) : List TV := [.ms y.1.1.1 y.1.1.2 0 x.classes.length, .ms y.2.1.1.1 y.2.1.1.2 0 x.codes.length, .ms y.2.2.1 y.2.2.2 0 x.entries.length, .int .i64 x.main]
def cbI (x : TCodeBase) (y : CbP) : Prop := y.1.2.length = x.classes.length ∧ y.2.1.2.length = x.codes.length
theorem pick_box2 (A : Objs) (x z : Nat × Nat × TObj) (R : Objs) : Pick (x :: z :: (A ++ R)) (A ++ (x :: z :: R)) := .perm (by
  have h1 : (A ++ (x :: z :: R)).Perm (x :: (A ++ (z :: R))) := List.perm_middle
  have h2 : (A ++ (z :: R)).Perm (z :: (A ++ R)) := List.perm_middle
  exact (h1.trans (h2.cons x)).symm)
theorem perm_cb (A B C R : Objs) : ((A ++ (B ++ C)) ++ R).Perm (C ++ (B ++ (A ++ R))) := by
  have h1 : (A ++ (B ++ C)).Perm (C ++ (B ++ A)) := by
    have : (A ++ (B ++ C)).Perm ((B ++ C) ++ A) := List.perm_append_comm
    refine this.trans ?_
    have h2 : ((B ++ C) ++ A).Perm ((C ++ B) ++ A) := (List.perm_append_comm).append_right A
    rw [List.append_assoc] at h2
    rw [List.append_assoc] at h2 ⊢
    exact h2
  have h3 := h1.append_right R
  simpa [List.append_assoc] using h3
theorem pick_end (A B C R : Objs) : Pick (C ++ (A ++ (B ++ R))) (B ++ (A ++ (C ++ R))) := .perm (by
  have h1 : (C ++ (A ++ B)).Perm (B ++ (A ++ C)) := by
    have h := (perm_cb C A B [])
    simpa using h
  simpa [List.append_assoc] using h1.append_right R)
theorem pick_three (A B C R : Objs) : Pick (A ++ (B ++ (C ++ R))) (C ++ (A ++ (B ++ R))) := .perm (by
  have h1 : (A ++ (B ++ C)).Perm (C ++ (A ++ B)) := by
    rw [← List.append_assoc]
    exact List.perm_append_comm
  simpa [List.append_assoc] using h1.append_right R)
section
variable {G : World → Prop}
theorem toCodeBase_own (hst : Stable G) (lo : Nat) (x : TCodeBase) (hb : x.small 1048576) : CtM Tryz.prog G 14 [.agg (x.tw lo)] [] (cbI x) (cbO x) (fun y => .agg (cbC x y)) := by
  refine ctm_enter Tryz.func14 rfl Tryz.ntmps14 rfl rfl rfl fun w0 R gs objsR hG hR => ?_
  obtain rfl := hR.inv0
  clear hR
  have c1 := toClassInfoS_own hst lo x.classes hb.1
  have c2 := toCodeS_own hst lo x.codes hb.2.1
  have c3 := toEntryS_own hst lo x.entries hb.2.2
  unfold TCodeBase.tw
  repeat' (first | refine W_ ?_ | refine e_box ?_ | (refine e_alloc ?_; intro ss bb) | refine e_storep ?_ | ((with_reducible apply o_callM); rfl; kernel_rfl; (repeat (first | exact ArgsM.nil | ((with_reducible apply ArgsM.cons); rfl))); exact hG; (first | exact c1 | exact c2 | exact c3); exact .nil _; intro y hy; refine al_pick (pick_box2 _ _ _ _) ?_) | refine c_ (fun hc => ?_) (fun hc => ?_) | refine g_ (fun hg => ?_) (fun hg => ?_))
  rename_i yc hyc yd hyd
  refine aq_retm1 (t1 := .agg [.ms yc.1.1 yc.1.2 0 x.classes.length, .ms yd.1.1 yd.1.2 0 x.codes.length, .ms y.1 y.2 0 x.entries.length, .int .i64 x.main]) x_ rfl (yc, yd, y) ⟨hyc, hyd⟩ rfl (.app _ R) (.drop (.drop (.perm (perm_cb _ _ _ R)))) (.cell _ _ _ _ _ rfl mm_ (by kernel_rfl) (by kernel_rfl) (by kernel_rfl)) rfl
def mkCodeBase (k : Int) (x : TCodeBase) : TCodeBase := ⟨mkL mkClassInfo nxClassInfo k x.classes, mkL mkCode nxCode (kL nxClassInfo k x.classes) x.codes, mkL mkEntry nxEntry (kL nxCode (kL nxClassInfo k x.classes) x.codes) x.entries, x.main⟩
def nxCodeBase (k : Int) (x : TCodeBase) : Int := kL nxEntry (kL nxCode (kL nxClassInfo k x.classes) x.codes) x.entries
theorem nxCodeBase_in {x : TCodeBase} (hb : x.small 1048576) (k : Int) : k ≤ nxCodeBase k x ∧ nxCodeBase k x ≤ k + 6000000000000 := by
  have h1 := kL_take (k := k) (i := x.classes.length) hb.1.1 (nxClassInfo_in hb.1.2) (Nat.le_refl _)
  have h2 := kL_take (k := kL nxClassInfo k x.classes) (i := x.codes.length) hb.2.1.1 (nxCode_in hb.2.1.2) (Nat.le_refl _)
  have h3 := kL_take (k := kL nxCode (kL nxClassInfo k x.classes) x.codes) (i := x.entries.length) hb.2.2.1 (nxEntry_in x.entries) (Nat.le_refl _)
  rw [List.take_length] at h1 h2 h3
  unfold nxCodeBase
  omega
theorem markCodeBase_own (hst : Stable G) (x : TCodeBase) (y : CbP) (hy : cbI x y) (hb : x.small 1048576) (k : Int) (hk : 0 ≤ k ∧ k ≤ 50000000000000) :
    CtM Tryz.prog G 18 [.agg (cbC x y), .int .i64 k] (cbO x y) (fun _ : Unit => True) (fun _ => cbO (mkCodeBase k x) y) (fun _ => .int .i64 (nxCodeBase k x)) := by
  refine ctm_enter Tryz.func18 rfl Tryz.ntmps18 rfl rfl rfl fun w0 R gs objsR hG hR => ?_
  obtain rfl := hR.eq
  clear hR
  have h1 := kL_take (k := k) (i := x.classes.length) hb.1.1 (nxClassInfo_in hb.1.2) (Nat.le_refl _)
  have h2 := kL_take (k := kL nxClassInfo k x.classes) (i := x.codes.length) hb.2.1.1 (nxCode_in hb.2.1.2) (Nat.le_refl _)
  rw [List.take_length] at h1 h2
  have c1 := markClassInfoS_own hst y.1.1.1 y.1.1.2 x.classes y.1.2 hy.1 k hb.1 (by omega)
  have c2 := markCodeS_own hst y.2.1.1.1 y.2.1.1.2 x.codes y.2.1.2 hy.2 (kL nxClassInfo k x.classes) hb.2.1 (by omega)
  have c3 := markEntryS_own hst y.2.2.1 y.2.2.2 x.entries (kL nxCode (kL nxClassInfo k x.classes) x.codes) hb.2.2.1 (by omega)
  have e0 : cbO x y ++ R = clsO x.classes y.1 ++ (codO x.codes y.2.1 ++ (entO x.entries y.2.2 ++ R)) := by unfold cbO; simp [List.append_assoc]
  have e1 : cbO (mkCodeBase k x) y ++ R = clsO (mkCodeBase k x).classes y.1 ++ (codO (mkCodeBase k x).codes y.2.1 ++ (entO (mkCodeBase k x).entries y.2.2 ++ R)) := by unfold cbO; simp [List.append_assoc]
  rw [e0]
  unfold cbC
  repeat' (first | refine W_ ?_ | refine e_box ?_ | ((with_reducible apply o_callM); rfl; kernel_rfl; (repeat (first | exact ArgsM.nil | ((with_reducible apply ArgsM.cons); rfl))); exact hG; exact c1; exact .app _ _; intro z hz; refine al_pick (pick_rot _ _ _) ?_) | ((with_reducible apply o_callM); rfl; kernel_rfl; (repeat (first | exact ArgsM.nil | ((with_reducible apply ArgsM.cons); rfl))); exact hG; exact c2; exact .app _ _; intro z hz; refine al_pick (pick_end _ _ _ _) ?_) | ((with_reducible apply o_callM); rfl; kernel_rfl; (repeat (first | exact ArgsM.nil | ((with_reducible apply ArgsM.cons); rfl))); exact hG; exact c3; exact .app _ _; intro z hz) | refine c_ (fun hc => ?_) (fun hc => ?_) | refine g_ (fun hg => ?_) (fun hg => ?_))
  refine aq_retm1 x_ rfl () trivial rfl (.app _ R) ?_ (.tmp _ _ rfl) rfl
  rw [e1]
  exact pick_three _ _ _ R
end
end Go.Proofs.YtiihihgjiklnoaaGreatDoor
