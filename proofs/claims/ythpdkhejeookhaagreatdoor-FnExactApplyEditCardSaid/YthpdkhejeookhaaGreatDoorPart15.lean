/- Part 15 of the proof: the texts ApB, EdE, ApE, EdF, OpB, OpL. -/
import Derived.Test.YthpdkhejeookhaaGreatDoorPart6
import Derived.Test.YthpdkhejeookhaaGreatDoorPart9
import Derived.Test.YthpdkhejeookhaaGreatDoorPart14
import Derived.Test.YthpdkhejeookhaaGreatDoorPart13
import Derived.Test.YthpdkhejeookhaaGreatDoorPart11
/- ApplyEdit of the program: instructions are removed. -/
namespace Go.Proofs.YthpdkhejeookhaaGreatDoor
set_option maxRecDepth 20000
open Go Go.RowKit
def labM (op : Int) (s b k : Nat) : List (List TV) := (labOff op).map fun o => [.me s b 4 k o]
theorem labM_length (op : Int) (s b k : Nat) : (labM op s b k).length = (labOff op).length := List.length_map _
theorem labM_get {op : Int} {s b k q : Nat} (h : q < (labOff op).length) : (labM op s b k)[q]? = some [.me s b 4 k (labOff op)[q]] := by
  unfold labM
  rw [List.getElem?_map, List.getElem?_eq_getElem h]; rfl
set_option maxRecDepth 4000 in
set_option maxHeartbeats 2000000 in
theorem labelsOfM_ct {G : World → Prop} (s9 b9 k : Nat) (rows : List (List TV)) (op a b : Int) (t : ByteArray) (hk : rows[k]? = some [.int .i64 op, .int .i64 a, .int .i64 b, .str t]) : CtM Tryz.prog G 136 [.me s9 b9 4 k 0] [(s9, b9, .row 4 rows)] (fun _ : Nat × Nat => True)
    (fun y => [(y.1, y.2, .row 1 (labM op s9 b9 k)), (s9, b9, .row 4 rows)]) (fun y => .ms y.1 y.2 0 (labM op s9 b9 k).length) := by
  have hcase : (op = 20 ∧ labM op s9 b9 k = [[.me s9 b9 4 k 1]]) ∨ ((op = 21 ∨ op = 22) ∧ labM op s9 b9 k = [[.me s9 b9 4 k 1], [.me s9 b9 4 k 2]]) ∨ ((op = 24 ∨ op = 25 ∨ op = 26) ∧ labM op s9 b9 k = [[.me s9 b9 4 k 2]]) ∨ (¬ op = 20 ∧ ¬ op = 21 ∧ ¬ op = 22 ∧ ¬ op = 24 ∧ ¬ op = 25 ∧ ¬ op = 26 ∧ labM op s9 b9 k = []) := by
    unfold labM labOff
    by_cases h20 : op = 20
    · exact .inl ⟨h20, by simp [h20]⟩
    by_cases h21 : op = 21 ∨ op = 22
    · exact .inr (.inl ⟨h21, by simp [h20, h21]⟩)
    by_cases h24 : op = 24 ∨ op = 25 ∨ op = 26
    · exact .inr (.inr (.inl ⟨h24, by simp [h20, h21, h24]⟩))
    · exact .inr (.inr (.inr ⟨h20, by omega, by omega, by omega, by omega, by omega, by simp [h20, h21, h24]⟩))
  rcases hcase with ⟨h1, hr⟩ | ⟨h1, hr⟩ | ⟨h1, hr⟩ | ⟨h1, h2, h3, h4, h5, h6, hr⟩
  all_goals
    rw [hr]
    refine ctm_enter Tryz.func136 rfl Tryz.ntmps136 rfl rfl rfl fun w0 R gs objsR hG hR => ?_
    obtain rfl := hR.inv1
    repeat' (first | ((with_reducible apply o_y); exact y_; rfl) | (refine e_own ?_; intro ss bb) | (with_reducible apply aw_draw2 (id := 6) 6; kernel_rfl; kernel_rfl; kernel_rfl; (repeat (first | exact Cut.zero _ | apply Cut.succ))) | with_reducible refine dr_nil2 ?_ | with_reducible refine dr_none rfl ?_ | ((with_reducible apply d_y); exact y_; rfl) | with_reducible refine al_none rfl ?_ | (with_reducible first | apply aw_seq | apply aw_region | apply al_nil | apply aq_then | apply aw_block | apply aw_skip | apply aw_ret | apply aq_then_ret | apply aq_block_ret | apply aq_block) | (refine aw_cond_dt rfl rr_ dd_ ?_) | (refine aw_cond_df rfl rr_ dd_ ?_) | (refine aw_cond rfl rr_ (fun hc => ?_) (fun hc => ?_)))
  all_goals first
    | (refine aq_retm1 x_ rfl (ss, bb) trivial rfl (.cons _ _ _ _ (.cons _ _ _ _ (.nil R))) pk_ (.tmp _ _ rfl) rfl; done)
    | (refine aq_nils 2 1 (by omega) rfl fun ss => aq_retm1 x_ rfl (ss, 0) trivial rfl (.cons _ _ _ _ (.cons _ _ _ _ (.nil R))) pk_ (.tmp _ _ rfl) rfl; done)
/-- The place of a number in a list, -1 if it stands nowhere. -/
def idxN (l : List Int) (v : Int) : Int := if v ∈ l then (l.findIdx (fun y => decide (y = v)) : Nat) else -1
theorem idxN_at {l : List Int} {v : Int} {i : Nat} (h : i < l.length) (e : l[i] = v) (hb : ∀ y ∈ l.take i, y ≠ v) : idxN l v = i := by
  unfold idxN
  rw [if_pos (e ▸ List.getElem_mem h), (List.findIdx_eq (p := fun y => decide (y = v)) h).2 ⟨by simp [e], fun j hj => ?_⟩]
  refine decide_eq_false (hb _ ?_)
  exact List.mem_take_iff_getElem.2 ⟨j, by omega, rfl⟩
theorem idxN_none {l : List Int} {v : Int} (h : ∀ y ∈ l, y ≠ v) : idxN l v = -1 := by
  unfold idxN
  rw [if_neg fun hm => h v hm rfl]
theorem idxN_has (l : List Int) (v : Int) : decide (idxN l v ≥ 0) = decide (v ∈ l) := by
  unfold idxN
  split <;> simp_all
theorem keepI_mem {is : List TInstr} {gone : List Int} : ∀ {j : Nat}, j ≤ is.length → ∀ x ∈ keepI is gone j, x ∈ is
  | 0, _, x, h => by cases h
  | j + 1, hj, x, h => by
    unfold keepI at h
    rcases List.mem_append.1 h with h | h
    · exact keepI_mem (by omega) x h
    · split at h
      · cases h
      · rw [insAt_get (by omega)] at h
        simp only [List.mem_singleton] at h
        subst h
        exact List.getElem_mem _
section
variable {G : World → Prop}
theorem slicesIndexN_ct (lo : Nat) (l : List Int) (v : Int) (hn : l.length ≤ 1048576) : Ct Tryz.prog G 200 [.sl lo 1 (intR l), .int .i64 v] (fun _ => .int .i64 (idxN l v)) := by
  refine ct_enter Tryz.func200 rfl Tryz.ntmps200 rfl rfl fun w0 _ hG => ?_
  have hlen := intR_length l
  repeat' (first | ((with_reducible apply o_y); exact y_; rfl) | with_reducible refine al_none rfl ?_ | (with_reducible first | apply aw_seq | apply aw_region | apply al_nil | apply aq_then | apply aw_block))
  apply aw_loopk (X := Nat) [0, 1, 7] (fun i => [(8, .int .i64 (i : Int))]) (fun _ => []) (fun i => i ≤ l.length ∧ ∀ y ∈ l.take i, y ≠ v) (fun i => l.length - i) 0 ⟨Nat.zero_le _, by simp⟩
  exact kp_; (repeat (first | exact Weak.envNil | refine Weak.envCons we_ ?_))
  · exact .refl _
  rintro i ⟨hi, hs⟩
  try dsimp only
  by_cases hlt : i < l.length
  · have hrow := intR_get hlt
    have hta := take_all (p := fun y => y ≠ v) hlt hs
    have htr : l[i] = v → idxN l v = i := fun e => idxN_at hlt e hs
    generalize l[i] = x at hrow hta htr
    by_cases hx : x = v
    · rw [htr hx]
      have hx2 : v = x := hx.symm
      repeat' (first | ((with_reducible apply o_y); exact y_; rfl) | with_reducible refine al_none rfl ?_ | (with_reducible first | apply aw_seq | apply aw_region | apply al_nil | apply aq_then | apply aw_block | apply aw_skip | apply aw_ret | apply aq_then_ret | apply aq_block_ret) | (refine aw_cond_dt rfl rr_ dd_ ?_))
      refine aq_ret1 x_ rfl (.tmp _ _ rfl) (fun _ => ?_)
      exact Fin.flat rfl
    · have hx2 : ¬ v = x := fun e => hx e.symm
      repeat' (first | ((with_reducible apply o_y); exact y_; rfl) | with_reducible refine al_none rfl ?_ | (with_reducible first | apply aw_seq | apply aw_region | apply al_nil | apply aq_then | apply aw_block | apply aw_skip | apply aq_block) | (refine aw_cond_dt rfl rr_ dd_ ?_) | (refine aw_cond_df rfl rr_ dd_ ?_))
      exact aq_round (i + 1) ⟨by omega, hta hx⟩ (by omega) (.of _ nw_ od_ pk_)
  · rw [List.take_of_length_le (by omega)] at hs
    rw [idxN_none hs]
    repeat' (first | ((with_reducible apply o_y); exact y_; rfl) | with_reducible refine al_none rfl ?_ | (with_reducible first | apply aw_seq | apply aw_region | apply al_nil | apply aq_then | apply aw_exit | apply aw_ret | apply aq_block_hit | apply aq_then_exit) | (refine aw_cond_df rfl rr_ dd_ ?_))
    refine aq_ret1 x_ rfl (.tmp _ _ rfl) (fun _ => ?_)
    exact Fin.flat rfl
theorem slicesContainsN_ct (hst : Stable G) (lo : Nat) (l : List Int) (v : Int) (hn : l.length ≤ 1048576) : Ct Tryz.prog G 141 [.sl lo 1 (intR l), .int .i64 v] (fun _ => .bool (decide (v ∈ l))) := by
  rw [← idxN_has]
  refine ct_enter Tryz.func141 rfl Tryz.ntmps141 rfl rfl fun w0 _ hG => ?_
  repeat' (first | ((with_reducible apply o_y); exact y_; rfl) | refine e_call hG hst (slicesIndexN_ct lo l v hn) ?_ | with_reducible refine al_none rfl ?_ | (with_reducible first | apply aw_seq | apply aw_region | apply al_nil | apply aq_then | apply aw_ret))
  refine aq_ret1 x_ rfl (.tmp _ _ rfl) (fun _ => ?_)
  exact Fin.flat rfl
/-- The new places of the first ones. -/
def toL (gone : List Int) (j : Nat) : List Int := (List.range j).map fun k => (toA gone k : Int)
theorem toL_len (gone : List Int) (j : Nat) : (toL gone j).length = j := by simp [toL]
theorem toL_snoc (gone : List Int) (j : Nat) : toL gone j ++ [(toA gone j : Int)] = toL gone (j + 1) := by
  unfold toL
  rw [List.range_succ, List.map_append]; rfl
theorem toL_get {gone : List Int} {j k : Nat} (h : k < j) : (intR (toL gone j))[k]? = some [.int .i64 (toA gone k : Int)] := by
  rw [intR_get (by rw [toL_len]; exact h)]
  simp [toL]
/-- The labels of an instruction turned, the first ones. -/
def mapQ (f : Int → Int) (x : TInstr) (q : Nat) : TInstr := ⟨x.op, if 1 ∈ (labOff x.op).take q then f x.a else x.a, if 2 ∈ (labOff x.op).take q then f x.b else x.b, x.text⟩
theorem mapQ_zero (f : Int → Int) (x : TInstr) : mapQ f x 0 = x := by simp [mapQ]
theorem mapQ_full (f : Int → Int) (x : TInstr) : mapQ f x (labOff x.op).length = mapI f x := by
  unfold mapQ mapI
  rw [List.take_length]
  have h1 := mem_labA x.op
  have h2 := mem_labB x.op
  simp only [h1, h2]
theorem mapQ_step (f : Int → Int) (op a b : Int) (t : ByteArray) {q : Nat} (h : q < (labOff op).length) : ((labOff op)[q] = 1 → (mapQ f ⟨op, a, b, t⟩ q).a = a ∧ mapQ f ⟨op, a, b, t⟩ (q + 1) = ⟨op, f a, (mapQ f ⟨op, a, b, t⟩ q).b, t⟩) ∧
    ((labOff op)[q] = 2 → (mapQ f ⟨op, a, b, t⟩ q).b = b ∧ mapQ f ⟨op, a, b, t⟩ (q + 1) = ⟨op, (mapQ f ⟨op, a, b, t⟩ q).a, f b, t⟩) := by
  have hc : labOff op = [1] ∨ labOff op = [1, 2] ∨ labOff op = [2] ∨ labOff op = [] := by
    unfold labOff
    repeat' split
    all_goals simp
  unfold mapQ
  dsimp only
  generalize labOff op = l at h hc
  rcases hc with rfl | rfl | rfl | rfl
  · match q, h with
    | 0, _ => simp
  · match q, h with
    | 0, _ => simp
    | 1, _ => simp
  · match q, h with
    | 0, _ => simp
  · cases h
set_option maxHeartbeats 1000000 in
theorem remove_ctm (hst : Stable G) (lo l2 : Nat) (bl : Bool) (pr sl : Int) (is : List TInstr) (hn : is.length ≤ 900) (gone : List Int) (hgl : gone.length ≤ 9)
    (hp : ∀ x ∈ is, ∀ o ∈ labOff x.op, 0 ≤ labV x.a x.b o ∧ labV x.a x.b o < is.length) :
    CtM Tryz.prog G 61 [.agg [.bool bl, .int .i64 pr, .int .i64 sl, .sl lo 4 (is.map (TInstr.tw 0))], .sl l2 1 (intR gone)] [] (fun _ : Nat × Nat => True)
      (fun y => [(y.1, y.2, .row 4 ((remL is gone).map (TInstr.tw 0)))]) (fun y => .agg [.bool bl, .int .i64 pr, .int .i64 sl, .ms y.1 y.2 0 (remL is gone).length]) := by
  refine ctm_enter Tryz.func61 rfl Tryz.ntmps61 rfl rfl rfl fun w0 R gs objsR hG hR => ?_
  obtain rfl := hR.inv0
  clear hR
  have hil := TInstr.len 0 is
  repeat' (first | ((with_reducible apply o_boxM); rfl; rfl; rfl; intro ss bb) | (refine e_alloc ?_; intro ss bb) | with_reducible refine aw_hold_r (id := 1) ?_ | with_reducible refine al_none rfl ?_ | (with_reducible first | apply aw_seq | apply aw_region | apply al_nil | apply aq_then))
  refine ⟨?_⟩
  rename_i s2 b2
  generalize ss = s4; generalize bb = b4
  repeat' (first | ((with_reducible apply o_y); exact y_; rfl) | (refine e_own ?_; intro ss bb) | with_reducible refine al_none rfl ?_ | (with_reducible first | apply aw_seq | apply aw_region | apply al_nil | apply aq_then | apply aw_block))
  rename_i s5 b5
  generalize ss = s6; generalize bb = b6
  apply aw_loopk (X := Nat × Nat × Nat) [1, 2, 4, 15, 16, 1000000] (fun y => [(17, .int .i64 (y.1 : Int)), (5, .ms s5 y.2.1 0 y.1), (6, .ms s6 y.2.2 0 (toA gone y.1))])
    (fun y => (s6, y.2.2, .row 4 ((keepI is gone y.1).map (TInstr.tw 0))) :: (s5, y.2.1, .row 1 (intR (toL gone y.1))) :: (s4, b4, .box [.bool false, .int .i64 0, .int .i64 0, .nils]) :: (s2, b2, .box [.bool bl, .int .i64 pr, .int .i64 sl, .sl lo 4 (is.map (TInstr.tw 0))]) :: R)
    (fun y => y.1 ≤ is.length) (fun y => is.length - y.1) (0, b5, b6) (Nat.zero_le _)
  exact kp_; (repeat (first | exact Weak.envNil | refine Weak.envCons we_ ?_))
  · exact .refl _
  rintro ⟨i, c5, c6⟩ hi
  dsimp only at hi ⊢
  have hta := toA_le gone i
  have hkl := keepI_len is gone i
  have hkm : ((keepI is gone i).map (TInstr.tw 0)).length = toA gone i := by rw [List.length_map, hkl]
  have htl : (intR (toL gone i)).length = i := by rw [intR_length, toL_len]
  by_cases hlt : i < is.length
  · have hri : (is.map (TInstr.tw 0))[i]? = some (is[i].tw 0) := row_map hlt
    have hct := slicesContainsN_ct hst l2 gone (i : Int) (by omega)
    have hts : intR (toL gone i) ++ [[.int .i64 (toA gone i : Int)]] = intR (toL gone (i + 1)) := by rw [← toL_snoc]; simp [intR]
    have hks : toA gone (i + 1) = toA gone i + if (i : Int) ∈ gone then 0 else 1 := rfl
    have hki : keepI is gone (i + 1) = keepI is gone i ++ if (i : Int) ∈ gone then [] else [insAt is i] := rfl
    rw [insAt_get hlt] at hki
    generalize is[i] = x at hri hki
    obtain ⟨op, a, b, t⟩ := x
    rw [show TInstr.tw 0 ⟨op, a, b, t⟩ = [.int .i64 op, .int .i64 a, .int .i64 b, .str t] from rfl] at hri
    by_cases hm : (i : Int) ∈ gone
    · rw [decide_eq_true hm] at hct
      rw [if_pos hm] at hks hki
      repeat' (first | ((with_reducible apply o_y); exact y_; rfl) | (refine e_alloc ?_; intro ss bb) | refine e_storep ?_ | refine e_lit ?_ | refine e_call hG hst (hct) ?_ | ((with_reducible apply o_append); rfl; rfl; rfl; kernel_rfl; (repeat (first | with_reducible exact mh | with_reducible refine mt ?_)); exact htl; ((show List.length _ = 1; rfl)); omega; exact hts; (intro bq; (repeat (first | with_reducible exact Upd.head _ | with_reducible apply Upd.tail))); intro bb) | with_reducible refine al_none rfl ?_ | (with_reducible first | apply aw_seq | apply aw_region | apply al_nil | apply aq_then | apply aw_block | apply aw_skip | apply aq_block) | refine aw_cond_f rfl rr_ ?_ | (refine aw_cond_dt rfl rr_ dd_ ?_))
      have hk2 : toA gone (i + 1) = toA gone i := by omega
      exact aq_round (i + 1, bb, c6) (by dsimp only; omega) (by dsimp only; omega) (.of _ (by dsimp only; rw [hk2]; exact nw_) od_ (by dsimp only; rw [hki, List.append_nil]; exact pk_))
    · rw [decide_eq_false hm] at hct
      rw [if_neg hm] at hks hki
      have hkr : (keepI is gone i).map (TInstr.tw 0) ++ [[.int .i64 op, .int .i64 a, .int .i64 b, .str t]] = (keepI is gone (i + 1)).map (TInstr.tw 0) := by rw [hki, List.map_append]; rfl
      repeat' (first | ((with_reducible apply o_y); exact y_; rfl) | (refine e_alloc ?_; intro ss bb) | refine e_storep ?_ | refine e_lit ?_ | refine e_call hG hst (hct) ?_ | ((with_reducible apply o_append); rfl; rfl; rfl; kernel_rfl; (repeat (first | with_reducible exact mh | with_reducible refine mt ?_)); (first | exact htl | exact hkm); ((show List.length _ = 1; rfl)); omega; (first | exact hts | exact hkr); (intro bq; (repeat (first | with_reducible exact Upd.head _ | with_reducible apply Upd.tail))); intro bb) | with_reducible refine al_none rfl ?_ | (with_reducible first | apply aw_seq | apply aw_region | apply al_nil | apply aq_then | apply aw_block | apply aw_skip | apply aq_block) | refine aw_cond_t rfl rr_ ?_ | (refine aw_cond_dt rfl rr_ dd_ ?_))
      rename_i bb1
      exact aq_round (i + 1, bb1, bb) (by dsimp only; omega) (by dsimp only; omega) (.of _ (by dsimp only; rw [hks]; exact nw_) od_ pk_)
  · obtain rfl : i = is.length := by omega
    have hfull : remL is gone = (keepI is gone is.length).map (mapI fun v => (toA gone v.toNat : Int)) := rfl
    have hmem := keepI_mem (is := is) (gone := gone) (Nat.le_refl _)
    have hlen : (remL is gone).length = toA gone is.length := by rw [hfull, List.length_map, hkl]
    rw [hlen, hfull]
    clear hfull hlen hkm
    generalize toA gone is.length = n at *
    generalize keepI is gone is.length = L at *
    have hz := mapP_zero (mapI fun v => (toA gone v.toNat : Int)) L
    repeat' (first | ((with_reducible apply o_y); exact y_; rfl) | with_reducible refine al_none rfl ?_ | (with_reducible first | apply aw_seq | apply aw_region | apply al_nil | apply aq_then | apply aw_block | apply aw_exit | apply aq_block_hit | apply aq_then_exit) | (refine aw_cond_df rfl rr_ dd_ ?_))
    apply aw_loopk (X := Nat) [2, 4, 5, 6, 37, 1000000] (fun y => [(38, .int .i64 (y : Int))])
      (fun y => (s6, c6, .row 4 ((mapP (mapI fun v => (toA gone v.toNat : Int)) L y).map (TInstr.tw 0))) :: (s5, c5, .row 1 (intR (toL gone is.length))) :: (s4, b4, .box [.bool false, .int .i64 0, .int .i64 0, .nils]) :: (s2, b2, .box [.bool bl, .int .i64 pr, .int .i64 sl, .sl lo 4 (is.map (TInstr.tw 0))]) :: R)
      (fun y => y ≤ n) (fun y => n - y) 0 (Nat.zero_le _)
    exact kp_; (repeat (first | exact Weak.envNil | refine Weak.envCons we_ ?_))
    · rw [hz]; exact .refl _
    intro i hi
    have hml : ((mapP (mapI fun v => (toA gone v.toNat : Int)) L i).map (TInstr.tw 0)).length = n := by rw [List.length_map, mapP_len _ (by omega), hkl]
    by_cases hin : i < n
    · have hiL : i < L.length := by omega
      have hri : ((mapP (mapI fun v => (toA gone v.toNat : Int)) L i).map (TInstr.tw 0))[i]? = some (L[i].tw 0) := by rw [List.getElem?_map, mapP_get _ hiL]; rfl
      have hset := mapP_tw (mapI fun v => (toA gone v.toNat : Int)) hiL rfl
      have hpi := hp _ (hmem _ (List.getElem_mem hiL))
      generalize (mapP (mapI fun v => (toA gone v.toNat : Int)) L i).map (TInstr.tw 0) = T at *
      rw [← mapQ_full] at hset
      generalize L[i] = x at hri hset hpi
      obtain ⟨op, a, b, t⟩ := x
      dsimp only at hpi hset
      rw [show TInstr.tw 0 ⟨op, a, b, t⟩ = [.int .i64 op, .int .i64 a, .int .i64 b, .str t] from rfl] at hri
      have hstep := fun q => mapQ_step (fun v => (toA gone v.toNat : Int)) op a b t (q := q)
      have hq0 : T = T.set i ((mapQ (fun v => (toA gone v.toNat : Int)) ⟨op, a, b, t⟩ 0).tw 0) := by
        rw [mapQ_zero]
        refine (List.ext_getElem? fun k => ?_)
        rw [List.getElem?_set]
        split
        · rename_i e; subst e; rw [if_pos (by omega)]; exact hri
        · rfl
      repeat' (first | ((with_reducible apply o_y); exact y_; rfl) | ((with_reducible apply o_callM); rfl; kernel_rfl; (repeat (first | exact ArgsM.nil | ((with_reducible apply ArgsM.cons); rfl))); exact hG; exact labelsOfM_ct s6 c6 i T op a b t hri; exact .cons _ _ _ _ (.nil _); intro y _; obtain ⟨sl5, bl5⟩ := y; refine al_app2 ?_) | with_reducible refine al_none rfl ?_ | (with_reducible first | apply aw_seq | apply aw_region | apply al_nil | apply aq_then | apply aw_block | apply aw_skip) | (refine aw_cond_dt rfl rr_ dd_ ?_))
      apply aw_loopk (X := Nat) [2, 4, 5, 6, 37, 38, 44, 45, 1000000] (fun q => [(46, .int .i64 (q : Int))]) (fun q => (sl5, bl5, .row 1 (labM op s6 c6 i)) :: (s6, c6, .row 4 (T.set i ((mapQ (fun v => (toA gone v.toNat : Int)) ⟨op, a, b, t⟩ q).tw 0))) :: (s5, c5, .row 1 (intR (toL gone is.length))) :: (s4, b4, .box [.bool false, .int .i64 0, .int .i64 0, .nils]) :: (s2, b2, .box [.bool bl, .int .i64 pr, .int .i64 sl, .sl lo 4 (is.map (TInstr.tw 0))]) :: R) (fun q => q ≤ (labOff op).length) (fun q => (labOff op).length - q) 0 (Nat.zero_le _)
      exact kp_; (repeat (first | exact Weak.envNil | refine Weak.envCons we_ ?_))
      · rw [← hq0]; exact .refl _
      intro q hq
      have hlr := labM_length op s6 c6 i
      have hol := labOff_le op
      by_cases hqlt : q < (labOff op).length
      · have hrow := labM_get (s := s6) (b := c6) (k := i) hqlt
        have hmem2 := labOff_mem (List.getElem_mem hqlt)
        have hin2 := hpi _ (List.getElem_mem hqlt)
        have hs2 := hstep q hqlt
        have hrq : (T.set i ((mapQ (fun v => (toA gone v.toNat : Int)) ⟨op, a, b, t⟩ q).tw 0))[i]? = some ((mapQ (fun v => (toA gone v.toNat : Int)) ⟨op, a, b, t⟩ q).tw 0) := by rw [List.getElem?_set, if_pos rfl, if_pos (by omega)]
        have hop : (mapQ (fun v => (toA gone v.toNat : Int)) ⟨op, a, b, t⟩ q).op = op ∧ (mapQ (fun v => (toA gone v.toNat : Int)) ⟨op, a, b, t⟩ q).text = t := ⟨rfl, rfl⟩
        generalize (labOff op)[q] = o at hrow hmem2 hin2 hs2
        generalize mapQ (fun v => (toA gone v.toNat : Int)) ⟨op, a, b, t⟩ q = z at hrq hs2 hop ⊢
        obtain ⟨zo, za, zb, zt⟩ := z
        obtain ⟨rfl, rfl⟩ := hop
        dsimp only at hs2
        obtain ⟨vn, hvn⟩ : ∃ vn : Nat, labV a b o = (vn : Int) := ⟨(labV a b o).toNat, by omega⟩
        rw [hvn] at hin2
        have hrb := toL_get (gone := gone) (j := is.length) (k := vn) (by omega)
        rw [show ∀ o a b t, TInstr.tw 0 ⟨o, a, b, t⟩ = [.int .i64 o, .int .i64 a, .int .i64 b, .str t] from fun _ _ _ _ => rfl] at hrq ⊢
        rcases hmem2 with rfl | rfl
        · obtain rfl : a = (vn : Int) := hvn
          obtain ⟨e1, e2⟩ := hs2.1 rfl
          simp only [Int.toNat_natCast] at e2
          subst e1
          repeat' (first | ((with_reducible apply o_y); exact y_; rfl) | refine e_store ?_ | with_reducible refine al_none rfl ?_ | (with_reducible first | apply aw_seq | apply aw_region | apply al_nil | apply aq_then | apply aw_block | apply aw_skip | apply aq_block) | (refine aw_cond_dt rfl rr_ dd_ ?_))
          exact aq_round (q + 1) (by omega) (by omega) (.of _ nw_ od_ (by rw [List.set_set, e2]; exact pk_))
        · obtain rfl : b = (vn : Int) := hvn
          obtain ⟨e1, e2⟩ := hs2.2 rfl
          simp only [Int.toNat_natCast] at e2
          subst e1
          repeat' (first | ((with_reducible apply o_y); exact y_; rfl) | refine e_store ?_ | with_reducible refine al_none rfl ?_ | (with_reducible first | apply aw_seq | apply aw_region | apply al_nil | apply aq_then | apply aw_block | apply aw_skip | apply aq_block) | (refine aw_cond_dt rfl rr_ dd_ ?_))
          exact aq_round (q + 1) (by omega) (by omega) (.of _ nw_ od_ (by rw [List.set_set, e2]; exact pk_))
      · obtain rfl : q = (labOff op).length := by omega
        rw [hset]
        repeat' (first | ((with_reducible apply o_y); exact y_; rfl) | with_reducible refine al_none rfl ?_ | (with_reducible first | apply aw_seq | apply aw_region | apply al_nil | apply aq_then | apply aw_exit | apply aq_block_hit | apply aq_then_exit | apply aq_block) | (refine aw_cond_df rfl rr_ dd_ ?_))
        exact aq_round (i + 1) (by omega) (by omega) (.of _ nw_ od_ pk_)
    · obtain rfl : i = n := by omega
      rw [← hkl, mapP_full]
      repeat' (first | ((with_reducible apply o_y); exact y_; rfl) | refine e_storep ?_ | with_reducible refine al_none rfl ?_ | (with_reducible first | apply aw_seq | apply aw_region | apply al_nil | apply aq_then | apply aw_exit | apply aw_ret | apply aq_block_hit | apply aq_then_exit) | (refine aw_cond_df rfl rr_ dd_ ?_))
      exact aq_retm1 (t1 := .agg [.bool bl, .int .i64 pr, .int .i64 sl, .ms s6 c6 0 L.length]) x_ rfl (s6, c6) trivial rfl (.cons _ _ _ _ (.nil R)) pk_ (.cell _ _ _ _ _ rfl mm_ (by kernel_rfl) (by kernel_rfl) (by kernel_rfl)) rfl
end
end Go.Proofs.YthpdkhejeookhaaGreatDoor
/- EditsOf of the program: whether an edit fits, and what is removed then. Written by gen_ede.py. -/
namespace Go.Proofs.YthpdkhejeookhaaGreatDoor
set_option maxRecDepth 20000
open Go Go.RowKit
section
variable {G : World → Prop}
set_option maxHeartbeats 8000000 in
theorem editFits_ct (hst : Stable G) (lo l2 l3 : Nat) (bl : Bool) (pr sl : Int) (is : List TInstr) (hok : CodeOk is) (lab : List Bool) (hll : lab.length = is.length + 1) (ds : List Int) (hdl : ds.length = is.length) (n : Nat) (hlt : n < is.length) (kind : Int) :
    Ct Tryz.prog G 59 [.agg [.bool bl, .int .i64 pr, .int .i64 sl, .sl lo 4 (is.map (TInstr.tw lo))], .sl l2 1 (boolR lab), .sl l3 1 (intR ds), .int .i64 (n : Int), .int .i64 kind] (fun K => .tup [.sl K 1 (intR (goneL n kind.toNat)), .bool (fitsB is lab ds n (insAt is n) kind.toNat)]) := by
  refine ct_enter Tryz.func59 rfl Tryz.ntmps59 rfl rfl fun w0 _ hG => ?_
  have hn := hok.len
  have hil := TInstr.len lo is
  have hbl := boolR_len lab
  have hid := intR_length ds
  have hrow0 := tinstr_row (lo := lo) hlt
  have hla := lab_in hok.pre (List.getElem_mem hlt)
  have hro := fun k (h : k < is.length) => tinstr_row (lo := lo) h
  have hio := fun k (h : k < is.length) => insAt_get h
  have hrd : (intR ds)[n]? = some [.int .i64 (gd ds n)] := by rw [gd_get (by omega)]; exact intR_get (by omega)
  have hc1 := editFits1_ct (G := G) lo w0.heap.size l2 (n + 1) is (by omega) lab hll
  have hc2 := editFits1_ct (G := G) lo w0.heap.size l2 (n + 2) is (by omega) lab hll
  have hop2 : opFr is lab (n + 2) = 8 → n + 2 < is.length ∧ (insAt is (n + 2)).op = 8 := fun h => by
    unfold opFr at h
    split at h
    · rename_i h2; exact ⟨h2.1, h⟩
    · omega
  have hF1 : ∀ x : TInstr, fitsB is lab ds n x (1 : Int).toNat = decide (pureOp x.op ∧ opFr is lab (n + 1) = 16) := fun _ => rfl
  have hF2 : ∀ x : TInstr, fitsB is lab ds n x (2 : Int).toNat = decide (x.op = 20 ∧ x.a = (n : Int) + 1) := fun _ => rfl
  have hF3 : ∀ x : TInstr, fitsB is lab ds n x (3 : Int).toNat = decide (x.op = 9 ∧ opFr is lab (n + 1) = 16 ∧ opFr is lab (n + 2) = 8 ∧ (insAt is (n + 2)).a = x.a ∧ (insAt is (n + 2)).b = x.b) := fun _ => rfl
  have hF4 : ∀ x : TInstr, fitsB is lab ds n x (4 : Int).toNat = decide (x.op = 20 ∧ x.a ≠ n ∧ (insAt is x.a.toNat).op = 20 ∧ (insAt is x.a.toNat).a ≠ x.a) := fun _ => rfl
  have hF5 : ∀ x : TInstr, fitsB is lab ds n x (5 : Int).toNat = decide (gd ds n = -1 ∧ x.op ≠ 15 ∧ 1 < is.length) := fun _ => rfl
  have hF0 : ¬ kind = 1 → ¬ kind = 2 → ¬ kind = 3 → ¬ kind = 4 → ¬ kind = 5 → ∀ x : TInstr, fitsB is lab ds n x kind.toNat = false ∧ goneL n kind.toNat = [] := fun h1 h2 h3 h4 h5 x => by
    refine ⟨?_, ?_⟩
    · unfold fitsB
      rw [if_neg (by omega), if_neg (by omega), if_neg (by omega), if_neg (by omega), if_neg (by omega)]
    · unfold goneL
      rw [if_neg (by omega), if_neg (by omega), if_neg (by omega), if_neg (by omega), if_neg (by omega)]
  have hg1 : intR (goneL n (1 : Int).toNat) = [[.int .i64 (n : Int)], [.int .i64 ((n + 1 : Nat) : Int)]] := by simp [goneL, intR]
  have hg2 : intR (goneL n (2 : Int).toNat) = [[.int .i64 (n : Int)]] := by simp [goneL, intR]
  have hg3 : intR (goneL n (3 : Int).toNat) = [[.int .i64 ((n + 1 : Nat) : Int)], [.int .i64 ((n + 2 : Nat) : Int)]] := by simp [goneL, intR]
  have hg4 : intR (goneL n (4 : Int).toNat) = [] := by simp [goneL, intR]
  have hg5 : intR (goneL n (5 : Int).toNat) = [[.int .i64 (n : Int)]] := by simp [goneL, intR]
  rw [hio n hlt]
  generalize is[n] = x at hrow0 hla ⊢
  obtain ⟨op, a, b, t⟩ := x
  dsimp only at hrow0 hla
  repeat' (first | ((with_reducible apply o_y); exact y_; rfl) | refine e_box ?_ | (refine e_alloc ?_; intro ss bb) | refine e_storep ?_ | refine e_mkf ?_ | with_reducible refine aw_hold_r (id := 4) ?_ | with_reducible refine al_none rfl ?_ | (with_reducible first | apply aw_seq | apply aw_region | apply al_nil | apply aq_then))
  refine ⟨?_⟩
  have hkk : kind = 1 ∨ kind = 2 ∨ kind = 3 ∨ kind = 4 ∨ kind = 5 ∨ (¬ kind = 1 ∧ ¬ kind = 2 ∧ ¬ kind = 3 ∧ ¬ kind = 4 ∧ ¬ kind = 5) := by omega
  rcases hkk with h | h | h | h | h | ⟨k1, k2, k3, k4, k5⟩
  · subst h
    rw [hg1, hF1]
    clear hF1 hF2 hF3 hF4 hF5 hF0 hg1 hg2 hg3 hg4 hg5 hop2 hio hro hc2
    dsimp only
    have hwi := within_ct (G := G) op 1 8
    generalize opFr is lab (n + 1) = o1 at hc1 ⊢
    by_cases h18 : inR op 1 8 = true
    · rw [h18] at hwi
      have hp : pureOp op := .inl (inR_b h18)
      rw [show decide (pureOp op ∧ o1 = 16) = decide (o1 = 16) by simp [hp]]
      repeat' (first | ((with_reducible apply o_y); exact y_; rfl) | refine e_lit ?_ | refine e_call hG hst (hwi) ?_ | ((with_reducible apply o_callF); rfl; rfl; kernel_rfl; exact hG; exact hst; (repeat (first | exact Args.nil | ((with_reducible apply Args.cons); rfl; exact .same _))); (repeat (first | exact Views.nil | ((with_reducible apply Views.cons); (first | ((with_reducible apply View.mpSame); (repeat (first | with_reducible exact mh | with_reducible refine mt ?_))) | exact View.same _)))); rfl; exact hc1) | with_reducible refine al_none rfl ?_ | (with_reducible first | apply aw_seq | apply aw_region | apply al_nil | apply aq_then | apply aw_block | apply aw_ret | apply aq_then_ret | apply aq_block_ret) | refine al_run rfl rfl rfl rr_ ?_ | refine al_skip rfl rfl rfl rr_ rfl rfl rfl ?_ | (refine aw_cond_dt rfl rr_ dd_ ?_))
      all_goals
        refine aq_ret2 x_ rfl (.tmp _ _ rfl) (.tmp _ _ rfl) (fun _ => ?_) (fun _ => ?_)
        · first
            | exact Fin.nils _
            | exact Fin.slFlat (Nat.le_refl _) (by simp [TV.flat])
        · refine fin_bool ?_
          first
            | (rw [decide_eq_decide]; omega)
            | (symm; rw [decide_eq_false_iff_not]; omega)
            | (symm; rw [decide_eq_true_iff]; omega)
            | (simp [*]; done)
            | (simp_all; done)
            | (simp_all; omega)
    · rw [Bool.not_eq_true] at h18
      rw [h18] at hwi
      have hp : pureOp op ↔ op = 12 ∨ op = 17 := by
        unfold pureOp
        have : ¬ (1 ≤ op ∧ op ≤ 8) := fun h => by rw [inR_t h] at h18; cases h18
        omega
      rw [show decide (pureOp op ∧ o1 = 16) = decide ((op = 12 ∨ op = 17) ∧ o1 = 16) by simp only [hp]]
      repeat' (first | ((with_reducible apply o_y); exact y_; rfl) | refine e_lit ?_ | refine e_call hG hst (hwi) ?_ | ((with_reducible apply o_callF); rfl; rfl; kernel_rfl; exact hG; exact hst; (repeat (first | exact Args.nil | ((with_reducible apply Args.cons); rfl; exact .same _))); (repeat (first | exact Views.nil | ((with_reducible apply Views.cons); (first | ((with_reducible apply View.mpSame); (repeat (first | with_reducible exact mh | with_reducible refine mt ?_))) | exact View.same _)))); rfl; exact hc1) | with_reducible refine al_none rfl ?_ | (with_reducible first | apply aw_seq | apply aw_region | apply al_nil | apply aq_then | apply aw_block | apply aw_ret | apply aq_then_ret | apply aq_block_ret) | refine al_run rfl rfl rfl rr_ ?_ | refine al_skip rfl rfl rfl rr_ rfl rfl rfl ?_ | (refine al_gsplit rfl rfl rfl rr_ (fun hg => ?_) (fun hg => ?_)) | (refine aw_cond_dt rfl rr_ dd_ ?_))
      all_goals
        refine aq_ret2 x_ rfl (.tmp _ _ rfl) (.tmp _ _ rfl) (fun _ => ?_) (fun _ => ?_)
        · first
            | exact Fin.nils _
            | exact Fin.slFlat (Nat.le_refl _) (by simp [TV.flat])
        · refine fin_bool ?_
          first
            | (rw [decide_eq_decide]; omega)
            | (symm; rw [decide_eq_false_iff_not]; omega)
            | (symm; rw [decide_eq_true_iff]; omega)
            | (simp [*]; done)
            | (simp_all; done)
            | (simp_all; omega)
  · subst h
    rw [hg2, hF2]
    clear hF1 hF2 hF3 hF4 hF5 hF0 hg1 hg2 hg3 hg4 hg5 hop2 hio hro hc1 hc2
    dsimp only
    repeat' (first | ((with_reducible apply o_y); exact y_; rfl) | with_reducible refine aw_draw (by kernel_rfl) (by kernel_rfl) ?_ | with_reducible refine dr_nil ?_ | with_reducible refine dr_none rfl ?_ | refine dr_run rfl rfl rfl rr_ ?_ | refine dr_skip rfl rfl rfl rr_ rfl rfl rfl ?_ | (refine dr_gsplit rfl rfl rfl rr_ (fun hg => ?_) (fun hg => ?_)) | ((with_reducible apply d_y); exact y_; rfl) | refine e_litd ?_ | with_reducible refine al_none rfl ?_ | (with_reducible first | apply aw_seq | apply aw_region | apply al_nil | apply aq_then | apply aw_block | apply aw_ret | apply aq_then_ret | apply aq_block_ret) | (refine aw_cond_dt rfl rr_ dd_ ?_) | (refine aw_cond_df rfl rr_ dd_ ?_))
    all_goals
      refine aq_ret2 x_ rfl (.tmp _ _ rfl) (.tmp _ _ rfl) (fun _ => ?_) (fun _ => ?_)
      · first
          | exact Fin.nils _
          | exact Fin.slFlat (Nat.le_refl _) (by simp [TV.flat])
      · refine fin_bool ?_
        first
          | (rw [decide_eq_decide]; omega)
          | (symm; rw [decide_eq_false_iff_not]; omega)
          | (symm; rw [decide_eq_true_iff]; omega)
          | (simp [*]; done)
          | (simp_all; done)
          | (simp_all; omega)
  · subst h
    rw [hg3, hF3]
    clear hF1 hF2 hF3 hF4 hF5 hF0 hg1 hg2 hg3 hg4 hg5
    dsimp only
    by_cases h9 : op = 9
    case neg =>
      generalize opFr is lab (n + 1) = o1 at hc1 ⊢
      generalize opFr is lab (n + 2) = o2 at hc2 ⊢
      repeat' (first | ((with_reducible apply o_y); exact y_; rfl) | with_reducible refine aw_draw (by kernel_rfl) (by kernel_rfl) ?_ | with_reducible refine dr_nil ?_ | with_reducible refine dr_none rfl ?_ | refine dr_skip rfl rfl rfl rr_ rfl rfl rfl ?_ | (refine dr_gf rfl rfl rfl rr_ dd_ ?_) | ((with_reducible apply d_y); exact y_; rfl) | refine e_lit ?_ | with_reducible refine al_none rfl ?_ | (with_reducible first | apply aw_seq | apply aw_region | apply al_nil | apply aq_then | apply aw_block | apply aw_ret | apply aq_then_ret | apply aq_block_ret) | (refine aw_cond_dt rfl rr_ dd_ ?_) | (refine aw_cond_df rfl rr_ dd_ ?_))
      all_goals
        refine aq_ret2 x_ rfl (.tmp _ _ rfl) (.tmp _ _ rfl) (fun _ => ?_) (fun _ => ?_)
        · first
            | exact Fin.nils _
            | exact Fin.slFlat (Nat.le_refl _) (by simp [TV.flat])
        · refine fin_bool ?_
          first
            | (rw [decide_eq_decide]; omega)
            | (symm; rw [decide_eq_false_iff_not]; omega)
            | (symm; rw [decide_eq_true_iff]; omega)
            | (simp [*]; done)
            | (simp_all; done)
            | (simp_all; omega)
    by_cases h16 : opFr is lab (n + 1) = 16
    case neg =>
      generalize opFr is lab (n + 1) = o1 at hc1 h16 ⊢
      generalize opFr is lab (n + 2) = o2 at hc2 ⊢
      repeat' (first | ((with_reducible apply o_y); exact y_; rfl) | with_reducible refine aw_draw (by kernel_rfl) (by kernel_rfl) ?_ | with_reducible refine dr_nil ?_ | with_reducible refine dr_none rfl ?_ | refine dr_run rfl rfl rfl rr_ ?_ | refine dr_skip rfl rfl rfl rr_ rfl rfl rfl ?_ | (refine dr_gt rfl rfl rfl rr_ dd_ ?_) | (refine dr_gf rfl rfl rfl rr_ dd_ ?_) | ((with_reducible apply d_y); exact y_; rfl) | refine e_lit ?_ | ((with_reducible apply d_callF); rfl; rfl; kernel_rfl; exact hG; exact hst; (repeat (first | exact Args.nil | ((with_reducible apply Args.cons); rfl; exact .same _))); (repeat (first | exact Views.nil | ((with_reducible apply Views.cons); (first | ((with_reducible apply View.mpSame); (repeat (first | with_reducible exact mh | with_reducible refine mt ?_))) | exact View.same _)))); rfl; exact hc1) | with_reducible refine al_none rfl ?_ | (with_reducible first | apply aw_seq | apply aw_region | apply al_nil | apply aq_then | apply aw_block | apply aw_ret | apply aq_then_ret | apply aq_block_ret) | (refine aw_cond_dt rfl rr_ dd_ ?_) | (refine aw_cond_df rfl rr_ dd_ ?_))
      all_goals
        refine aq_ret2 x_ rfl (.tmp _ _ rfl) (.tmp _ _ rfl) (fun _ => ?_) (fun _ => ?_)
        · first
            | exact Fin.nils _
            | exact Fin.slFlat (Nat.le_refl _) (by simp [TV.flat])
        · refine fin_bool ?_
          first
            | (rw [decide_eq_decide]; omega)
            | (symm; rw [decide_eq_false_iff_not]; omega)
            | (symm; rw [decide_eq_true_iff]; omega)
            | (simp [*]; done)
            | (simp_all; done)
            | (simp_all; omega)
    by_cases h8 : opFr is lab (n + 2) = 8
    case neg =>
      generalize opFr is lab (n + 1) = o1 at hc1 h16 ⊢
      generalize opFr is lab (n + 2) = o2 at hc2 h8 ⊢
      repeat' (first | ((with_reducible apply o_y); exact y_; rfl) | with_reducible refine aw_draw (by kernel_rfl) (by kernel_rfl) ?_ | with_reducible refine dr_nil ?_ | with_reducible refine dr_none rfl ?_ | refine dr_run rfl rfl rfl rr_ ?_ | refine dr_skip rfl rfl rfl rr_ rfl rfl rfl ?_ | (refine dr_gt rfl rfl rfl rr_ dd_ ?_) | (refine dr_gf rfl rfl rfl rr_ dd_ ?_) | ((with_reducible apply d_y); exact y_; rfl) | refine e_lit ?_ | ((with_reducible apply d_callF); rfl; rfl; kernel_rfl; exact hG; exact hst; (repeat (first | exact Args.nil | ((with_reducible apply Args.cons); rfl; exact .same _))); (repeat (first | exact Views.nil | ((with_reducible apply Views.cons); (first | ((with_reducible apply View.mpSame); (repeat (first | with_reducible exact mh | with_reducible refine mt ?_))) | exact View.same _)))); rfl; first | exact hc1 | exact hc2) | with_reducible refine al_none rfl ?_ | (with_reducible first | apply aw_seq | apply aw_region | apply al_nil | apply aq_then | apply aw_block | apply aw_ret | apply aq_then_ret | apply aq_block_ret) | (refine aw_cond_dt rfl rr_ dd_ ?_) | (refine aw_cond_df rfl rr_ dd_ ?_))
      all_goals
        refine aq_ret2 x_ rfl (.tmp _ _ rfl) (.tmp _ _ rfl) (fun _ => ?_) (fun _ => ?_)
        · first
            | exact Fin.nils _
            | exact Fin.slFlat (Nat.le_refl _) (by simp [TV.flat])
        · refine fin_bool ?_
          first
            | (rw [decide_eq_decide]; omega)
            | (symm; rw [decide_eq_false_iff_not]; omega)
            | (symm; rw [decide_eq_true_iff]; omega)
            | (simp [*]; done)
            | (simp_all; done)
            | (simp_all; omega)
    obtain ⟨hn2, _⟩ := hop2 h8
    have hrow2 := hro (n + 2) hn2
    rw [hio (n + 2) hn2]
    generalize opFr is lab (n + 1) = o1 at hc1 h16 ⊢
    generalize opFr is lab (n + 2) = o2 at hc2 h8 ⊢
    generalize is[n + 2] = x2 at hrow2 ⊢
    obtain ⟨o4, a4, b4, t4⟩ := x2
    dsimp only at hrow2 ⊢
    clear hop2 hio hro
    repeat' (first | ((with_reducible apply o_y); exact y_; rfl) | with_reducible refine aw_draw (by kernel_rfl) (by kernel_rfl) ?_ | with_reducible refine dr_nil ?_ | with_reducible refine dr_none rfl ?_ | refine dr_run rfl rfl rfl rr_ ?_ | refine dr_skip rfl rfl rfl rr_ rfl rfl rfl ?_ | (refine dr_gt rfl rfl rfl rr_ dd_ ?_) | (refine dr_gsplit rfl rfl rfl rr_ (fun hg => ?_) (fun hg => ?_)) | ((with_reducible apply d_y); exact y_; rfl) | refine e_lit ?_ | ((with_reducible apply d_callF); rfl; rfl; kernel_rfl; exact hG; exact hst; (repeat (first | exact Args.nil | ((with_reducible apply Args.cons); rfl; exact .same _))); (repeat (first | exact Views.nil | ((with_reducible apply Views.cons); (first | ((with_reducible apply View.mpSame); (repeat (first | with_reducible exact mh | with_reducible refine mt ?_))) | exact View.same _)))); rfl; first | exact hc1 | exact hc2) | with_reducible refine al_none rfl ?_ | (with_reducible first | apply aw_seq | apply aw_region | apply al_nil | apply aq_then | apply aw_block | apply aw_ret | apply aq_then_ret | apply aq_block_ret) | (refine aw_cond_dt rfl rr_ dd_ ?_) | (refine aw_cond_df rfl rr_ dd_ ?_))
    all_goals
      refine aq_ret2 x_ rfl (.tmp _ _ rfl) (.tmp _ _ rfl) (fun _ => ?_) (fun _ => ?_)
      · first
          | exact Fin.nils _
          | exact Fin.slFlat (Nat.le_refl _) (by simp [TV.flat])
      · refine fin_bool ?_
        first
          | (rw [decide_eq_decide]; omega)
          | (symm; rw [decide_eq_false_iff_not]; omega)
          | (symm; rw [decide_eq_true_iff]; omega)
          | (simp [*]; done)
          | (simp_all; done)
          | (simp_all; omega)
  · subst h
    rw [hg4, hF4]
    clear hF1 hF2 hF3 hF4 hF5 hF0 hg1 hg2 hg3 hg4 hg5 hop2 hc1 hc2
    dsimp only
    by_cases h20 : op = 20
    case neg =>
      generalize insAt is a.toNat = y
      repeat' (first | ((with_reducible apply o_y); exact y_; rfl) | with_reducible refine al_none rfl ?_ | (with_reducible first | apply aw_seq | apply aw_region | apply al_nil | apply aq_then | apply aw_block | apply aw_ret | apply aq_then_ret | apply aq_block_ret) | refine al_skip rfl rfl rfl rr_ rfl rfl rfl ?_ | (refine al_gt rfl rfl rfl rr_ dd_ ?_) | refine aw_cond_t rfl rr_ ?_ | (refine aw_cond_dt rfl rr_ dd_ ?_) | (refine aw_cond_df rfl rr_ dd_ ?_))
      all_goals
        refine aq_ret2 x_ rfl (.tmp _ _ rfl) (.tmp _ _ rfl) (fun _ => ?_) (fun _ => ?_)
        · first
            | exact Fin.nils _
            | exact Fin.slFlat (Nat.le_refl _) (by simp [TV.flat])
        · refine fin_bool ?_
          first
            | (rw [decide_eq_decide]; omega)
            | (symm; rw [decide_eq_false_iff_not]; omega)
            | (symm; rw [decide_eq_true_iff]; omega)
            | (simp [*]; done)
            | (simp_all; done)
            | (simp_all; omega)
    subst h20
    have hra := inR_b (List.all_eq_true.1 hla 1 (by simp [labOff_20]))
    rw [labV_1] at hra
    have hwi := within_ct (G := G) a 0 ((is.length : Int) - 1)
    rw [inR_t hra, show (is.length : Int) - 1 = ((is.length - 1 : Nat) : Int) by omega] at hwi
    obtain ⟨an, rfl⟩ : ∃ an : Nat, a = an := ⟨a.toNat, by omega⟩
    have hal : an < is.length := by omega
    have hrow4 := hro an hal
    rw [Int.toNat_natCast, hio an hal]
    generalize is[an] = x4 at hrow4 ⊢
    obtain ⟨o4, a4, b4, t4⟩ := x4
    dsimp only at hrow4 ⊢
    clear hio hro
    repeat' (first | ((with_reducible apply o_y); exact y_; rfl) | with_reducible refine aw_draw (by kernel_rfl) (by kernel_rfl) ?_ | with_reducible refine dr_nil ?_ | with_reducible refine dr_none rfl ?_ | refine dr_run rfl rfl rfl rr_ ?_ | refine dr_skip rfl rfl rfl rr_ rfl rfl rfl ?_ | (refine dr_gsplit rfl rfl rfl rr_ (fun hg => ?_) (fun hg => ?_)) | ((with_reducible apply d_y); exact y_; rfl) | (refine e_alloc ?_; intro ss bb) | refine e_storep ?_ | refine e_call hG hst (hwi) ?_ | with_reducible refine al_none rfl ?_ | (with_reducible first | apply aw_seq | apply aw_region | apply al_nil | apply aq_then | apply aw_block | apply aw_skip | apply aw_ret | apply aq_then_ret | apply aq_block_ret) | refine al_run rfl rfl rfl rr_ ?_ | refine al_skip rfl rfl rfl rr_ rfl rfl rfl ?_ | (refine al_gf rfl rfl rfl rr_ dd_ ?_) | (refine al_gsplit rfl rfl rfl rr_ (fun hg => ?_) (fun hg => ?_)) | refine aw_cond_t rfl rr_ ?_ | refine aw_cond_f rfl rr_ ?_ | (refine aw_cond_dt rfl rr_ dd_ ?_) | (refine aw_cond_df rfl rr_ dd_ ?_))
    all_goals
      refine aq_ret2 x_ rfl (.tmp _ _ rfl) (.tmp _ _ rfl) (fun _ => ?_) (fun _ => ?_)
      · first
          | exact Fin.nils _
          | exact Fin.slFlat (Nat.le_refl _) (by simp [TV.flat])
      · refine fin_bool ?_
        first
          | (rw [decide_eq_decide]; omega)
          | (symm; rw [decide_eq_false_iff_not]; omega)
          | (symm; rw [decide_eq_true_iff]; omega)
          | (simp [*]; done)
          | (simp_all; done)
          | (simp_all; omega)
  · subst h
    rw [hg5, hF5]
    clear hF1 hF2 hF3 hF4 hF5 hF0 hg1 hg2 hg3 hg4 hg5 hop2 hio hro hc1 hc2
    dsimp only
    generalize gd ds n = g at hrd ⊢
    repeat' (first | ((with_reducible apply o_y); exact y_; rfl) | with_reducible refine aw_draw (by kernel_rfl) (by kernel_rfl) ?_ | with_reducible refine dr_nil ?_ | with_reducible refine dr_none rfl ?_ | refine dr_run rfl rfl rfl rr_ ?_ | refine dr_skip rfl rfl rfl rr_ rfl rfl rfl ?_ | (refine dr_gsplit rfl rfl rfl rr_ (fun hg => ?_) (fun hg => ?_)) | ((with_reducible apply d_y); exact y_; rfl) | refine e_litd ?_ | with_reducible refine al_none rfl ?_ | (with_reducible first | apply aw_seq | apply aw_region | apply al_nil | apply aq_then | apply aw_block | apply aw_ret | apply aq_then_ret | apply aq_block_ret) | (refine aw_cond_dt rfl rr_ dd_ ?_) | (refine aw_cond_df rfl rr_ dd_ ?_))
    all_goals
      refine aq_ret2 x_ rfl (.tmp _ _ rfl) (.tmp _ _ rfl) (fun _ => ?_) (fun _ => ?_)
      · first
          | exact Fin.nils _
          | exact Fin.slFlat (Nat.le_refl _) (by simp [TV.flat])
      · refine fin_bool ?_
        first
          | (rw [decide_eq_decide]; omega)
          | (symm; rw [decide_eq_false_iff_not]; omega)
          | (symm; rw [decide_eq_true_iff]; omega)
          | (simp [*]; done)
          | (simp_all; done)
          | (simp_all; omega)
  · obtain ⟨e1, e2⟩ := hF0 k1 k2 k3 k4 k5 ⟨op, a, b, t⟩
    rw [e1, e2]
    clear hF1 hF2 hF3 hF4 hF5 hF0 hg1 hg2 hg3 hg4 hg5 hop2 hio hro hc1 hc2
    repeat' (first | ((with_reducible apply o_y); exact y_; rfl) | with_reducible refine al_none rfl ?_ | (with_reducible first | apply aw_seq | apply aw_region | apply al_nil | apply aq_then | apply aw_block | apply aw_skip | apply aw_ret | apply aq_block) | (refine aw_cond_df rfl rr_ dd_ ?_))
    all_goals
      refine aq_ret2 x_ rfl (.tmp _ _ rfl) (.tmp _ _ rfl) (fun _ => ?_) (fun _ => ?_)
      · first
          | exact Fin.nils _
          | exact Fin.slFlat (Nat.le_refl _) (by simp [TV.flat])
      · refine fin_bool ?_
        first
          | (rw [decide_eq_decide]; omega)
          | (symm; rw [decide_eq_false_iff_not]; omega)
          | (symm; rw [decide_eq_true_iff]; omega)
          | (simp [*]; done)
          | (simp_all; done)
          | (simp_all; omega)
end
end Go.Proofs.YthpdkhejeookhaaGreatDoor
/- ApplyEdit of the program. -/
namespace Go.Proofs.YthpdkhejeookhaaGreatDoor
set_option maxRecDepth 20000
open Go Go.RowKit
theorem code_pos {is : List TInstr} (h : CodeOk is) : 0 < is.length := by
  rcases Nat.eq_zero_or_pos is.length with h0 | h0
  · have := h.dep
    unfold depthsL at this
    rw [if_pos h0] at this
    cases this
  · exact h0
set_option maxHeartbeats 2000000 in
theorem implApplyEdit_ctm (hst : Stable GL) (lo : Nat) (x : TCodeBase) (hx : TCodeBase.small 1048576 x) (e : TEdit) : CtM Tryz.prog GL 17 [.agg (x.tw lo), .agg [.int .i64 e.code, .int .i64 e.at_, .int .i64 e.kind]] [] (cbI (applyB x e)) (cbO (applyB x e)) (fun y => .tup [.agg (cbC (applyB x e) y), .bool (okE x e)]) := by
  refine ctm_enter Tryz.func17 rfl Tryz.ntmps17 rfl rfl rfl fun w0 R gs objsR hG hR => ?_
  obtain rfl := hR.inv0
  clear hR
  have hver := implIsVerified_ct lo x.classes x.entries x.codes x.main hx.1 hx.2.1 hx.2.2
  have hB : verifiedB ⟨x.classes, x.codes, x.entries, x.main⟩ = verifiedB x := rfl
  rw [hB] at hver
  have hcl := TCode.len lo x.codes
  by_cases hcase : verifiedB x = true ∧ (0 ≤ e.code ∧ e.code < x.codes.length) ∧ (0 ≤ e.at_ ∧ e.at_ < (codeI x.codes e.code).length)
  case neg =>
    have hk : okE x e = false := by
      rw [Bool.eq_false_iff]
      intro h
      unfold okE at h
      rw [Bool.and_eq_true, Bool.and_eq_true, decide_eq_true_eq] at h
      obtain ⟨⟨h1, h2, h3, h4⟩, _⟩ := h
      exact hcase ⟨h1, h2, h3⟩
    rw [okE_f hk, hk]
    cases hV : verifiedB x with
    | false =>
      rw [hV] at hver
      clear hcase
      have hwi := hver
      have hwa := hver
      unfold TCodeBase.tw
      repeat' (first | ((with_reducible apply o_y); exact y_; rfl) | refine e_box ?_ | (refine e_alloc ?_; intro ss bb) | refine e_build ?_ | refine e_storep ?_ | with_reducible refine aw_draw (by kernel_rfl) (by kernel_rfl) ?_ | with_reducible refine dr_nil ?_ | with_reducible refine dr_none rfl ?_ | refine dr_skip rfl rfl rfl rr_ rfl rfl rfl ?_ | ((with_reducible apply d_y); exact y_; rfl) | refine e_calld hG hst (hver) ?_ | with_reducible refine al_none rfl ?_ | (with_reducible first | apply aw_seq | apply aw_region | apply al_nil | apply aq_then | apply aw_ret | apply aq_then_ret) | refine aw_cond_t rfl rr_ ?_)
      refine aq_nilC 0 3 (by decide) rfl fun sa => ?_
      refine aq_nilC 1 4 (by decide) rfl fun sb => ?_
      refine aq_nilC 2 4 (by decide) rfl fun sd => ?_
      dsimp only [List.set]
      exact aq_retm2 (t1 := .agg [.ms sa 0 0 0, .ms sb 0 0 0, .ms sd 0 0 0, .int .i64 0]) (t2 := .bool false) x_ rfl (((sa, 0), []), ((sb, 0), []), (sd, 0)) ⟨rfl, rfl⟩ rfl (.app _ R) (l := (sa, 0, .row 3 []) :: (sb, 0, .row 4 []) :: (sd, 0, .row 4 []) :: R) (.drop (pick_rev3 _ _ _ _)) (.cell _ _ _ _ _ rfl mm_ (by kernel_rfl) (by kernel_rfl) (by kernel_rfl)) (.tmp _ _ rfl) rfl
    | true =>
      rw [hV] at hver
      have hok := code_ok hV
      obtain ⟨ec, ea, ek⟩ := e
      dsimp only at hcase ⊢
      have hwi := within_ct (G := GL) ec 0 ((x.codes.length : Int) - 1)
      have h200 := (rs_ok hV).codes
      have hpos := (rs_ok hV).main
      by_cases hr : 0 ≤ ec ∧ ec < x.codes.length
      case neg =>
        rw [show inR ec 0 ((x.codes.length : Int) - 1) = false from by (simp only [inR, decide_eq_false_iff_not]; omega), show (x.codes.length : Int) - 1 = ((x.codes.length - 1 : Nat) : Int) by omega] at hwi
        clear hcase
        have hwa := hver
        unfold TCodeBase.tw
        repeat' (first | ((with_reducible apply o_y); exact y_; rfl) | refine e_box ?_ | (refine e_alloc ?_; intro ss bb) | refine e_build ?_ | refine e_storep ?_ | with_reducible refine aw_draw (by kernel_rfl) (by kernel_rfl) ?_ | with_reducible refine dr_nil ?_ | with_reducible refine dr_none rfl ?_ | refine dr_run rfl rfl rfl rr_ ?_ | refine dr_skip rfl rfl rfl rr_ rfl rfl rfl ?_ | ((with_reducible apply d_y); exact y_; rfl) | refine e_calld hG hst (hver) ?_ | refine e_calld hG hst (hwi) ?_ | with_reducible refine al_none rfl ?_ | (with_reducible first | apply aw_seq | apply aw_region | apply al_nil | apply aq_then | apply aw_ret | apply aq_then_ret) | refine aw_cond_t rfl rr_ ?_)
        refine aq_nilC 0 3 (by decide) rfl fun sa => ?_
        refine aq_nilC 1 4 (by decide) rfl fun sb => ?_
        refine aq_nilC 2 4 (by decide) rfl fun sd => ?_
        dsimp only [List.set]
        exact aq_retm2 (t1 := .agg [.ms sa 0 0 0, .ms sb 0 0 0, .ms sd 0 0 0, .int .i64 0]) (t2 := .bool false) x_ rfl (((sa, 0), []), ((sb, 0), []), (sd, 0)) ⟨rfl, rfl⟩ rfl (.app _ R) (l := (sa, 0, .row 3 []) :: (sb, 0, .row 4 []) :: (sd, 0, .row 4 []) :: R) (.drop (pick_rev3 _ _ _ _)) (.cell _ _ _ _ _ rfl mm_ (by kernel_rfl) (by kernel_rfl) (by kernel_rfl)) (.tmp _ _ rfl) rfl
      case pos =>
        rw [show inR ec 0 ((x.codes.length : Int) - 1) = true from by (simp only [inR, decide_eq_true_eq]; omega), show (x.codes.length : Int) - 1 = ((x.codes.length - 1 : Nat) : Int) by omega] at hwi
        obtain ⟨k, rfl⟩ : ∃ k : Nat, ec = k := ⟨ec.toNat, by omega⟩
        have hkl : k < x.codes.length := by omega
        have hft : ¬ (0 ≤ ea ∧ ea < (codeI x.codes (k : Int)).length) := fun h => hcase ⟨hV, hr, h⟩
        rw [codeI_get hkl] at hft
        have hrc := tcode_row (lo := lo) hkl
        have hoki := hok _ (List.getElem_mem hkl)
        clear hcase
        generalize x.codes[k] = c at hrc hoki hft
        obtain ⟨bl, pr, sl, is⟩ := c
        dsimp only at hrc hoki hft
        have hil := TInstr.len lo is
        have h900 := hoki.len
        have hip := code_pos hoki
        have hwa := within_ct (G := GL) ea 0 ((is.length : Int) - 1)
        rw [show inR ea 0 ((is.length : Int) - 1) = false from by (simp only [inR, decide_eq_false_iff_not]; omega), show (is.length : Int) - 1 = ((is.length - 1 : Nat) : Int) by omega] at hwa
        unfold TCodeBase.tw
        repeat' (first | ((with_reducible apply o_y); exact y_; rfl) | refine e_box ?_ | (refine e_alloc ?_; intro ss bb) | refine e_build ?_ | refine e_storep ?_ | with_reducible refine aw_draw (by kernel_rfl) (by kernel_rfl) ?_ | with_reducible refine dr_nil ?_ | with_reducible refine dr_none rfl ?_ | refine dr_run rfl rfl rfl rr_ ?_ | ((with_reducible apply d_y); exact y_; rfl) | refine e_calld hG hst (hver) ?_ | refine e_calld hG hst (hwi) ?_ | refine e_calld hG hst (hwa) ?_ | with_reducible refine al_none rfl ?_ | (with_reducible first | apply aw_seq | apply aw_region | apply al_nil | apply aq_then | apply aw_ret | apply aq_then_ret) | refine aw_cond_t rfl rr_ ?_)
        refine aq_nilC 0 3 (by decide) rfl fun sa => ?_
        refine aq_nilC 1 4 (by decide) rfl fun sb => ?_
        refine aq_nilC 2 4 (by decide) rfl fun sd => ?_
        dsimp only [List.set]
        exact aq_retm2 (t1 := .agg [.ms sa 0 0 0, .ms sb 0 0 0, .ms sd 0 0 0, .int .i64 0]) (t2 := .bool false) x_ rfl (((sa, 0), []), ((sb, 0), []), (sd, 0)) ⟨rfl, rfl⟩ rfl (.app _ R) (l := (sa, 0, .row 3 []) :: (sb, 0, .row 4 []) :: (sd, 0, .row 4 []) :: R) (.drop (pick_rev3 _ _ _ _)) (.cell _ _ _ _ _ rfl mm_ (by kernel_rfl) (by kernel_rfl) (by kernel_rfl)) (.tmp _ _ rfl) rfl
  case pos =>
    obtain ⟨hV, hr, hfr⟩ := hcase
    rw [hV] at hver
    have hok := code_ok hV
    have h200 := (rs_ok hV).codes
    have hesm := editB_small hx e
    obtain ⟨ec, ea, ek⟩ := e
    dsimp only at hr hfr ⊢
    obtain ⟨k, rfl⟩ : ∃ k : Nat, ec = k := ⟨ec.toNat, by omega⟩
    have hkl : k < x.codes.length := by omega
    have hwi := within_ct (G := GL) (k : Int) 0 ((x.codes.length : Int) - 1)
    rw [show inR (k : Int) 0 ((x.codes.length : Int) - 1) = true from by (simp only [inR, decide_eq_true_eq]; omega), show (x.codes.length : Int) - 1 = ((x.codes.length - 1 : Nat) : Int) by omega] at hwi
    have hcI := codeI_get hkl
    have hed : editB x ⟨(k : Int), ea, ek⟩ = setB x k (appI (codeI x.codes (k : Int)) ea.toNat ek.toNat) := rfl
    rw [hcI] at hed hfr
    obtain ⟨q, rfl⟩ : ∃ q : Nat, ea = q := ⟨ea.toNat, by omega⟩
    have hokE : okE x ⟨(k : Int), (q : Int), ek⟩ = (fitsB x.codes[k].instrs (labelsL x.codes[k].instrs) ((depthsL x.codes[k].instrs).getD []) q (insAt x.codes[k].instrs q) ek.toNat && verifiedB (editB x ⟨(k : Int), (q : Int), ek⟩)) := by
      unfold okE
      rw [hV, Bool.true_and]
      have h1 : fitsE x ⟨(k : Int), (q : Int), ek⟩ ↔ fitsB x.codes[k].instrs (labelsL x.codes[k].instrs) ((depthsL x.codes[k].instrs).getD []) q (insAt x.codes[k].instrs q) ek.toNat = true := by
        unfold fitsE
        dsimp only
        rw [hcI, Int.toNat_natCast]
        exact ⟨fun h => h.2.2, fun h => ⟨hr, hfr, h⟩⟩
      have h2 : decide (fitsE x ⟨(k : Int), (q : Int), ek⟩) = fitsB x.codes[k].instrs (labelsL x.codes[k].instrs) ((depthsL x.codes[k].instrs).getD []) q (insAt x.codes[k].instrs q) ek.toNat := by
        cases hf : fitsB x.codes[k].instrs (labelsL x.codes[k].instrs) ((depthsL x.codes[k].instrs).getD []) q (insAt x.codes[k].instrs q) ek.toNat with
        | true => exact decide_eq_true (h1.2 hf)
        | false => exact decide_eq_false fun h => by rw [h1.1 h] at hf; cases hf
      rw [h2]
    have hver2 := implIsVerified_ct 0 (editB x ⟨(k : Int), (q : Int), ek⟩).classes (editB x ⟨(k : Int), (q : Int), ek⟩).entries (editB x ⟨(k : Int), (q : Int), ek⟩).codes (editB x ⟨(k : Int), (q : Int), ek⟩).main hesm.1 hesm.2.1 hesm.2.2
    have hB2 : verifiedB ⟨(editB x ⟨(k : Int), (q : Int), ek⟩).classes, (editB x ⟨(k : Int), (q : Int), ek⟩).codes, (editB x ⟨(k : Int), (q : Int), ek⟩).entries, (editB x ⟨(k : Int), (q : Int), ek⟩).main⟩ = verifiedB (editB x ⟨(k : Int), (q : Int), ek⟩) := rfl
    rw [hB2] at hver2
    replace hver2 : Ct Tryz.prog GL 39 [.agg ((editB x ⟨(k : Int), (q : Int), ek⟩).tw 0)] (fun _ => .bool (verifiedB (editB x ⟨(k : Int), (q : Int), ek⟩))) := hver2
    have hcb := implCopyBase_own hst lo x hx
    have hrc := tcode_row (lo := lo) hkl
    have hoki := hok _ (List.getElem_mem hkl)
    have hsmi := hx.2.1.2 _ (List.getElem_mem hkl)
    have hge : x.codes[k]? = some x.codes[k] := List.getElem?_eq_getElem hkl
    rw [Int.toNat_natCast] at hed
    rw [hed] at hver2 hokE
    generalize verifiedB (setB x k (appI x.codes[k].instrs q ek.toNat)) = vb at hver2 hokE
    clear hcI hB2 hesm
    generalize x.codes[k] = c at *
    obtain ⟨bl, pr, sl, is⟩ := c
    dsimp only at hrc hoki hsmi hfr hver2 hed hokE ⊢
    have hil := TInstr.len lo is
    have h900 := hoki.len
    have hql : q < is.length := by omega
    have hwa := within_ct (G := GL) (q : Int) 0 ((is.length : Int) - 1)
    rw [show inR (q : Int) 0 ((is.length : Int) - 1) = true from by (simp only [inR, decide_eq_true_eq]; omega), show (is.length : Int) - 1 = ((is.length - 1 : Nat) : Int) by omega] at hwa
    unfold TCodeBase.tw at hcb ⊢
    repeat' (first | ((with_reducible apply o_y); exact y_; rfl) | refine e_box ?_ | (refine e_alloc ?_; intro ss bb) | refine e_storep ?_ | with_reducible refine aw_draw (by kernel_rfl) (by kernel_rfl) ?_ | with_reducible refine dr_nil ?_ | with_reducible refine dr_none rfl ?_ | refine dr_run rfl rfl rfl rr_ ?_ | ((with_reducible apply d_y); exact y_; rfl) | refine e_calld hG hst (hver) ?_ | refine e_calld hG hst (hwi) ?_ | refine e_calld hG hst (hwa) ?_ | ((with_reducible apply o_callM); rfl; kernel_rfl; (repeat (first | exact ArgsM.nil | ((with_reducible apply ArgsM.cons); rfl))); exact hG; exact hcb; exact .nil _; intro y hy) | with_reducible refine aw_hold_r (id := 4) ?_ | with_reducible refine al_none rfl ?_ | (with_reducible first | apply aw_seq | apply aw_region | apply al_nil | apply aq_then | apply aw_skip) | refine aw_cond_f rfl rr_ ?_)
    refine ⟨?_⟩
    rename_i s4 b4
    generalize ss = s6; generalize bb = b6
    obtain ⟨p, hpp⟩ : ∃ p, y.2.1.2[k]? = some p := ⟨_, List.getElem?_eq_getElem (by rw [hy.2]; exact hkl)⟩
    refine aw_pick (pick_ap1 _ _ _ _ _ _ _ (cb_out hge hpp)) ?_
    have hrow : (nR codMk x.codes y.2.1.2)[k]? = some [.bool bl, .int .i64 pr, .int .i64 sl, .ms p.1 p.2 0 is.length] := nR_get codMk hge hpp
    have hhead : ∀ objs : Objs, (y.2.1.1.1, y.2.1.1.2, TObj.row 4 (nR codMk x.codes y.2.1.2)) :: (p.1, p.2, codOb ⟨bl, pr, sl, is⟩) :: objs = (y.2.1.1.1, y.2.1.1.2, TObj.row 4 (nR codMk x.codes y.2.1.2)) :: (p.1, p.2, .row 4 (is.map (TInstr.tw 0))) :: objs := fun _ => rfl
    rw [hhead]
    obtain ⟨ds, hds⟩ := Option.isSome_iff_exists.1 hoki.dep
    obtain ⟨hdl, _⟩ := depthsL_inv hds
    have hdep := stackDepths_ct hst hcaI 0 bl pr sl is (by omega) hsmi.2
    have hnew := dO_new (depthsL is)
    rw [instrs_tw 0] at hdep
    unfold dR dO at hdep hnew
    rw [hds] at hdep hnew hokE
    dsimp only [Option.getD_some, Option.isSome_some] at hdep hnew hokE
    have hisl := isLabel_ct (G := GL) hst 0 bl pr sl is (by omega) hoki.pre
    have hid := intR_length ds
    have hll : (labelsL is).length = is.length + 1 := labP_len _ _
    have hfit := editFits_ct (G := GL) hst 0 w0.heap.size 0 bl pr sl is hoki (labelsL is) hll ds hdl q hql ek
    have hil0 := TInstr.len 0 is
    repeat' (first | ((with_reducible apply o_y); exact y_; rfl) | (refine e_alloc ?_; intro ss bb) | refine e_storep ?_ | ((with_reducible apply o_callOV); rfl; kernel_rfl; exact hG; exact hst; exact hdep; ((repeat (first | exact Args.nil | ((with_reducible apply Args.cons); rfl; (((with_reducible apply view_code); (repeat (first | with_reducible exact mh | with_reducible refine mt ?_)); (with_reducible assumption))))))); exact hnew; rintro ⟨ss, bb⟩ -; refine al_app1 ?_) | with_reducible refine aw_draw (by kernel_rfl) (by kernel_rfl) ?_ | with_reducible refine dr_nil ?_ | with_reducible refine dr_none rfl ?_ | ((with_reducible apply d_y); exact y_; rfl) | refine e_calldv hG hst (hisl) ?_ | refine e_calldv hG hst (hfit) ?_ | with_reducible refine aw_hold_r (id := 7) ?_ | with_reducible refine al_none rfl ?_ | (with_reducible first | apply aw_seq | apply aw_region | apply al_nil | apply aq_then))
    refine ⟨?_⟩
    rename_i s7 b7
    generalize ss = sd; generalize bb = bd
    clear hhead hnew hdep hisl hll hid hwa hwi hver
    cases hf : fitsB is (labelsL is) ds q (insAt is q) ek.toNat with
    | false =>
      rw [hf, Bool.false_and] at hokE
      rw [okE_f hokE, hokE]
      repeat' (first | ((with_reducible apply o_y); exact y_; rfl) | refine e_build ?_ | refine e_storep ?_ | with_reducible refine al_none rfl ?_ | (with_reducible first | apply aw_seq | apply aw_region | apply al_nil | apply aq_then | apply aw_ret | apply aq_then_ret) | refine aw_cond_t rfl rr_ ?_)
      refine aq_pick (objs' := (s4, b4, .box [.nils, .nils, .nils, .int .i64 0]) :: R) (.drop (.drop (.drop (.drop (.drop (.sub ((List.sublist_append_right _ _).cons_cons _))))))) ?_
      refine aq_nilC 0 3 (by decide) rfl fun sa => ?_
      refine aq_nilC 1 4 (by decide) rfl fun sb => ?_
      refine aq_nilC 2 4 (by decide) rfl fun sd => ?_
      dsimp only [List.set]
      exact aq_retm2 (t1 := .agg [.ms sa 0 0 0, .ms sb 0 0 0, .ms sd 0 0 0, .int .i64 0]) (t2 := .bool false) x_ rfl (((sa, 0), []), ((sb, 0), []), (sd, 0)) ⟨rfl, rfl⟩ rfl (.app _ R) (l := (sa, 0, .row 3 []) :: (sb, 0, .row 4 []) :: (sd, 0, .row 4 []) :: R) (.drop (pick_rev3 _ _ _ _)) (.cell _ _ _ _ _ rfl mm_ (by kernel_rfl) (by kernel_rfl) (by kernel_rfl)) (.tmp _ _ rfl) rfl
    | true =>
      rw [hf, Bool.true_and] at hokE
      obtain ⟨hrm, hpl⟩ := rem_app hoki.pre hql hf
      have hT4 : ek = 4 → isT is q ek.toNat = is.set q (thrI is q) := fun h => by subst h; rfl
      have hTn : ¬ ek = 4 → isT is q ek.toNat = is := fun h => if_neg (by omega)
      have hTl : (isT is q ek.toNat).length = is.length := by
        unfold isT
        split
        · exact List.length_set ..
        · rfl
      have hrem := remove_ctm hst 0 w0.heap.size bl pr sl (isT is q ek.toNat) (by omega) (goneL q ek.toNat) (goneL_len _ _) hpl
      rw [hrm] at hrem
      have hnr : ∀ y : Nat × Nat, True → (∀ s b o, (s, b, o) ∈ [(y.1, y.2, TObj.row 4 ((appI is q ek.toNat).map (TInstr.tw 0)))] → ObjNew [(y.1, y.2, TObj.row 4 ((appI is q ek.toNat).map (TInstr.tw 0)))] o) ∧ NewOk [(y.1, y.2, TObj.row 4 ((appI is q ek.toNat).map (TInstr.tw 0)))] (.agg [.bool bl, .int .i64 pr, .int .i64 sl, .ms y.1 y.2 0 (appI is q ek.toNat).length]) := fun y _ => codMk_new ⟨bl, pr, sl, appI is q ek.toNat⟩ y
      have hil2 : ((isT is q ek.toNat).map (TInstr.tw 0)).length = is.length := by rw [List.length_map]; exact hTl
      have hab := pre_ab hoki.pre
      clear hrm hpl hTl
      generalize isT is q ek.toNat = is2 at *
      have hfit4 : ek = 4 → (insAt is q).op = 20 := fun h => by
        subst h
        exact (of_decide_eq_true (p := (insAt is q).op = 20 ∧ (insAt is q).a ≠ q ∧ (insAt is (insAt is q).a.toNat).op = 20 ∧ (insAt is (insAt is q).a.toNat).a ≠ (insAt is q).a) hf).1
      clear hf hfit
      generalize goneL q ek.toNat = gone at *
      by_cases hk4 : ek = 4
      case' pos =>
        have hra := (hab _ (List.getElem_mem hql)).1
        have hiq := insAt_get hql
        have ht : thrI is q = ⟨(insAt is q).op, (insAt is (insAt is q).a.toNat).a, (insAt is q).b, (insAt is q).text⟩ := rfl
        have hrq : (is.map (TInstr.tw 0))[q]? = some (is[q].tw 0) := row_map hql
        have hop := hfit4 hk4
        rw [hiq] at ht hop
        have hset : (is.map (TInstr.tw 0)).set q ((thrI is q).tw 0) = is2.map (TInstr.tw 0) := by rw [hT4 hk4, List.map_set]
        generalize is[q] = z at ht hop hra hrq
        obtain ⟨op, a, b1, t⟩ := z
        dsimp only at ht hop hra
        subst hop
        replace hra := hra rfl
        obtain ⟨an, rfl⟩ : ∃ an : Nat, a = an := ⟨a.toNat, by omega⟩
        have han : an < is.length := by omega
        rw [Int.toNat_natCast, insAt_get han] at ht
        have hra2 : (is.map (TInstr.tw 0))[an]? = some (is[an].tw 0) := row_map han
        generalize is[an] = z2 at ht hra2
        obtain ⟨op2, a2, b2', t2⟩ := z2
        dsimp only at ht
        rw [ht] at hset
        rw [show ∀ o a b t, TInstr.tw 0 ⟨o, a, b, t⟩ = [.int .i64 o, .int .i64 a, .int .i64 b, .str t] from fun _ _ _ _ => rfl] at hrq hra2 hset
        repeat' (first | ((with_reducible apply o_y); exact y_; rfl) | refine e_store ?_ | (with_reducible apply aw_draw2 (id := 10) 18; kernel_rfl; kernel_rfl; kernel_rfl; (repeat (first | exact Cut.zero _ | apply Cut.succ))) | with_reducible refine aw_hold_r (id := 11) ?_ | with_reducible refine dr_nil2 ?_ | with_reducible refine dr_none rfl ?_ | ((with_reducible apply d_y); exact y_; rfl) | with_reducible refine al_none rfl ?_ | (with_reducible first | apply aw_seq | apply aw_region | apply al_nil | apply aq_then | apply aw_skip) | refine aw_cond_f rfl rr_ ?_ | (refine aw_cond_dt rfl rr_ dd_ ?_))
        rw [hset]
        refine ⟨?_⟩
      case' neg =>
        have hmap : is.map (TInstr.tw 0) = is2.map (TInstr.tw 0) := by rw [hTn hk4]
        rw [hmap]
        repeat' (first | ((with_reducible apply o_y); exact y_; rfl) | with_reducible refine aw_hold_r (id := 11) ?_ | with_reducible refine al_none rfl ?_ | (with_reducible first | apply aw_seq | apply aw_region | apply al_nil | apply aq_then | apply aw_skip) | refine aw_cond_f rfl rr_ ?_ | (refine aw_cond_df rfl rr_ dd_ ?_))
        refine ⟨?_⟩
      all_goals
        repeat' (first | ((with_reducible apply aw_drawM (id := 11) 8); kernel_rfl; kernel_rfl; kernel_rfl; rfl; (repeat (first | exact Cut.zero _ | apply Cut.succ))) | ((with_reducible apply m_q); exact ym_; rfl; exact ind_) | ((with_reducible apply m_call hG hst hrem); rfl; kernel_rfl; (intro p; (repeat (first | exact Args.nil | ((with_reducible apply Args.cons); rfl; (first | with_reducible exact View.same _ | ((with_reducible apply view_code); (repeat (first | with_reducible exact mh | with_reducible refine mt ?_)); (with_reducible assumption))))))); exact hnr) | (with_reducible refine DM.nil _ _ _ ?_) | (with_reducible apply aw_seq))
        intro pt hpt
        refine al_obj (objs' := ((Enc.dec (pt 6) : Nat × Nat).1, (Enc.dec (pt 6) : Nat × Nat).2, .row 4 ((appI is q ek.toNat).map (TInstr.tw 0))) :: (sd, bd, .row 1 (intR ds)) :: (s7, b7, .box [.bool bl, .int .i64 pr, .int .i64 sl, .ms p.1 p.2 0 is.length]) :: (y.2.1.1.1, y.2.1.1.2, .row 4 (nR codMk x.codes y.2.1.2)) :: (p.1, p.2, .row 4 (is2.map (TInstr.tw 0))) :: (s6, b6, .box [.ms y.1.1.1 y.1.1.2 0 x.classes.length, .ms y.2.1.1.1 y.2.1.1.2 0 x.codes.length, .ms y.2.2.1 y.2.2.2 0 x.entries.length, .int .i64 x.main]) :: (s4, b4, .box [.nils, .nils, .nils, .int .i64 0]) :: (cbR x y k ++ R)) (by rw [show liveL _ = [_] from rfl]; (try simp only [List.flatMap_cons, List.flatMap_nil, List.append_nil, List.cons_append, List.nil_append]); (try rfl)) ?_
        dsimp only [Nat.reduceAdd] at hpt ⊢
        generalize (Enc.dec (pt 6) : Nat × Nat) = q'
        clear hpt
        repeat' (first | refine e_store ?_ | with_reducible refine aw_hold_r (id := 12) ?_ | with_reducible refine al_none rfl ?_ | (with_reducible first | apply aw_seq | apply al_nil | apply aq_then))
        refine ⟨?_⟩
        obtain ⟨T, hT⟩ : ∃ T : Objs, T = cbR x y k ++ R := ⟨_, rfl⟩
        rw [← hT]
        refine aw_pick (objs' := (y.2.1.1.1, y.2.1.1.2, .row 4 ((nR codMk x.codes y.2.1.2).set k [.bool bl, .int .i64 pr, .int .i64 sl, .ms q'.1 q'.2 0 (appI is q ek.toNat).length])) :: (q'.1, q'.2, .row 4 ((appI is q ek.toNat).map (TInstr.tw 0))) :: (s6, b6, .box [.ms y.1.1.1 y.1.1.2 0 x.classes.length, .ms y.2.1.1.1 y.2.1.1.2 0 x.codes.length, .ms y.2.2.1 y.2.2.2 0 x.entries.length, .int .i64 x.main]) :: (s4, b4, .box [.nils, .nils, .nils, .int .i64 0]) :: T) pk_ ?_
        rw [hT]
        refine aw_pick (pick_ap2 _ _ _ _ _ _ _ (cb_in hge hpp (appI is q ek.toNat) q')) ?_
        have hy2 := cbI_set hy k (appI is q ek.toNat) q'
        have hvw : ∀ {objs : Objs}, (∀ o ∈ cbO (setB x k (appI is q ek.toNat)) (cbS y k q'), o ∈ objs) → View objs (.agg (cbC x y)) (.agg ((setB x k (appI is q ek.toNat)).tw 0)) := fun h2 => by
          have h3 := view_cb hy2 h2
          rw [cbC_set] at h3
          exact h3
        unfold cbC at hvw
        repeat' (first | ((with_reducible apply o_y); exact y_; rfl) | refine e_build ?_ | refine e_storep ?_ | ((with_reducible apply o_callV); rfl; kernel_rfl; exact hG; exact hst; exact hver2; ((with_reducible apply Args.cons); rfl; exact hvw (fun o h => List.mem_cons_of_mem _ (List.mem_cons_of_mem _ (List.mem_append_left _ h)))); exact Args.nil) | with_reducible refine al_none rfl ?_ | (with_reducible first | apply aw_seq | apply aw_region | apply al_nil | apply aq_then | apply aw_skip | apply aw_ret | apply aq_then_ret) | (refine aw_cond_b rfl rr_ (fun hc => ?_) (fun hc => ?_)))
        · have hv2 : okE x ⟨(k : Int), (q : Int), ek⟩ = false := by
            rw [hokE]; simpa using hc
          rw [okE_f hv2, hv2]
          refine aq_pick (objs' := (s4, b4, .box [.nils, .nils, .nils, .int .i64 0]) :: R) (.drop (.sub ((List.sublist_append_right _ _).cons_cons _))) ?_
          refine aq_nilC 0 3 (by decide) rfl fun sa => ?_
          refine aq_nilC 1 4 (by decide) rfl fun sb => ?_
          refine aq_nilC 2 4 (by decide) rfl fun sd => ?_
          dsimp only [List.set]
          exact aq_retm2 (t1 := .agg [.ms sa 0 0 0, .ms sb 0 0 0, .ms sd 0 0 0, .int .i64 0]) (t2 := .bool false) x_ rfl (((sa, 0), []), ((sb, 0), []), (sd, 0)) ⟨rfl, rfl⟩ rfl (.app _ R) (l := (sa, 0, .row 3 []) :: (sb, 0, .row 4 []) :: (sd, 0, .row 4 []) :: R) (.drop (pick_rev3 _ _ _ _)) (.cell _ _ _ _ _ rfl mm_ (by kernel_rfl) (by kernel_rfl) (by kernel_rfl)) (.tmp _ _ rfl) rfl
        · have hv2 : okE x ⟨(k : Int), (q : Int), ek⟩ = true := by
            rw [hokE]; simpa using hc
          rw [okE_t hv2, hv2, hed]
          exact aq_retm2 (t1 := .agg [.ms y.1.1.1 y.1.1.2 0 x.classes.length, .ms y.2.1.1.1 y.2.1.1.2 0 x.codes.length, .ms y.2.2.1 y.2.2.2 0 x.entries.length, .int .i64 x.main]) (t2 := .bool true) x_ rfl (cbS y k q') hy2 rfl (.app _ R) (.drop (.drop (.refl _))) (.cell _ _ _ _ _ rfl mm_ (by kernel_rfl) (by kernel_rfl) (by kernel_rfl)) (.tmp _ _ rfl) (by rw [cbC_set]; rfl)
end Go.Proofs.YthpdkhejeookhaaGreatDoor
/- EditsOf of the program. -/
namespace Go.Proofs.YthpdkhejeookhaaGreatDoor
set_option maxRecDepth 20000
open Go Go.RowKit
end Go.Proofs.YthpdkhejeookhaaGreatDoor
/- OptimizeBase of the program. -/
namespace Go.Proofs.YthpdkhejeookhaaGreatDoor
set_option maxRecDepth 20000
open Go Go.RowKit
end Go.Proofs.YthpdkhejeookhaaGreatDoor
/- The law FnExactOptimizeBase, walked. -/
namespace Go.Proofs.YthpdkhejeookhaaGreatDoor
set_option maxRecDepth 20000
open Go Go.RowKit
end Go.Proofs.YthpdkhejeookhaaGreatDoor
