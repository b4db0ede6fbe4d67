/- Part 22 of the proof: the texts LwU. -/
import Derived.Test.YtiihihgjiklnoaaGreatDoorPart19
/- The laws' own helpers sz, to, eq for the types of an image, walked (frozen copies). Written by gen_lw.py. -/
namespace Go.Proofs.YtiihihgjiklnoaaGreatDoor
set_option maxRecDepth 20000
open Go Go.RowKit
section
variable {G : World → Prop}
theorem eqIntS_cu (_ : Stable G) (l1 l2 : Nat) (l : List Int) (hn : l.length ≤ 1048576) : Ct Tryz.prog G 32 [.sl l1 1 (intR l), .sl l2 1 (intR l)] (fun _ => .bool true) := by
  refine ct_enter Tryz.func32 rfl Tryz.ntmps32 rfl rfl fun w0 _ hG => ?_
  have hlen := intR_length l
  repeat' (first | refine W_ ?_ | refine c_ (fun hc => ?_) (fun hc => ?_) | refine g_ (fun hg => ?_) (fun hg => ?_))
  apply aw_loopk (X := Nat) [0, 1] (fun i => [(5, .int .i64 (i : Int))]) (fun _ => []) (fun i => i ≤ l.length) (fun i => l.length - i) 0 (Nat.zero_le _)
  exact kp_; exact nw_
  · exact .refl _
  intro i hi
  try dsimp only
  by_cases hlt : i < l.length
  · have hrow := intR_get hlt
    generalize l[i] = x at hrow
    repeat' (first | refine V_ ?_ | refine c_ (fun hc => ?_) (fun hc => ?_) | refine g_ (fun hg => ?_) (fun hg => ?_))
    all_goals first
      | exact aq_round (i + 1) (by omega) (by omega) (.of _ nw_ od_ pk_)
      | (exfalso; simp at hc; done)
  · repeat' (first | refine W_ ?_ | refine c_ (fun hc => ?_) (fun hc => ?_) | refine g_ (fun hg => ?_) (fun hg => ?_))
    exact r1_
end
def TValue.tw (_lo : Nat) (x : TValue) : List TV := [.int .i64 x.kind, .int .i64 x.number, .str x.text]
def TValue.small (n : Nat) (x : TValue) : Prop := (x.text.size ≤ n)
def TValue.tz : List TV := [.int .i64 0, .int .i64 0, .str ⟨#[]⟩]
theorem TValue.fin (B K : Nat) (objs : Objs) (x : TValue) : FinL B objs K (x.tw B) (x.tw K) := .cons (.flat rfl) (.cons (.flat rfl) (.cons (.flat rfl) (.nil)))
theorem TValue.len (lo : Nat) (l : List TValue) : (l.map (TValue.tw lo)).length = l.length := by simp
section
variable {G : World → Prop}
theorem eqValue_ct (_hst : Stable G) (l1 l2 : Nat) (x : TValue) (_hb : x.small 1048576) : Ct Tryz.prog G 61 [.agg (x.tw l1), .agg (x.tw l2)] (fun _ => .bool true) := by
  refine ct_enter Tryz.func61 rfl Tryz.ntmps61 rfl rfl fun w0 _ hG => ?_
  unfold TValue.small at _hb
  have hnetext : ¬ x.text ≠ x.text := fun h => h rfl
  unfold TValue.tw
  repeat' (first | refine W_ ?_ | refine e_box ?_ | refine c_ (fun hc => ?_) (fun hc => ?_) | refine g_ (fun hg => ?_) (fun hg => ?_))
  all_goals first
    | (exfalso; simp at hc; done)
    | (exact r1_)
theorem eqValueS_ct (hst : Stable G) (l1 l2 : Nat) (l : List TValue) (hb : l.length ≤ 1048576 ∧ ∀ y ∈ l, TValue.small 1048576 y) : Ct Tryz.prog G 224 [.sl l1 3 (l.map (TValue.tw l1)), .sl l2 3 (l.map (TValue.tw l2))] (fun _ => .bool true) := by
  refine ct_enter Tryz.func224 rfl Tryz.ntmps224 rfl rfl fun w0 _ hG => ?_
  have hlen := TValue.len l1 l
  have hlen2 := TValue.len l2 l
  have hl1 := hb.1
  repeat' (first | refine W_ ?_ | refine c_ (fun hc => ?_) (fun hc => ?_) | refine g_ (fun hg => ?_) (fun hg => ?_))
  apply aw_loopk (X := Nat) [0, 1] (fun i => [(5, .int .i64 (i : Int))]) (fun _ => []) (fun i => i ≤ l.length) (fun i => l.length - i) 0 (Nat.zero_le _)
  exact kp_; exact nw_
  · exact .refl _
  intro i hi
  try dsimp only
  by_cases hlt : i < l.length
  · have hr1 : (l.map (TValue.tw l1))[i]? = some (l[i].tw l1) := row_map hlt
    have hr2 : (l.map (TValue.tw l2))[i]? = some (l[i].tw l2) := row_map hlt
    have hbi := hb.2 _ (List.getElem_mem hlt)
    generalize l[i] = x at hr1 hr2 hbi
    have hct := eqValue_ct hst l1 l2 x hbi
    unfold TValue.tw at hct
    rw [show x.tw l1 = [.int .i64 x.kind, .int .i64 x.number, .str x.text] from rfl] at hr1
    rw [show x.tw l2 = [.int .i64 x.kind, .int .i64 x.number, .str x.text] from rfl] at hr2
    repeat' (first | refine V_ ?_ | ((with_reducible apply d_load_agg_mp); rfl; rfl; kernel_rfl; kernel_rfl; kernel_rfl; rfl; (repeat (first | with_reducible exact mh | with_reducible refine mt ?_)); (repeat (first | exact .zero _ | apply Taken.succ))) | ((with_reducible apply d_load_agg_cp); rfl; rfl; kernel_rfl; kernel_rfl; kernel_rfl; rfl; (repeat (first | exact .zero _ | apply Taken.succ))) | ((with_reducible apply d_load_agg_me); rfl; rfl; kernel_rfl; kernel_rfl; kernel_rfl; rfl; (repeat (first | with_reducible exact mh | with_reducible refine mt ?_)); (first | (with_reducible assumption) | (refine row_map ?_; omega) | (refine set_row ?_; simp only [List.length_set, List.length_map]; omega) | exact rfl | assumption); (repeat (first | exact .zero _ | apply Taken.succ))) | ((with_reducible apply o_load_agg_mp); rfl; rfl; kernel_rfl; kernel_rfl; kernel_rfl; rfl; (repeat (first | with_reducible exact mh | with_reducible refine mt ?_)); (repeat (first | exact .zero _ | apply Taken.succ))) | ((with_reducible apply o_load_agg_cp); rfl; rfl; kernel_rfl; kernel_rfl; kernel_rfl; rfl; (repeat (first | exact .zero _ | apply Taken.succ))) | ((with_reducible apply o_load_agg_me); rfl; rfl; kernel_rfl; kernel_rfl; kernel_rfl; rfl; (repeat (first | with_reducible exact mh | with_reducible refine mt ?_)); (first | (with_reducible assumption) | (refine row_map ?_; omega) | (refine set_row ?_; simp only [List.length_set, List.length_map]; omega) | exact rfl | assumption); (repeat (first | exact .zero _ | apply Taken.succ))) | refine e_calld hG hst (hct) ?_ | refine e_call hG hst (hct) ?_ | refine c_ (fun hc => ?_) (fun hc => ?_) | refine g_ (fun hg => ?_) (fun hg => ?_))
    exact aq_round (i + 1) (by omega) (by omega) (.of _ nw_ od_ pk_)
  · repeat' (first | refine W_ ?_ | refine c_ (fun hc => ?_) (fun hc => ?_) | refine g_ (fun hg => ?_) (fun hg => ?_))
    exact r1_
end
def TObject.tw (lo : Nat) (x : TObject) : List TV := [.int .i64 x.kind, .int .i64 x.class_, .sl lo 3 (x.fields.map (TValue.tw lo)), .sl lo 1 (intR x.numbers)]
def TObject.small (n : Nat) (x : TObject) : Prop := (x.fields.length ≤ n ∧ ∀ y ∈ x.fields, TValue.small n y) ∧ (x.numbers.length ≤ n)
def TObject.tz : List TV := [.int .i64 0, .int .i64 0, .nils, .nils]
theorem TObject.fin (B K : Nat) (objs : Objs) (_x : TObject) : FinL B objs K (_x.tw B) (_x.tw K) := .cons (.flat rfl) (.cons (.flat rfl) (.cons (fin_sl (fun _x => TValue.fin B K objs _x) _) (.cons (fin_sl (fun _x => .cons (.flat rfl) .nil) _) (.nil))))
theorem TObject.len (lo : Nat) (l : List TObject) : (l.map (TObject.tw lo)).length = l.length := by simp
section
variable {G : World → Prop}
theorem eqObject_ct (hst : Stable G) (l1 l2 : Nat) (x : TObject) (hb : x.small 1048576) : Ct Tryz.prog G 223 [.agg (x.tw l1), .agg (x.tw l2)] (fun _ => .bool true) := by
  refine ct_enter Tryz.func223 rfl Tryz.ntmps223 rfl rfl fun w0 _ hG => ?_
  unfold TObject.small at hb
  have hsfields := hb.1
  have hsnumbers := hb.2
  unfold TObject.tw
  repeat' (first | refine W_ ?_ | refine e_box ?_ | ((with_reducible apply o_load_agg_mp); rfl; rfl; kernel_rfl; kernel_rfl; kernel_rfl; rfl; (repeat (first | with_reducible exact mh | with_reducible refine mt ?_)); (repeat (first | exact .zero _ | apply Taken.succ))) | ((with_reducible apply o_load_agg_cp); rfl; rfl; kernel_rfl; kernel_rfl; kernel_rfl; rfl; (repeat (first | exact .zero _ | apply Taken.succ))) | ((with_reducible apply o_load_agg_me); rfl; rfl; kernel_rfl; kernel_rfl; kernel_rfl; rfl; (repeat (first | with_reducible exact mh | with_reducible refine mt ?_)); (first | (with_reducible assumption) | (refine row_map ?_; omega) | (refine set_row ?_; simp only [List.length_set, List.length_map]; omega) | exact rfl | assumption); (repeat (first | exact .zero _ | apply Taken.succ))) | refine e_call hG hst (eqValueS_ct hst l1 l2 x.fields hsfields) ?_ | refine e_call hG hst (eqIntS_cu hst l1 l2 x.numbers hsnumbers) ?_ | refine c_ (fun hc => ?_) (fun hc => ?_) | refine g_ (fun hg => ?_) (fun hg => ?_))
  all_goals first
    | (exfalso; simp at hc; done)
    | (exact r1_)
theorem eqObjectS_ct (hst : Stable G) (l1 l2 : Nat) (l : List TObject) (hb : l.length ≤ 1048576 ∧ ∀ y ∈ l, TObject.small 1048576 y) : Ct Tryz.prog G 142 [.sl l1 4 (l.map (TObject.tw l1)), .sl l2 4 (l.map (TObject.tw l2))] (fun _ => .bool true) := by
  refine ct_enter Tryz.func142 rfl Tryz.ntmps142 rfl rfl fun w0 _ hG => ?_
  have hlen := TObject.len l1 l
  have hlen2 := TObject.len l2 l
  have hl1 := hb.1
  repeat' (first | refine W_ ?_ | refine c_ (fun hc => ?_) (fun hc => ?_) | refine g_ (fun hg => ?_) (fun hg => ?_))
  apply aw_loopk (X := Nat) [0, 1] (fun i => [(5, .int .i64 (i : Int))]) (fun _ => []) (fun i => i ≤ l.length) (fun i => l.length - i) 0 (Nat.zero_le _)
  exact kp_; exact nw_
  · exact .refl _
  intro i hi
  try dsimp only
  by_cases hlt : i < l.length
  · have hr1 : (l.map (TObject.tw l1))[i]? = some (l[i].tw l1) := row_map hlt
    have hr2 : (l.map (TObject.tw l2))[i]? = some (l[i].tw l2) := row_map hlt
    have hbi := hb.2 _ (List.getElem_mem hlt)
    generalize l[i] = x at hr1 hr2 hbi
    have hct := eqObject_ct hst l1 l2 x hbi
    unfold TObject.tw at hct
    rw [show x.tw l1 = [.int .i64 x.kind, .int .i64 x.class_, .sl l1 3 (x.fields.map (TValue.tw l1)), .sl l1 1 (intR x.numbers)] from rfl] at hr1
    rw [show x.tw l2 = [.int .i64 x.kind, .int .i64 x.class_, .sl l2 3 (x.fields.map (TValue.tw l2)), .sl l2 1 (intR x.numbers)] from rfl] at hr2
    repeat' (first | refine V_ ?_ | ((with_reducible apply d_load_agg_mp); rfl; rfl; kernel_rfl; kernel_rfl; kernel_rfl; rfl; (repeat (first | with_reducible exact mh | with_reducible refine mt ?_)); (repeat (first | exact .zero _ | apply Taken.succ))) | ((with_reducible apply d_load_agg_cp); rfl; rfl; kernel_rfl; kernel_rfl; kernel_rfl; rfl; (repeat (first | exact .zero _ | apply Taken.succ))) | ((with_reducible apply d_load_agg_me); rfl; rfl; kernel_rfl; kernel_rfl; kernel_rfl; rfl; (repeat (first | with_reducible exact mh | with_reducible refine mt ?_)); (first | (with_reducible assumption) | (refine row_map ?_; omega) | (refine set_row ?_; simp only [List.length_set, List.length_map]; omega) | exact rfl | assumption); (repeat (first | exact .zero _ | apply Taken.succ))) | ((with_reducible apply o_load_agg_mp); rfl; rfl; kernel_rfl; kernel_rfl; kernel_rfl; rfl; (repeat (first | with_reducible exact mh | with_reducible refine mt ?_)); (repeat (first | exact .zero _ | apply Taken.succ))) | ((with_reducible apply o_load_agg_cp); rfl; rfl; kernel_rfl; kernel_rfl; kernel_rfl; rfl; (repeat (first | exact .zero _ | apply Taken.succ))) | ((with_reducible apply o_load_agg_me); rfl; rfl; kernel_rfl; kernel_rfl; kernel_rfl; rfl; (repeat (first | with_reducible exact mh | with_reducible refine mt ?_)); (first | (with_reducible assumption) | (refine row_map ?_; omega) | (refine set_row ?_; simp only [List.length_set, List.length_map]; omega) | exact rfl | assumption); (repeat (first | exact .zero _ | apply Taken.succ))) | refine e_calld hG hst (hct) ?_ | refine e_call hG hst (hct) ?_ | refine c_ (fun hc => ?_) (fun hc => ?_) | refine g_ (fun hg => ?_) (fun hg => ?_))
    exact aq_round (i + 1) (by omega) (by omega) (.of _ nw_ od_ pk_)
  · repeat' (first | refine W_ ?_ | refine c_ (fun hc => ?_) (fun hc => ?_) | refine g_ (fun hg => ?_) (fun hg => ?_))
    exact r1_
end
def TStore.tw (lo : Nat) (x : TStore) : List TV := [.sl lo 3 (x.classes.map (TClassInfo.tw lo)), .sl lo 4 (x.objects.map (TObject.tw lo)), .sl lo 1 (strR x.output), .int .i64 x.ticks, .int .i64 x.budget, .int .i64 x.made]
def TStore.small (n : Nat) (x : TStore) : Prop := (x.classes.length ≤ n ∧ ∀ y ∈ x.classes, TClassInfo.small n y) ∧ (x.objects.length ≤ n ∧ ∀ y ∈ x.objects, TObject.small n y) ∧ (x.output.length ≤ n ∧ ∀ y ∈ x.output, ByteArray.size y ≤ n)
def TStore.tz : List TV := [.nils, .nils, .nils, .int .i64 0, .int .i64 0, .int .i64 0]
theorem TStore.fin (B K : Nat) (objs : Objs) (_x : TStore) : FinL B objs K (_x.tw B) (_x.tw K) := .cons (fin_sl (fun _x => TClassInfo.fin B K objs _x) _) (.cons (fin_sl (fun _x => TObject.fin B K objs _x) _) (.cons (fin_sl (fun _x => .cons (.flat rfl) .nil) _) (.cons (.flat rfl) (.cons (.flat rfl) (.cons (.flat rfl) (.nil))))))
theorem TStore.len (lo : Nat) (l : List TStore) : (l.map (TStore.tw lo)).length = l.length := by simp
section
variable {G : World → Prop}
theorem eqStore_ct (hst : Stable G) (l1 l2 : Nat) (x : TStore) (hb : x.small 1048576) : Ct Tryz.prog G 57 [.agg (x.tw l1), .agg (x.tw l2)] (fun _ => .bool true) := by
  refine ct_enter Tryz.func57 rfl Tryz.ntmps57 rfl rfl fun w0 _ hG => ?_
  unfold TStore.small at hb
  have hsclasses := hb.1
  have hsobjects := hb.2.1
  have hsoutput := (hb.2.2).1
  unfold TStore.tw
  repeat' (first | refine W_ ?_ | refine e_box ?_ | ((with_reducible apply o_load_agg_mp); rfl; rfl; kernel_rfl; kernel_rfl; kernel_rfl; rfl; (repeat (first | with_reducible exact mh | with_reducible refine mt ?_)); (repeat (first | exact .zero _ | apply Taken.succ))) | ((with_reducible apply o_load_agg_cp); rfl; rfl; kernel_rfl; kernel_rfl; kernel_rfl; rfl; (repeat (first | exact .zero _ | apply Taken.succ))) | ((with_reducible apply o_load_agg_me); rfl; rfl; kernel_rfl; kernel_rfl; kernel_rfl; rfl; (repeat (first | with_reducible exact mh | with_reducible refine mt ?_)); (first | (with_reducible assumption) | (refine row_map ?_; omega) | (refine set_row ?_; simp only [List.length_set, List.length_map]; omega) | exact rfl | assumption); (repeat (first | exact .zero _ | apply Taken.succ))) | refine e_call hG hst (eqClassInfoS_ct hst l1 l2 x.classes hsclasses) ?_ | refine e_call hG hst (eqObjectS_ct hst l1 l2 x.objects hsobjects) ?_ | refine e_call hG hst (eqStringS_ct l1 l2 x.output hsoutput) ?_ | refine c_ (fun hc => ?_) (fun hc => ?_) | refine g_ (fun hg => ?_) (fun hg => ?_))
  all_goals first
    | (exfalso; simp at hc; done)
    | (exact r1_)
end
def TClosure.tw (_lo : Nat) (x : TClosure) : List TV := [.int .i64 x.code, .int .i64 x.outer, .int .i64 x.home, .int .i64 x.self.kind, .int .i64 x.self.number, .str x.self.text]
def TClosure.small (n : Nat) (x : TClosure) : Prop := (TValue.small n x.self)
def TClosure.tz : List TV := [.int .i64 0, .int .i64 0, .int .i64 0, .int .i64 0, .int .i64 0, .str ⟨#[]⟩]
theorem TClosure.fin (B K : Nat) (objs : Objs) (x : TClosure) : FinL B objs K (x.tw B) (x.tw K) := .cons (.flat rfl) (.cons (.flat rfl) (.cons (.flat rfl) (.cons (.flat rfl) (.cons (.flat rfl) (.cons (.flat rfl) (.nil))))))
theorem TClosure.len (lo : Nat) (l : List TClosure) : (l.map (TClosure.tw lo)).length = l.length := by simp
section
variable {G : World → Prop}
theorem eqClosure_ct (hst : Stable G) (l1 l2 : Nat) (x : TClosure) (hb : x.small 1048576) : Ct Tryz.prog G 143 [.agg (x.tw l1), .agg (x.tw l2)] (fun _ => .bool true) := by
  refine ct_enter Tryz.func143 rfl Tryz.ntmps143 rfl rfl fun w0 _ hG => ?_
  unfold TClosure.small at hb
  have hsself := hb
  unfold TClosure.tw
  repeat' (first | refine W_ ?_ | refine e_box ?_ | ((with_reducible apply o_load_agg_mp); rfl; rfl; kernel_rfl; kernel_rfl; kernel_rfl; rfl; (repeat (first | with_reducible exact mh | with_reducible refine mt ?_)); (repeat (first | exact .zero _ | apply Taken.succ))) | ((with_reducible apply o_load_agg_cp); rfl; rfl; kernel_rfl; kernel_rfl; kernel_rfl; rfl; (repeat (first | exact .zero _ | apply Taken.succ))) | ((with_reducible apply o_load_agg_me); rfl; rfl; kernel_rfl; kernel_rfl; kernel_rfl; rfl; (repeat (first | with_reducible exact mh | with_reducible refine mt ?_)); (first | (with_reducible assumption) | (refine row_map ?_; omega) | (refine set_row ?_; simp only [List.length_set, List.length_map]; omega) | exact rfl | assumption); (repeat (first | exact .zero _ | apply Taken.succ))) | refine e_call hG hst (eqValue_ct hst l1 l2 x.self hsself) ?_ | refine c_ (fun hc => ?_) (fun hc => ?_) | refine g_ (fun hg => ?_) (fun hg => ?_))
  all_goals first
    | (exfalso; simp at hc; done)
    | (exact r1_)
theorem eqClosureS_ct (hst : Stable G) (l1 l2 : Nat) (l : List TClosure) (hb : l.length ≤ 1048576 ∧ ∀ y ∈ l, TClosure.small 1048576 y) : Ct Tryz.prog G 58 [.sl l1 6 (l.map (TClosure.tw l1)), .sl l2 6 (l.map (TClosure.tw l2))] (fun _ => .bool true) := by
  refine ct_enter Tryz.func58 rfl Tryz.ntmps58 rfl rfl fun w0 _ hG => ?_
  have hlen := TClosure.len l1 l
  have hlen2 := TClosure.len l2 l
  have hl1 := hb.1
  repeat' (first | refine W_ ?_ | refine c_ (fun hc => ?_) (fun hc => ?_) | refine g_ (fun hg => ?_) (fun hg => ?_))
  apply aw_loopk (X := Nat) [0, 1] (fun i => [(5, .int .i64 (i : Int))]) (fun _ => []) (fun i => i ≤ l.length) (fun i => l.length - i) 0 (Nat.zero_le _)
  exact kp_; exact nw_
  · exact .refl _
  intro i hi
  try dsimp only
  by_cases hlt : i < l.length
  · have hr1 : (l.map (TClosure.tw l1))[i]? = some (l[i].tw l1) := row_map hlt
    have hr2 : (l.map (TClosure.tw l2))[i]? = some (l[i].tw l2) := row_map hlt
    have hbi := hb.2 _ (List.getElem_mem hlt)
    generalize l[i] = x at hr1 hr2 hbi
    have hct := eqClosure_ct hst l1 l2 x hbi
    unfold TClosure.tw at hct
    rw [show x.tw l1 = [.int .i64 x.code, .int .i64 x.outer, .int .i64 x.home, .int .i64 x.self.kind, .int .i64 x.self.number, .str x.self.text] from rfl] at hr1
    rw [show x.tw l2 = [.int .i64 x.code, .int .i64 x.outer, .int .i64 x.home, .int .i64 x.self.kind, .int .i64 x.self.number, .str x.self.text] from rfl] at hr2
    repeat' (first | refine V_ ?_ | ((with_reducible apply d_load_agg_mp); rfl; rfl; kernel_rfl; kernel_rfl; kernel_rfl; rfl; (repeat (first | with_reducible exact mh | with_reducible refine mt ?_)); (repeat (first | exact .zero _ | apply Taken.succ))) | ((with_reducible apply d_load_agg_cp); rfl; rfl; kernel_rfl; kernel_rfl; kernel_rfl; rfl; (repeat (first | exact .zero _ | apply Taken.succ))) | ((with_reducible apply d_load_agg_me); rfl; rfl; kernel_rfl; kernel_rfl; kernel_rfl; rfl; (repeat (first | with_reducible exact mh | with_reducible refine mt ?_)); (first | (with_reducible assumption) | (refine row_map ?_; omega) | (refine set_row ?_; simp only [List.length_set, List.length_map]; omega) | exact rfl | assumption); (repeat (first | exact .zero _ | apply Taken.succ))) | ((with_reducible apply o_load_agg_mp); rfl; rfl; kernel_rfl; kernel_rfl; kernel_rfl; rfl; (repeat (first | with_reducible exact mh | with_reducible refine mt ?_)); (repeat (first | exact .zero _ | apply Taken.succ))) | ((with_reducible apply o_load_agg_cp); rfl; rfl; kernel_rfl; kernel_rfl; kernel_rfl; rfl; (repeat (first | exact .zero _ | apply Taken.succ))) | ((with_reducible apply o_load_agg_me); rfl; rfl; kernel_rfl; kernel_rfl; kernel_rfl; rfl; (repeat (first | with_reducible exact mh | with_reducible refine mt ?_)); (first | (with_reducible assumption) | (refine row_map ?_; omega) | (refine set_row ?_; simp only [List.length_set, List.length_map]; omega) | exact rfl | assumption); (repeat (first | exact .zero _ | apply Taken.succ))) | refine e_calld hG hst (hct) ?_ | refine e_call hG hst (hct) ?_ | refine c_ (fun hc => ?_) (fun hc => ?_) | refine g_ (fun hg => ?_) (fun hg => ?_))
    exact aq_round (i + 1) (by omega) (by omega) (.of _ nw_ od_ pk_)
  · repeat' (first | refine W_ ?_ | refine c_ (fun hc => ?_) (fun hc => ?_) | refine g_ (fun hg => ?_) (fun hg => ?_))
    exact r1_
end
def TContext.tw (lo : Nat) (x : TContext) : List TV := [.int .i64 x.mark, .int .i64 x.code, .int .i64 x.pc, .int .i64 x.sender, .int .i64 x.outer, .int .i64 x.home, .int .i64 x.self.kind, .int .i64 x.self.number, .str x.self.text, .sl lo 3 (x.slots.map (TValue.tw lo)), .sl lo 3 (x.stack.map (TValue.tw lo)), .sl lo 3 (x.values.map (TValue.tw lo)), .int .i64 x.other, .bool x.retry]
def TContext.small (n : Nat) (x : TContext) : Prop := (TValue.small n x.self) ∧ (x.slots.length ≤ n ∧ ∀ y ∈ x.slots, TValue.small n y) ∧ (x.stack.length ≤ n ∧ ∀ y ∈ x.stack, TValue.small n y) ∧ (x.values.length ≤ n ∧ ∀ y ∈ x.values, TValue.small n y)
def TContext.tz : List TV := [.int .i64 0, .int .i64 0, .int .i64 0, .int .i64 0, .int .i64 0, .int .i64 0, .int .i64 0, .int .i64 0, .str ⟨#[]⟩, .nils, .nils, .nils, .int .i64 0, .bool false]
theorem TContext.fin (B K : Nat) (objs : Objs) (x : TContext) : FinL B objs K (x.tw B) (x.tw K) := .cons (.flat rfl) (.cons (.flat rfl) (.cons (.flat rfl) (.cons (.flat rfl) (.cons (.flat rfl) (.cons (.flat rfl) (.cons (.flat rfl) (.cons (.flat rfl) (.cons (.flat rfl) (.cons (fin_sl (fun x => TValue.fin B K objs x) _) (.cons (fin_sl (fun x => TValue.fin B K objs x) _) (.cons (fin_sl (fun x => TValue.fin B K objs x) _) (.cons (.flat rfl) (.cons (.flat rfl) (.nil))))))))))))))
theorem TContext.len (lo : Nat) (l : List TContext) : (l.map (TContext.tw lo)).length = l.length := by simp
section
variable {G : World → Prop}
theorem eqContext_ct (hst : Stable G) (l1 l2 : Nat) (x : TContext) (hb : x.small 1048576) : Ct Tryz.prog G 144 [.agg (x.tw l1), .agg (x.tw l2)] (fun _ => .bool true) := by
  refine ct_enter Tryz.func144 rfl Tryz.ntmps144 rfl rfl fun w0 _ hG => ?_
  unfold TContext.small at hb
  have hsself := hb.1
  have hsslots := hb.2.1
  have hsstack := hb.2.2.1
  have hsvalues := hb.2.2.2
  unfold TContext.tw
  repeat' (first | refine W_ ?_ | refine e_box ?_ | ((with_reducible apply o_load_agg_mp); rfl; rfl; kernel_rfl; kernel_rfl; kernel_rfl; rfl; (repeat (first | with_reducible exact mh | with_reducible refine mt ?_)); (repeat (first | exact .zero _ | apply Taken.succ))) | ((with_reducible apply o_load_agg_cp); rfl; rfl; kernel_rfl; kernel_rfl; kernel_rfl; rfl; (repeat (first | exact .zero _ | apply Taken.succ))) | ((with_reducible apply o_load_agg_me); rfl; rfl; kernel_rfl; kernel_rfl; kernel_rfl; rfl; (repeat (first | with_reducible exact mh | with_reducible refine mt ?_)); (first | (with_reducible assumption) | (refine row_map ?_; omega) | (refine set_row ?_; simp only [List.length_set, List.length_map]; omega) | exact rfl | assumption); (repeat (first | exact .zero _ | apply Taken.succ))) | refine e_call hG hst (eqValue_ct hst l1 l2 x.self hsself) ?_ | refine e_call hG hst (eqValueS_ct hst l1 l2 x.slots hsslots) ?_ | refine e_call hG hst (eqValueS_ct hst l1 l2 x.stack hsstack) ?_ | refine e_call hG hst (eqValueS_ct hst l1 l2 x.values hsvalues) ?_ | refine c_ (fun hc => ?_) (fun hc => ?_) | refine g_ (fun hg => ?_) (fun hg => ?_))
  all_goals first
    | (exfalso; simp at hc; done)
    | (exact r1_)
theorem eqContextS_ct (hst : Stable G) (l1 l2 : Nat) (l : List TContext) (hb : l.length ≤ 1048576 ∧ ∀ y ∈ l, TContext.small 1048576 y) : Ct Tryz.prog G 59 [.sl l1 14 (l.map (TContext.tw l1)), .sl l2 14 (l.map (TContext.tw l2))] (fun _ => .bool true) := by
  refine ct_enter Tryz.func59 rfl Tryz.ntmps59 rfl rfl fun w0 _ hG => ?_
  have hlen := TContext.len l1 l
  have hlen2 := TContext.len l2 l
  have hl1 := hb.1
  repeat' (first | refine W_ ?_ | refine c_ (fun hc => ?_) (fun hc => ?_) | refine g_ (fun hg => ?_) (fun hg => ?_))
  apply aw_loopk (X := Nat) [0, 1] (fun i => [(5, .int .i64 (i : Int))]) (fun _ => []) (fun i => i ≤ l.length) (fun i => l.length - i) 0 (Nat.zero_le _)
  exact kp_; exact nw_
  · exact .refl _
  intro i hi
  try dsimp only
  by_cases hlt : i < l.length
  · have hr1 : (l.map (TContext.tw l1))[i]? = some (l[i].tw l1) := row_map hlt
    have hr2 : (l.map (TContext.tw l2))[i]? = some (l[i].tw l2) := row_map hlt
    have hbi := hb.2 _ (List.getElem_mem hlt)
    generalize l[i] = x at hr1 hr2 hbi
    have hct := eqContext_ct hst l1 l2 x hbi
    unfold TContext.tw at hct
    rw [show x.tw l1 = [.int .i64 x.mark, .int .i64 x.code, .int .i64 x.pc, .int .i64 x.sender, .int .i64 x.outer, .int .i64 x.home, .int .i64 x.self.kind, .int .i64 x.self.number, .str x.self.text, .sl l1 3 (x.slots.map (TValue.tw l1)), .sl l1 3 (x.stack.map (TValue.tw l1)), .sl l1 3 (x.values.map (TValue.tw l1)), .int .i64 x.other, .bool x.retry] from rfl] at hr1
    rw [show x.tw l2 = [.int .i64 x.mark, .int .i64 x.code, .int .i64 x.pc, .int .i64 x.sender, .int .i64 x.outer, .int .i64 x.home, .int .i64 x.self.kind, .int .i64 x.self.number, .str x.self.text, .sl l2 3 (x.slots.map (TValue.tw l2)), .sl l2 3 (x.stack.map (TValue.tw l2)), .sl l2 3 (x.values.map (TValue.tw l2)), .int .i64 x.other, .bool x.retry] from rfl] at hr2
    repeat' (first | refine V_ ?_ | ((with_reducible apply d_load_agg_mp); rfl; rfl; kernel_rfl; kernel_rfl; kernel_rfl; rfl; (repeat (first | with_reducible exact mh | with_reducible refine mt ?_)); (repeat (first | exact .zero _ | apply Taken.succ))) | ((with_reducible apply d_load_agg_cp); rfl; rfl; kernel_rfl; kernel_rfl; kernel_rfl; rfl; (repeat (first | exact .zero _ | apply Taken.succ))) | ((with_reducible apply d_load_agg_me); rfl; rfl; kernel_rfl; kernel_rfl; kernel_rfl; rfl; (repeat (first | with_reducible exact mh | with_reducible refine mt ?_)); (first | (with_reducible assumption) | (refine row_map ?_; omega) | (refine set_row ?_; simp only [List.length_set, List.length_map]; omega) | exact rfl | assumption); (repeat (first | exact .zero _ | apply Taken.succ))) | ((with_reducible apply o_load_agg_mp); rfl; rfl; kernel_rfl; kernel_rfl; kernel_rfl; rfl; (repeat (first | with_reducible exact mh | with_reducible refine mt ?_)); (repeat (first | exact .zero _ | apply Taken.succ))) | ((with_reducible apply o_load_agg_cp); rfl; rfl; kernel_rfl; kernel_rfl; kernel_rfl; rfl; (repeat (first | exact .zero _ | apply Taken.succ))) | ((with_reducible apply o_load_agg_me); rfl; rfl; kernel_rfl; kernel_rfl; kernel_rfl; rfl; (repeat (first | with_reducible exact mh | with_reducible refine mt ?_)); (first | (with_reducible assumption) | (refine row_map ?_; omega) | (refine set_row ?_; simp only [List.length_set, List.length_map]; omega) | exact rfl | assumption); (repeat (first | exact .zero _ | apply Taken.succ))) | refine e_calld hG hst (hct) ?_ | refine e_call hG hst (hct) ?_ | refine c_ (fun hc => ?_) (fun hc => ?_) | refine g_ (fun hg => ?_) (fun hg => ?_))
    exact aq_round (i + 1) (by omega) (by omega) (.of _ nw_ od_ pk_)
  · repeat' (first | refine W_ ?_ | refine c_ (fun hc => ?_) (fun hc => ?_) | refine g_ (fun hg => ?_) (fun hg => ?_))
    exact r1_
end
def TProcess.tw (_lo : Nat) (x : TProcess) : List TV := [.int .i64 x.at_, .bool x.main]
def TProcess.small (_n : Nat) (_x : TProcess) : Prop := True
def TProcess.tz : List TV := [.int .i64 0, .bool false]
theorem TProcess.fin (B K : Nat) (objs : Objs) (x : TProcess) : FinL B objs K (x.tw B) (x.tw K) := .cons (.flat rfl) (.cons (.flat rfl) (.nil))
theorem TProcess.len (lo : Nat) (l : List TProcess) : (l.map (TProcess.tw lo)).length = l.length := by simp
section
variable {G : World → Prop}
theorem eqProcess_ct (_hst : Stable G) (l1 l2 : Nat) (x : TProcess) (_hb : x.small 1048576) : Ct Tryz.prog G 145 [.agg (x.tw l1), .agg (x.tw l2)] (fun _ => .bool true) := by
  refine ct_enter Tryz.func145 rfl Tryz.ntmps145 rfl rfl fun w0 _ hG => ?_
  unfold TProcess.small at _hb
  skip
  unfold TProcess.tw
  repeat' (first | refine W_ ?_ | refine e_box ?_ | refine c_ (fun hc => ?_) (fun hc => ?_) | refine g_ (fun hg => ?_) (fun hg => ?_))
  all_goals first
    | (exfalso; simp at hc; done)
    | (exact r1_)
theorem eqProcessS_ct (hst : Stable G) (l1 l2 : Nat) (l : List TProcess) (hb : l.length ≤ 1048576 ∧ ∀ y ∈ l, TProcess.small 1048576 y) : Ct Tryz.prog G 60 [.sl l1 2 (l.map (TProcess.tw l1)), .sl l2 2 (l.map (TProcess.tw l2))] (fun _ => .bool true) := by
  refine ct_enter Tryz.func60 rfl Tryz.ntmps60 rfl rfl fun w0 _ hG => ?_
  have hlen := TProcess.len l1 l
  have hlen2 := TProcess.len l2 l
  have hl1 := hb.1
  repeat' (first | refine W_ ?_ | refine c_ (fun hc => ?_) (fun hc => ?_) | refine g_ (fun hg => ?_) (fun hg => ?_))
  apply aw_loopk (X := Nat) [0, 1] (fun i => [(5, .int .i64 (i : Int))]) (fun _ => []) (fun i => i ≤ l.length) (fun i => l.length - i) 0 (Nat.zero_le _)
  exact kp_; exact nw_
  · exact .refl _
  intro i hi
  try dsimp only
  by_cases hlt : i < l.length
  · have hr1 : (l.map (TProcess.tw l1))[i]? = some (l[i].tw l1) := row_map hlt
    have hr2 : (l.map (TProcess.tw l2))[i]? = some (l[i].tw l2) := row_map hlt
    have hbi := hb.2 _ (List.getElem_mem hlt)
    generalize l[i] = x at hr1 hr2 hbi
    have hct := eqProcess_ct hst l1 l2 x hbi
    unfold TProcess.tw at hct
    rw [show x.tw l1 = [.int .i64 x.at_, .bool x.main] from rfl] at hr1
    rw [show x.tw l2 = [.int .i64 x.at_, .bool x.main] from rfl] at hr2
    repeat' (first | refine V_ ?_ | ((with_reducible apply d_load_agg_mp); rfl; rfl; kernel_rfl; kernel_rfl; kernel_rfl; rfl; (repeat (first | with_reducible exact mh | with_reducible refine mt ?_)); (repeat (first | exact .zero _ | apply Taken.succ))) | ((with_reducible apply d_load_agg_cp); rfl; rfl; kernel_rfl; kernel_rfl; kernel_rfl; rfl; (repeat (first | exact .zero _ | apply Taken.succ))) | ((with_reducible apply d_load_agg_me); rfl; rfl; kernel_rfl; kernel_rfl; kernel_rfl; rfl; (repeat (first | with_reducible exact mh | with_reducible refine mt ?_)); (first | (with_reducible assumption) | (refine row_map ?_; omega) | (refine set_row ?_; simp only [List.length_set, List.length_map]; omega) | exact rfl | assumption); (repeat (first | exact .zero _ | apply Taken.succ))) | ((with_reducible apply o_load_agg_mp); rfl; rfl; kernel_rfl; kernel_rfl; kernel_rfl; rfl; (repeat (first | with_reducible exact mh | with_reducible refine mt ?_)); (repeat (first | exact .zero _ | apply Taken.succ))) | ((with_reducible apply o_load_agg_cp); rfl; rfl; kernel_rfl; kernel_rfl; kernel_rfl; rfl; (repeat (first | exact .zero _ | apply Taken.succ))) | ((with_reducible apply o_load_agg_me); rfl; rfl; kernel_rfl; kernel_rfl; kernel_rfl; rfl; (repeat (first | with_reducible exact mh | with_reducible refine mt ?_)); (first | (with_reducible assumption) | (refine row_map ?_; omega) | (refine set_row ?_; simp only [List.length_set, List.length_map]; omega) | exact rfl | assumption); (repeat (first | exact .zero _ | apply Taken.succ))) | refine e_calld hG hst (hct) ?_ | refine e_call hG hst (hct) ?_ | refine c_ (fun hc => ?_) (fun hc => ?_) | refine g_ (fun hg => ?_) (fun hg => ?_))
    exact aq_round (i + 1) (by omega) (by omega) (.of _ nw_ od_ pk_)
  · repeat' (first | refine W_ ?_ | refine c_ (fun hc => ?_) (fun hc => ?_) | refine g_ (fun hg => ?_) (fun hg => ?_))
    exact r1_
end
def TImage.tw (lo : Nat) (x : TImage) : List TV := [.sl lo 3 (x.base.classes.map (TClassInfo.tw lo)), .sl lo 4 (x.base.codes.map (TCode.tw lo)), .sl lo 4 (x.base.entries.map (TEntry.tw lo)), .int .i64 x.base.main, .sl lo 3 (x.store.classes.map (TClassInfo.tw lo)), .sl lo 4 (x.store.objects.map (TObject.tw lo)), .sl lo 1 (strR x.store.output), .int .i64 x.store.ticks, .int .i64 x.store.budget, .int .i64 x.store.made, .sl lo 6 (x.blocks.map (TClosure.tw lo)), .sl lo 14 (x.contexts.map (TContext.tw lo)), .sl lo 2 (x.processes.map (TProcess.tw lo)), .sl lo 1 (intR x.ready), .int .i64 x.now, .int .i64 x.status, .int .i64 x.value.kind, .int .i64 x.value.number, .str x.value.text, .str x.fault]
def TImage.small (n : Nat) (x : TImage) : Prop := (TCodeBase.small n x.base) ∧ (TStore.small n x.store) ∧ (x.blocks.length ≤ n ∧ ∀ y ∈ x.blocks, TClosure.small n y) ∧ (x.contexts.length ≤ n ∧ ∀ y ∈ x.contexts, TContext.small n y) ∧ (x.processes.length ≤ n ∧ ∀ y ∈ x.processes, TProcess.small n y) ∧ (x.ready.length ≤ n) ∧ (TValue.small n x.value) ∧ (x.fault.size ≤ n)
def TImage.tz : List TV := [.nils, .nils, .nils, .int .i64 0, .nils, .nils, .nils, .int .i64 0, .int .i64 0, .int .i64 0, .nils, .nils, .nils, .nils, .int .i64 0, .int .i64 0, .int .i64 0, .int .i64 0, .str ⟨#[]⟩, .str ⟨#[]⟩]
theorem TImage.fin (B K : Nat) (objs : Objs) (_x : TImage) : FinL B objs K (_x.tw B) (_x.tw K) := .cons (fin_sl (fun _x => TClassInfo.fin B K objs _x) _) (.cons (fin_sl (fun _x => TCode.fin B K objs _x) _) (.cons (fin_sl (fun _x => TEntry.fin B K objs _x) _) (.cons (.flat rfl) (.cons (fin_sl (fun _x => TClassInfo.fin B K objs _x) _) (.cons (fin_sl (fun _x => TObject.fin B K objs _x) _) (.cons (fin_sl (fun _x => .cons (.flat rfl) .nil) _) (.cons (.flat rfl) (.cons (.flat rfl) (.cons (.flat rfl) (.cons (fin_sl (fun _x => TClosure.fin B K objs _x) _) (.cons (fin_sl (fun _x => TContext.fin B K objs _x) _) (.cons (fin_sl (fun _x => TProcess.fin B K objs _x) _) (.cons (fin_sl (fun _x => .cons (.flat rfl) .nil) _) (.cons (.flat rfl) (.cons (.flat rfl) (.cons (.flat rfl) (.cons (.flat rfl) (.cons (.flat rfl) (.cons (.flat rfl) (.nil))))))))))))))))))))
theorem TImage.len (lo : Nat) (l : List TImage) : (l.map (TImage.tw lo)).length = l.length := by simp
section
variable {G : World → Prop}
theorem eqImage_ct (hst : Stable G) (l1 l2 : Nat) (x : TImage) (hb : x.small 1048576) : Ct Tryz.prog G 16 [.agg (x.tw l1), .agg (x.tw l2)] (fun _ => .bool true) := by
  refine ct_enter Tryz.func16 rfl Tryz.ntmps16 rfl rfl fun w0 _ hG => ?_
  unfold TImage.small at hb
  have hsbase := hb.1
  have hsstore := hb.2.1
  have hsblocks := hb.2.2.1
  have hscontexts := hb.2.2.2.1
  have hsprocesses := hb.2.2.2.2.1
  have hsready := hb.2.2.2.2.2.1
  have hsvalue := hb.2.2.2.2.2.2.1
  have hnefault : ¬ x.fault ≠ x.fault := fun h => h rfl
  unfold TImage.tw
  repeat' (first | refine W_ ?_ | refine e_box ?_ | ((with_reducible apply o_load_agg_mp); rfl; rfl; kernel_rfl; kernel_rfl; kernel_rfl; rfl; (repeat (first | with_reducible exact mh | with_reducible refine mt ?_)); (repeat (first | exact .zero _ | apply Taken.succ))) | ((with_reducible apply o_load_agg_cp); rfl; rfl; kernel_rfl; kernel_rfl; kernel_rfl; rfl; (repeat (first | exact .zero _ | apply Taken.succ))) | ((with_reducible apply o_load_agg_me); rfl; rfl; kernel_rfl; kernel_rfl; kernel_rfl; rfl; (repeat (first | with_reducible exact mh | with_reducible refine mt ?_)); (first | (with_reducible assumption) | (refine row_map ?_; omega) | (refine set_row ?_; simp only [List.length_set, List.length_map]; omega) | exact rfl | assumption); (repeat (first | exact .zero _ | apply Taken.succ))) | refine e_call hG hst (eqCodeBase_ct hst l1 l2 x.base hsbase) ?_ | refine e_call hG hst (eqStore_ct hst l1 l2 x.store hsstore) ?_ | refine e_call hG hst (eqClosureS_ct hst l1 l2 x.blocks hsblocks) ?_ | refine e_call hG hst (eqContextS_ct hst l1 l2 x.contexts hscontexts) ?_ | refine e_call hG hst (eqProcessS_ct hst l1 l2 x.processes hsprocesses) ?_ | refine e_call hG hst (eqIntS_cu hst l1 l2 x.ready hsready) ?_ | refine e_call hG hst (eqValue_ct hst l1 l2 x.value hsvalue) ?_ | refine c_ (fun hc => ?_) (fun hc => ?_) | refine g_ (fun hg => ?_) (fun hg => ?_))
  all_goals first
    | (exfalso; simp at hc; done)
    | (exact r1_)
end
end Go.Proofs.YtiihihgjiklnoaaGreatDoor
