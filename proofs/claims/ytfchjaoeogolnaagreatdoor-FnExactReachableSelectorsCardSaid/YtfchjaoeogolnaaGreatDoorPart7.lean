/- Part 7 of the proof: the texts EngK, IvA, DepP, DepF, SdA, Ints, DepG, SdB, SdC, IvB. -/
import Derived.Test.YtfchjaoeogolnaaGreatDoorPart5
import Derived.Test.YtfchjaoeogolnaaGreatDoorPart6
import Derived.Test.YtfchjaoeogolnaaGreatDoorPart2
import Derived.Test.YtfchjaoeogolnaaGreatDoorPart1
import Derived.Test.YtfchjaoeogolnaaGreatDoorChecked
import Derived.Deep.QuietTactic
import Derived.BigQuiet
/- The abstract walk, part 18: a struct literal in a region that draws its order; a row that is frozen. -/
namespace Go.Proofs.YtfchjaoeogolnaaGreatDoor
open Go Go.RowKit
section
variable {P : Program} {w0 : World} {N : Nat} {Q : Exit → Act → World → Prop} {env : Env} {objs objs' : Objs} {o : Oper}
theorem d_build {K : Env → Prop} {ops : Array Oper} {rest : List Oper} {d T0 : Nat} {pos : String} {af : Array Edge} {g : Option (Nat × Bool)} {T : TypeId} {ps : List (Nat × Operand)} {zs l : List TV} (hN : Nat.blt d N = true) (he : zT T = zs) (hb : TB P env T ps zs l) (hz : zeroOk P T = some (zT T)) (hp : (placesOf P T).isSome = true)
    (h : DR P w0 N ops objs K rest ((d, .agg l) :: env)) : DO P w0 N ops objs K ⟨some d, .build T ps.toArray, T0, pos, af, g⟩ rest env := ⟨fun hgr => .run _ _ _ _ _ rfl hN hgr (y_build rfl hz hp (he ▸ hb)) h⟩
end
end Go.Proofs.YtfchjaoeogolnaaGreatDoor
/- The built-in classes of both sides. Written by gen_iv.py. -/
namespace Go.Proofs.YtfchjaoeogolnaaGreatDoor
open Go Go.RowKit
def builtinL : List TClassInfo := [⟨⟨#[79, 98, 106, 101, 99, 116]⟩, -1, []⟩, ⟨⟨#[69, 120, 99, 101, 112, 116, 105, 111, 110]⟩, 0, [⟨#[116, 101, 120, 116]⟩]⟩, ⟨⟨#[69, 114, 114, 111, 114]⟩, 1, [⟨#[116, 101, 120, 116]⟩]⟩, ⟨⟨#[77, 101, 115, 115, 97, 103, 101, 78, 111, 116, 85, 110, 100, 101, 114, 115, 116, 111, 111, 100]⟩, 2, [⟨#[116, 101, 120, 116]⟩]⟩, ⟨⟨#[90, 101, 114, 111, 68, 105, 118, 105, 100, 101]⟩, 2, [⟨#[116, 101, 120, 116]⟩]⟩, ⟨⟨#[73, 110, 116, 101, 103, 101, 114]⟩, 0, []⟩, ⟨⟨#[66, 111, 111, 108, 101, 97, 110]⟩, 0, []⟩, ⟨⟨#[78, 105, 108]⟩, 0, []⟩, ⟨⟨#[83, 116, 114, 105, 110, 103]⟩, 0, []⟩, ⟨⟨#[83, 121, 109, 98, 111, 108]⟩, 0, []⟩, ⟨⟨#[65, 114, 114, 97, 121]⟩, 0, []⟩, ⟨⟨#[66, 108, 111, 99, 107]⟩, 0, []⟩, ⟨⟨#[83, 101, 109, 97, 112, 104, 111, 114, 101]⟩, 0, []⟩, ⟨⟨#[80, 114, 111, 99, 101, 115, 115]⟩, 0, []⟩, ⟨⟨#[84, 114, 97, 110, 115, 99, 114, 105, 112, 116]⟩, 0, []⟩, ⟨⟨#[67, 108, 97, 115, 115]⟩, 0, []⟩]
def builtinNames : List ByteArray := [⟨#[79, 98, 106, 101, 99, 116]⟩, ⟨#[69, 120, 99, 101, 112, 116, 105, 111, 110]⟩, ⟨#[69, 114, 114, 111, 114]⟩, ⟨#[77, 101, 115, 115, 97, 103, 101, 78, 111, 116, 85, 110, 100, 101, 114, 115, 116, 111, 111, 100]⟩, ⟨#[90, 101, 114, 111, 68, 105, 118, 105, 100, 101]⟩, ⟨#[73, 110, 116, 101, 103, 101, 114]⟩, ⟨#[66, 111, 111, 108, 101, 97, 110]⟩, ⟨#[78, 105, 108]⟩, ⟨#[83, 116, 114, 105, 110, 103]⟩, ⟨#[83, 121, 109, 98, 111, 108]⟩, ⟨#[65, 114, 114, 97, 121]⟩, ⟨#[66, 108, 111, 99, 107]⟩, ⟨#[83, 101, 109, 97, 112, 104, 111, 114, 101]⟩, ⟨#[80, 114, 111, 99, 101, 115, 115]⟩, ⟨#[84, 114, 97, 110, 115, 99, 114, 105, 112, 116]⟩, ⟨#[67, 108, 97, 115, 115]⟩]
def bfields (k : Int) : List ByteArray := if k = 1 ∨ k = 2 ∨ k = 3 ∨ k = 4 then [⟨#[116, 101, 120, 116]⟩] else []
def bparents : List (List TV) := [[TV.int .i64 (-1)], [TV.int .i64 0], [TV.int .i64 1], [TV.int .i64 2], [TV.int .i64 2], [TV.int .i64 0], [TV.int .i64 0], [TV.int .i64 0], [TV.int .i64 0], [TV.int .i64 0], [TV.int .i64 0], [TV.int .i64 0], [TV.int .i64 0], [TV.int .i64 0], [TV.int .i64 0], [TV.int .i64 0]]
theorem builtin_len : builtinL.length = 16 := rfl
theorem builtin_at {i : Nat} (h : i < 16) : ∃ x, builtinL[i]? = some x ∧ (strR builtinNames)[i]? = some [.str x.name] ∧ bparents[i]? = some [.int .i64 x.parent] ∧ bfields (i : Int) = x.fields ∧ builtinL.take (i + 1) = builtinL.take i ++ [x] := by
  match i, h with
  | 0, _ => exact ⟨_, rfl, rfl, rfl, rfl, rfl⟩
  | 1, _ => exact ⟨_, rfl, rfl, rfl, rfl, rfl⟩
  | 2, _ => exact ⟨_, rfl, rfl, rfl, rfl, rfl⟩
  | 3, _ => exact ⟨_, rfl, rfl, rfl, rfl, rfl⟩
  | 4, _ => exact ⟨_, rfl, rfl, rfl, rfl, rfl⟩
  | 5, _ => exact ⟨_, rfl, rfl, rfl, rfl, rfl⟩
  | 6, _ => exact ⟨_, rfl, rfl, rfl, rfl, rfl⟩
  | 7, _ => exact ⟨_, rfl, rfl, rfl, rfl, rfl⟩
  | 8, _ => exact ⟨_, rfl, rfl, rfl, rfl, rfl⟩
  | 9, _ => exact ⟨_, rfl, rfl, rfl, rfl, rfl⟩
  | 10, _ => exact ⟨_, rfl, rfl, rfl, rfl, rfl⟩
  | 11, _ => exact ⟨_, rfl, rfl, rfl, rfl, rfl⟩
  | 12, _ => exact ⟨_, rfl, rfl, rfl, rfl, rfl⟩
  | 13, _ => exact ⟨_, rfl, rfl, rfl, rfl, rfl⟩
  | 14, _ => exact ⟨_, rfl, rfl, rfl, rfl, rfl⟩
  | 15, _ => exact ⟨_, rfl, rfl, rfl, rfl, rfl⟩
  | n + 16, h => omega
section
variable {G : World → Prop}
theorem specBuiltin_ct : Ct Tryz.prog G 129 [] (fun K => .sl K 1 (strR builtinNames)) := by
  refine ct_enter Tryz.func129 rfl Tryz.ntmps129 rfl rfl fun w0 _ hG => ?_
  repeat' (first | with_reducible refine al_none rfl ?_ | ((with_reducible apply o_assign); rfl; rfl) | ((with_reducible apply o_lit); rfl; rfl; kernel_rfl; kernel_rfl; rfl; kernel_rfl; rfl; rfl; rfl; rfl) | with_reducible refine aw_seq ?_ | with_reducible refine aw_region ?_ | with_reducible refine al_nil ?_ | with_reducible refine aq_then ?_ | with_reducible refine aw_ret ?_)
  refine aq_ret1 (r1 := .tmp 0) (t1 := .sl w0.heap.size 1 (strR builtinNames)) (.inr rfl) rfl (.tmp _ _ rfl) (fun _ => ?_)
  exact fin_sl (f := fun s : ByteArray => [TV.str s]) (f' := fun s : ByteArray => [TV.str s]) (fun x => .cons (.flat rfl) .nil) builtinNames
theorem implBuiltin_ct : Ct Tryz.prog G 139 [] (fun K => .sl K 1 (strR builtinNames)) := by
  refine ct_enter Tryz.func139 rfl Tryz.ntmps139 rfl rfl fun w0 _ hG => ?_
  repeat' (first | with_reducible refine al_none rfl ?_ | ((with_reducible apply o_assign); rfl; rfl) | ((with_reducible apply o_lit); rfl; rfl; kernel_rfl; kernel_rfl; rfl; kernel_rfl; rfl; rfl; rfl; rfl) | with_reducible refine aw_seq ?_ | with_reducible refine aw_region ?_ | with_reducible refine al_nil ?_ | with_reducible refine aq_then ?_ | with_reducible refine aw_ret ?_)
  refine aq_ret1 (r1 := .tmp 0) (t1 := .sl w0.heap.size 1 (strR builtinNames)) (.inr rfl) rfl (.tmp _ _ rfl) (fun _ => ?_)
  exact fin_sl (f := fun s : ByteArray => [TV.str s]) (f' := fun s : ByteArray => [TV.str s]) (fun x => .cons (.flat rfl) .nil) builtinNames
theorem l7Fields_ct (tu : TV) (k : Int) (h : k < 16) : Ct Tryz.prog G 130 [tu, .int .i64 k] (fun K => .sl K 1 (strR (bfields k))) := by
  refine ct_enter Tryz.func130 rfl Tryz.ntmps130 rfl rfl fun w0 _ hG => ?_
  by_cases hk : k = 1 ∨ k = 2 ∨ k = 3 ∨ k = 4
  · rw [show bfields k = [⟨#[116, 101, 120, 116]⟩] from if_pos hk]
    repeat' (first | with_reducible refine al_none rfl ?_ | ((with_reducible first | apply o_move | apply o_assign); rfl; rfl) | ((with_reducible apply o_pick_t); rfl; rfl; (with_reducible rfl); rfl) | ((with_reducible apply o_pick_f); rfl; rfl; (with_reducible rfl); rfl) | ((with_reducible apply o_eql); rfl; rfl; rfl) | ((with_reducible apply o_lit); rfl; rfl; kernel_rfl; kernel_rfl; rfl; kernel_rfl; rfl; rfl; rfl; rfl) | with_reducible refine aw_seq ?_ | with_reducible refine aw_region ?_ | with_reducible refine al_nil ?_ | with_reducible refine aq_then ?_ | with_reducible refine aw_ret ?_ | with_reducible refine aq_then_ret ?_ | refine al_run rfl rfl rfl (by with_reducible rfl) ?_ | refine al_skip rfl rfl rfl (by with_reducible rfl) rfl rfl rfl ?_ | (refine al_gsplit rfl rfl rfl (by with_reducible rfl) (fun hg => ?_) (fun hg => ?_)) | refine aw_cond_t rfl (by with_reducible rfl) ?_ | (refine aw_cond_dt rfl (by with_reducible rfl) (by first | assumption | omega) ?_))
    all_goals first
      | (exfalso; omega)
      | (refine aq_ret1 (by first | exact .inl rfl | exact .inr rfl) rfl (.tmp _ _ rfl) (fun _ => ?_)
         exact fin_sl (f := fun s : ByteArray => [TV.str s]) (f' := fun s : ByteArray => [TV.str s]) (fun x => .cons (.flat rfl) .nil) [⟨#[116, 101, 120, 116]⟩])
  · rw [show bfields k = [] from if_neg hk]
    repeat' (first | with_reducible refine al_none rfl ?_ | ((with_reducible first | apply o_move | apply o_assign); rfl; rfl) | ((with_reducible apply o_pick_f); rfl; rfl; (with_reducible rfl); rfl) | ((with_reducible first | apply o_eql | apply o_lss); rfl; rfl; rfl) | ((with_reducible apply o_lit); rfl; rfl; kernel_rfl; kernel_rfl; rfl; kernel_rfl; rfl; rfl; rfl; rfl) | with_reducible refine aw_seq ?_ | with_reducible refine aw_region ?_ | with_reducible refine al_nil ?_ | with_reducible refine aq_then ?_ | with_reducible refine aw_skip ?_ | with_reducible refine aw_ret ?_ | with_reducible refine aq_then_ret ?_ | refine al_run rfl rfl rfl (by with_reducible rfl) ?_ | (refine al_gf rfl rfl rfl (by with_reducible rfl) (by first | assumption | omega) ?_) | (refine aw_cond_dt rfl (by with_reducible rfl) (by assumption) ?_) | (refine aw_cond_df rfl (by with_reducible rfl) (by first | assumption | omega) ?_))
    all_goals first
      | (exfalso; omega)
      | (refine aq_ret1 (by first | exact .inl rfl | exact .inr rfl) rfl (.tmp _ _ rfl) (fun _ => ?_)
         exact fin_sl (f := fun s : ByteArray => [TV.str s]) (f' := fun s : ByteArray => [TV.str s]) (fun x => .cons (.flat rfl) .nil) [])
theorem l8Infos_ct (hst : Stable G) (rest : List TV) : Ct Tryz.prog G 105 [.cp 0 (.nils :: rest)] (fun K => .sl K 3 (builtinL.map (TClassInfo.tw K))) := by
  refine ct_enter Tryz.func105 rfl Tryz.ntmps105 rfl rfl fun w0 _ hG => ?_
  repeat' (first | with_reducible refine al_none rfl ?_ | ((with_reducible apply o_assign); rfl; rfl) | ((with_reducible apply o_call); rfl; kernel_rfl; (repeat (exact Args.nil)); exact hG; exact hst; exact specBuiltin_ct) | with_reducible refine aw_hold_r (id := 3) ?_ | ((with_reducible apply o_own); rfl; rfl; kernel_rfl; kernel_rfl; rfl; kernel_rfl; rfl; rfl; rfl; rfl; intro ss bb) | with_reducible refine aw_seq ?_ | with_reducible refine aw_region ?_ | with_reducible refine al_nil ?_ | with_reducible refine aq_then ?_)
  refine ⟨?_⟩
  repeat' (first | with_reducible refine al_none rfl ?_ | ((with_reducible apply o_assign); rfl; rfl) | ((with_reducible apply o_lit); rfl; rfl; kernel_rfl; kernel_rfl; rfl; kernel_rfl; rfl; rfl; rfl; rfl) | with_reducible refine aw_seq ?_ | with_reducible refine aw_region ?_ | with_reducible refine al_nil ?_ | with_reducible refine aq_then ?_ | with_reducible refine aw_block ?_)
  apply aw_loopk (X := Nat × Nat) [0, 4, 5] (fun x => [(6, .int .i64 (x.1 : Int)), (3, .ms ss x.2 0 x.1)]) (fun x => [(ss, x.2, .row 3 ((builtinL.take x.1).map (TClassInfo.tw w0.heap.size)))]) (fun x => x.1 ≤ 16) (fun x => 16 - x.1) (0, bb) (Nat.zero_le _)
  (repeat (first | exact Kept.nil | (apply Kept.cons; rfl))); (repeat (first | exact Weak.envNil | refine Weak.envCons (by rfl) ?_))
  · exact .refl _
  rintro ⟨i, b⟩ hi
  dsimp only at hi ⊢
  by_cases hlt : i < 16
  · obtain ⟨x, hx, h1, h2, h3, h4⟩ := builtin_at hlt
    unfold bparents at h2
    have hle : ((builtinL.take i).map (TClassInfo.tw w0.heap.size)).length = i := by rw [List.length_map, List.length_take, builtin_len]; omega
    repeat' (first | with_reducible refine al_none rfl ?_ | ((with_reducible first | apply o_move | apply o_assign); rfl; rfl) | ((with_reducible apply o_lss); rfl; rfl; rfl) | ((with_reducible apply o_add); rfl; rfl; rfl; (((with_reducible refine w_n1 ?_); omega))) | (with_reducible apply aw_draw2 (id := 7) 14; kernel_rfl; kernel_rfl; kernel_rfl; (repeat (first | exact Cut.zero _ | apply Cut.succ))) | with_reducible refine dr_nil2 ?_ | with_reducible refine dr_none rfl ?_ | ((with_reducible apply d_move); rfl; rfl) | ((with_reducible apply d_load_cp); rfl; rfl; kernel_rfl; rfl; rfl) | ((with_reducible apply d_indexAddr); rfl; rfl; rfl; kernel_rfl; kernel_rfl; kernel_rfl; rfl; ((with_reducible exact rfl)); ((with_reducible assumption))) | ((with_reducible apply d_call); rfl; kernel_rfl; (repeat (first | exact Args.nil | ((with_reducible apply Args.cons); rfl; exact .same _))); exact hG; exact hst; exact l7Fields_ct _ _ (by omega)) | ((with_reducible apply d_build); rfl; rfl; (repeat (first | exact TB.nil _ | ((with_reducible apply TB.cons); rfl; rfl; (first | exact .put _ _ _ _ _ (.nil _) | exact .skip _ _ _ _ _ (.put _ _ _ _ _ (.nil _)) | exact .skip _ _ _ _ _ (.skip _ _ _ _ _ (.put _ _ _ _ _ (.nil _)))); kernel_rfl))); kernel_rfl; kernel_rfl) | ((with_reducible apply d_lit); rfl; rfl; kernel_rfl; kernel_rfl; rfl; kernel_rfl; rfl; rfl; rfl; rfl) | ((with_reducible apply o_append); rfl; rfl; rfl; kernel_rfl; (repeat (with_reducible exact mh)); (with_reducible assumption); ((show List.length _ = 1; rfl)); omega; rfl; (intro bq; (repeat (with_reducible exact Upd.head _))); intro bb) | with_reducible refine aw_seq ?_ | with_reducible refine aw_region ?_ | with_reducible refine al_nil ?_ | with_reducible refine aq_then ?_ | with_reducible refine aw_block ?_ | with_reducible refine aw_skip ?_ | with_reducible refine aq_block ?_ | (refine aw_cond_dt rfl (by with_reducible rfl) (by first | assumption | omega) ?_))
    have hrow : (builtinL.take i).map (TClassInfo.tw w0.heap.size) ++ [[TV.str x.name, .int .i64 x.parent, .sl w0.heap.size 1 (strR (bfields i))]] = (builtinL.take (i + 1)).map (TClassInfo.tw w0.heap.size) := by
      rw [h4, h3, List.map_append]; rfl
    rw [hrow]
    exact aq_round (i + 1, bb) (by dsimp only; omega) (by dsimp only; omega) (.of _ (by repeat (first | exact Weak.envNil | refine Weak.envCons (by rfl) ?_)) (by repeat (first | exact Weak.envNil | refine Weak.envCons rfl ?_)) (by (try dsimp only); (repeat (with_reducible exact Pick.refl _))))
  · obtain rfl : i = 16 := by omega
    repeat' (first | with_reducible refine al_none rfl ?_ | ((with_reducible first | apply o_move | apply o_assign); rfl; rfl) | ((with_reducible apply o_lss); rfl; rfl; rfl) | with_reducible refine aw_seq ?_ | with_reducible refine aw_region ?_ | with_reducible refine al_nil ?_ | with_reducible refine aq_then ?_ | with_reducible refine aw_block ?_ | with_reducible refine aw_exit ?_ | with_reducible refine aq_block_hit ?_ | with_reducible refine aq_then_exit ?_ | (refine aw_cond_df rfl (by with_reducible rfl) (by first | assumption | omega) ?_))
    apply aw_loopk (X := Unit) [0, 3] (fun _ => [(7, .int .i64 0)]) (fun _ => [(ss, b, .row 3 (builtinL.map (TClassInfo.tw w0.heap.size)))]) (fun _ => True) (fun _ => 0) () trivial
    (repeat (first | exact Kept.nil | (apply Kept.cons; rfl))); (repeat (first | exact Weak.envNil | refine Weak.envCons (by rfl) ?_))
    · exact .refl _
    rintro _ -
    repeat' (first | with_reducible refine al_none rfl ?_ | ((with_reducible first | apply o_move | apply o_assign | apply o_nilCheck_cp); rfl; rfl) | ((with_reducible apply o_load_cp); rfl; rfl; kernel_rfl; rfl; rfl) | ((with_reducible apply o_fieldAddr); rfl; rfl; kernel_rfl; rfl) | ((with_reducible apply o_len_nils); rfl; rfl; kernel_rfl) | ((with_reducible apply o_lss); rfl; rfl; rfl) | with_reducible refine aw_seq ?_ | with_reducible refine aw_region ?_ | with_reducible refine al_nil ?_ | with_reducible refine aq_then ?_ | with_reducible refine aw_exit ?_ | with_reducible refine aw_ret ?_ | with_reducible refine aq_block_hit ?_ | with_reducible refine aq_then_exit ?_ | (refine aw_cond_df rfl (by with_reducible rfl) (by first | assumption | omega) ?_))
    refine aq_ret1 (by exact .inr rfl) rfl (.tmp _ _ rfl) (fun _ => ?_)
    exact fin_ms (fun x => TClassInfo.fin _ _ _ x) List.mem_cons_self
end
end Go.Proofs.YtfchjaoeogolnaaGreatDoor
/- The depths of the stack as plain functions: what an instruction takes, where it goes on, one step of the program's way and of the reference's way, and that both are one. No program here. -/
namespace Go.Proofs.YtfchjaoeogolnaaGreatDoor
open Go Go.RowKit

/-- How many values an instruction takes and leaves. -/
def TInstr.eff (i : TInstr) : Int × Int :=
  if i.op = 9 ∨ i.op = 11 ∨ i.op = 18 then (1, 1)
  else if i.op = 13 then (nArgsL i.text.data.toList + 1, 1)
  else if i.op = 14 then (nArgsL i.text.data.toList, 1)
  else if i.op = 16 ∨ i.op = 19 ∨ i.op = 21 ∨ i.op = 22 then (1, 0)
  else if i.op = 17 then (1, 2)
  else if i.op = 24 ∨ i.op = 25 then (2, 2)
  else if i.op = 26 then (2, 1)
  else if i.op = 20 ∨ i.op = 23 then (0, 0)
  else (0, 1)
/-- The labels of an instruction. -/
def TInstr.labs (i : TInstr) : List Int :=
  if i.op = 20 then [i.a] else if i.op = 21 ∨ i.op = 22 then [i.a, i.b] else if i.op = 24 ∨ i.op = 25 ∨ i.op = 26 then [i.b] else []
/-- Where an instruction goes on, and with how many values. -/
def TInstr.nexts (i : TInstr) (at_ d : Int) : List (Int × Int) :=
  if i.op = 19 then []
  else if i.op = 20 then [(i.a, d - i.eff.1 + i.eff.2)]
  else if i.op = 21 ∨ i.op = 22 then [(at_ + 1, d - i.eff.1 + i.eff.2), (i.a, d - i.eff.1 + i.eff.2), (i.b, d - i.eff.1 + i.eff.2 + 1)]
  else if i.op = 24 ∨ i.op = 25 then [(at_ + 1, d - i.eff.1 + i.eff.2), (i.b, d - 1)]
  else if i.op = 26 then [(at_ + 1, d - i.eff.1 + i.eff.2), (i.b, d)]
  else [(at_ + 1, d - i.eff.1 + i.eff.2)]

theorem op_ways (k : Int) : k = 9 ∨ k = 11 ∨ k = 13 ∨ k = 14 ∨ k = 16 ∨ k = 17 ∨ k = 18 ∨ k = 19 ∨ k = 20 ∨ k = 21 ∨ k = 22 ∨ k = 23 ∨ k = 24 ∨ k = 25 ∨ k = 26 ∨ (¬ k = 9 ∧ ¬ k = 11 ∧ ¬ k = 13 ∧ ¬ k = 14 ∧ ¬ k = 16 ∧ ¬ k = 17 ∧ ¬ k = 18 ∧ ¬ k = 19 ∧ ¬ k = 20 ∧ ¬ k = 21 ∧ ¬ k = 22 ∧ ¬ k = 23 ∧ ¬ k = 24 ∧ ¬ k = 25 ∧ ¬ k = 26) := by omega

/-- A selector has at least no arguments. -/
theorem sel_args (l : List UInt8) : isSelL l = decide (0 ≤ nArgsL l) := by
  unfold isSelL nArgsL
  cases isOpL l
  · cases isNameL l
    · cases kwL l <;> simp
    · simp
  · simp
theorem nArgs_ge (l : List UInt8) : -1 ≤ nArgsL l := by
  unfold nArgsL
  split
  · omega
  · split
    · omega
    · split <;> omega
theorem kw_length {l : List UInt8} {ps : List (List UInt8)} (h : kwL l = some ps) : ps.length ≤ 4 := by
  unfold kwL at h
  split at h
  · split at h
    · rename_i h2
      simp only [Bool.and_eq_true, decide_eq_true_eq] at h2
      cases h; exact h2.2
    · cases h
  · cases h
theorem nArgs_le (l : List UInt8) : nArgsL l ≤ 4 := by
  unfold nArgsL
  split
  · omega
  · split
    · omega
    · split
      · rename_i ps h
        have := kw_length h
        omega
      · omega
theorem eff_range (i : TInstr) : -1 ≤ i.eff.1 ∧ i.eff.1 ≤ 5 ∧ 0 ≤ i.eff.2 ∧ i.eff.2 ≤ 2 := by
  have h1 := nArgs_ge i.text.data.toList
  have h2 := nArgs_le i.text.data.toList
  unfold TInstr.eff
  repeat' split
  all_goals (refine ⟨?_, ?_, ?_, ?_⟩ <;> simp <;> omega)

def gd (ds : List Int) (p : Int) : Int := ds.getD p.toNat 0
def opAt (is : List TInstr) (p : Int) : Int := ((is[p.toNat]?).map TInstr.op).getD 0

/-- What is asked of the instructions one by one, ahead of all steps. -/
def preOkI (n : Nat) (i : TInstr) : Bool := inR i.op 1 26 && (!(decide (i.op = 13) || decide (i.op = 14)) || decide (0 ≤ nArgsL i.text.data.toList)) && i.labs.all fun l => inR l 0 ((n : Int) - 1)
def preOk (is : List TInstr) : Bool := is.all (preOkI is.length)

abbrev Dst := List Int × List Nat
def badI (n : Nat) (ds : List Int) (p d : Int) : Bool := !inR p 0 ((n : Int) - 1) || decide (250 < d) || (decide (0 ≤ gd ds p) && !decide (gd ds p = d))
/-- The program's way to mark where an instruction goes on. -/
def pushI (n : Nat) : List (Int × Int) → Dst → Option Dst
  | [], s => some s
  | (p, d) :: r, (ds, q) => if badI n ds p d then none else if gd ds p < 0 then pushI n r (ds.set p.toNat d, q ++ [p.toNat]) else pushI n r (ds, q)
def backI (is : List TInstr) (at_ : Int) (op l : Int) : Bool := !decide (op = 26) && decide (l ≤ at_) && !decide (opAt is l = 23)
def stepI (is : List TInstr) (i : TInstr) (at_ : Nat) (ds : List Int) : Option Dst :=
  if gd ds at_ < i.eff.1 then none
  else if i.labs.any (backI is at_ i.op) then none
  else pushI is.length (i.nexts at_ (gd ds at_)) (ds, [])
def badS (is : List TInstr) (at_ : Int) (op p : Int) : Bool := decide ((is.length : Int) ≤ p) || backI is at_ op p
/-- The reference's way. -/
def pushS (is : List TInstr) (at_ op : Int) : List (Int × Int) → Dst → Option Dst
  | [], s => some s
  | (p, d) :: r, (ds, q) => if badS is at_ op p then none else if gd ds p = -1 then pushS is at_ op r (ds.set p.toNat d, q ++ [p.toNat]) else if gd ds p = d then pushS is at_ op r (ds, q) else none
def stepS (is : List TInstr) (i : TInstr) (at_ : Nat) (ds : List Int) : Option Dst :=
  if gd ds at_ - i.eff.1 < 0 ∨ 250 < gd ds at_ - i.eff.1 + i.eff.2 then none
  else pushS is at_ i.op (i.nexts at_ (gd ds at_)) (ds, [])

/-- The common way: only a mismatch ends it. -/
def pushM : List (Int × Int) → Dst → Option Dst
  | [], s => some s
  | (p, d) :: r, (ds, q) => if gd ds p < 0 then pushM r (ds.set p.toNat d, q ++ [p.toNat]) else if gd ds p = d then pushM r (ds, q) else none
def okP (n : Nat) (x : Int × Int) : Bool := inR x.1 0 ((n : Int) - 1) && decide (x.2 ≤ 250)
theorem pushI_eq (n : Nat) : ∀ (l : List (Int × Int)) (s : Dst), pushI n l s = if l.all (okP n) then pushM l s else none
  | [], s => by simp [pushI, pushM]
  | (p, d) :: r, (ds, q) => by
    have ih := pushI_eq n r
    by_cases hr : inR p 0 ((n : Int) - 1) = true
    · by_cases hd : d ≤ 250
      · have hd' : ¬ 250 < d := by omega
        by_cases hg : gd ds p < 0
        · have hg' : ¬ 0 ≤ gd ds p := by omega
          simp only [pushI, badI, pushM, okP, List.all_cons, hr, hd, hd', hg, hg', ih, decide_true, decide_false, Bool.not_true, Bool.or_false, Bool.false_and, Bool.true_and, if_true, Bool.false_eq_true, if_false]
        · have hg' : 0 ≤ gd ds p := by omega
          by_cases he : gd ds p = d
          · have h1 : ¬ d < 0 := he ▸ hg
            have h2 : 0 ≤ d := he ▸ hg'
            simp only [pushI, badI, pushM, okP, List.all_cons, hr, hd, hd', he, h1, h2, ih, decide_true, decide_false, Bool.not_true, Bool.or_false, Bool.true_and, if_true, Bool.false_eq_true, if_false]
          · simp [pushI, badI, pushM, okP, hr, hd, hd', hg, hg', he]
            exact (ite_self _).symm
      · have hd' : 250 < d := by omega
        simp [pushI, badI, okP, hr, hd, hd']
    · simp [pushI, badI, okP, hr]

/-- All depths lie from -1 to 250. -/
def InvD (ds : List Int) : Prop := ∀ x ∈ ds, -1 ≤ x ∧ x ≤ 250
theorem InvD.gd {ds : List Int} (h : InvD ds) (p : Int) : -1 ≤ gd ds p ∧ gd ds p ≤ 250 := by
  unfold Proofs.YtfchjaoeogolnaaGreatDoor.gd
  rw [List.getD_eq_getElem?_getD]
  cases hp : ds[p.toNat]? with
  | none => simp
  | some x => exact h x (List.mem_of_getElem? hp)
theorem InvD.set {ds : List Int} (h : InvD ds) {d : Int} (h0 : -1 ≤ d) (h1 : d ≤ 250) (p : Nat) : InvD (ds.set p d) := fun x hx => by
  rcases List.mem_or_eq_of_mem_set hx with hx | rfl
  · exact h x hx
  · exact ⟨h0, h1⟩
theorem pushS_eq (is : List TInstr) (at_ op : Int) : ∀ (l : List (Int × Int)) (s : Dst), InvD s.1 → (∀ x ∈ l, 0 ≤ x.2 ∧ x.2 ≤ 250) → pushS is at_ op l s = if l.all (fun x => !badS is at_ op x.1) then pushM l s else none
  | [], s, _, _ => by simp [pushS, pushM]
  | (p, d) :: r, (ds, q), hI, hl => by
    have ih := pushS_eq is at_ op r
    have hd := hl (p, d) (by simp)
    have hl' : ∀ x ∈ r, 0 ≤ x.2 ∧ x.2 ≤ 250 := fun x hx => hl x (by simp [hx])
    have hg := hI.gd p
    by_cases hb : badS is at_ op p = true
    · simp [pushS, hb]
    · by_cases h1 : gd ds p = -1
      · have h2 : gd ds p < 0 := by omega
        have := ih (ds.set p.toNat d, q ++ [p.toNat]) (hI.set (by omega) hd.2 _) hl'
        simp only [pushS, pushM, List.all_cons, hb, h1, if_true, Bool.false_eq_true, if_false, Bool.not_false, Bool.true_and, this, show ((-1 : Int) < 0) from by omega]
      · have h2 : ¬ gd ds p < 0 := by simp only at hg; omega
        by_cases he : gd ds p = d
        · have h3 : ¬ d < 0 := he ▸ h2
          have h4 : ¬ d = -1 := he ▸ h1
          have := ih (ds, q) hI hl'
          simp only [pushS, pushM, List.all_cons, hb, he, h3, h4, if_true, Bool.false_eq_true, if_false, Bool.not_false, Bool.true_and, this]
        · simp [pushS, pushM, hb, h1, h2, he]
          exact (ite_self _).symm

theorem nexts_le (i : TInstr) (at_ : Nat) (g : Int) (h0 : 0 ≤ g) (h1 : g ≤ 250) (h : 250 < g - i.eff.1 + i.eff.2) (hl : ∀ l : Int, True) : ∃ x ∈ i.nexts at_ g, 250 < x.2 := by
  rcases op_ways i.op with h' | h' | h' | h' | h' | h' | h' | h' | h' | h' | h' | h' | h' | h' | h' | h'
  all_goals first
    | (refine ⟨((at_ : Int) + 1, g - i.eff.1 + i.eff.2), ?_, h⟩; simp [TInstr.nexts, h']; done)
    | (refine ⟨(i.a, g - i.eff.1 + i.eff.2), ?_, h⟩; simp [TInstr.nexts, h']; done)
    | (exfalso; simp [TInstr.eff, h'] at h; omega)
theorem nexts_range (i : TInstr) (at_ : Nat) (g : Int) (h0 : 0 ≤ g) (h1 : g ≤ 250) (ht : ¬ g < i.eff.1) (h : ¬ 250 < g - i.eff.1 + i.eff.2) (hsel : i.op = 14 → 0 ≤ i.eff.1) : ∀ x ∈ i.nexts at_ g, 0 ≤ x.2 ∧ x.2 ≤ 250 := by
  have he := eff_range i
  intro x hx
  rcases op_ways i.op with h' | h' | h' | h' | h' | h' | h' | h' | h' | h' | h' | h' | h' | h' | h' | h'
  all_goals first
      | (simp [TInstr.nexts, h'] at hx; done)
      | skip
  all_goals
    simp [TInstr.nexts, h'] at hx
    try simp [TInstr.eff, h'] at ht h he hsel hx
    first
      | (subst hx; simp; omega)
      | (rcases hx with rfl | rfl <;> simp <;> omega)
      | (rcases hx with rfl | rfl | rfl <;> simp <;> omega)
theorem inR_cut (n : Nat) (l : Int) : inR l 0 ((n : Int) - 1) = (decide (0 ≤ l) && !decide ((n : Int) ≤ l)) := by
  simp only [inR]; rw [Bool.eq_iff_iff]; simp; omega
theorem nexts_key (is : List TInstr) (i : TInstr) (at_ : Nat) (g : Int) (h0 : 0 ≤ g) (h1 : g ≤ 250) (ht : ¬ g < i.eff.1) (h : ¬ 250 < g - i.eff.1 + i.eff.2) (hlab : (i.labs.all fun l => inR l 0 ((is.length : Int) - 1)) = true) :
    (!i.labs.any (backI is at_ i.op) && (i.nexts at_ g).all (okP is.length)) = (i.nexts at_ g).all (fun x => !badS is at_ i.op x.1) := by
  have hb1 : ∀ op, backI is at_ op ((at_ : Int) + 1) = false := fun op => by
    simp only [backI]
    rw [show decide ((at_ : Int) + 1 ≤ at_) = false from decide_eq_false (by omega)]; simp
  have hin1 : inR ((at_ : Int) + 1) 0 ((is.length : Int) - 1) = !decide ((is.length : Int) ≤ (at_ : Int) + 1) := by
    rw [inR_cut, show decide (0 ≤ (at_ : Int) + 1) = true from decide_eq_true (by omega)]; rfl
  have hl2 : ∀ l ∈ i.labs, inR l 0 ((is.length : Int) - 1) = true ∧ decide ((is.length : Int) ≤ l) = false := fun l hl => by
    have := List.all_eq_true.1 hlab l hl
    refine ⟨this, ?_⟩
    simp only [inR, decide_eq_true_eq] at this
    exact decide_eq_false (by omega)
  rcases op_ways i.op with h' | h' | h' | h' | h' | h' | h' | h' | h' | h' | h' | h' | h' | h' | h' | h'
  all_goals
    simp only [TInstr.labs, TInstr.eff, h'] at hl2 ht h
    simp [TInstr.nexts, TInstr.labs, TInstr.eff, h', okP, badS, hb1, hin1]
    try simp at hl2 ht h
  all_goals first
    | (intros; omega)
    | grind

theorem step_eq (is : List TInstr) (i : TInstr) (at_ : Nat) (ds : List Int) (hI : InvD ds) (hp : preOkI is.length i = true) (hg : 0 ≤ gd ds at_) : stepI is i at_ ds = stepS is i at_ ds := by
  have hr := hI.gd at_
  unfold stepI stepS
  by_cases ht : gd ds at_ < i.eff.1
  · rw [if_pos ht, if_pos (by omega)]
  rw [if_neg ht]
  simp only [preOkI, Bool.and_eq_true] at hp
  obtain ⟨⟨hop, hsel⟩, hlab⟩ := hp
  have hsel' : i.op = 14 → 0 ≤ i.eff.1 := fun h => by
    simp [h] at hsel
    simp [TInstr.eff, h]; exact hsel
  rw [pushI_eq]
  by_cases h250 : 250 < gd ds at_ - i.eff.1 + i.eff.2
  · rw [if_pos (Or.inr h250)]
    obtain ⟨x, hx, hx2⟩ := nexts_le i at_ _ hg hr.2 h250 fun _ => trivial
    have hno : (i.nexts at_ (gd ds at_)).all (okP is.length) = false := by
      rw [List.all_eq_false]
      exact ⟨x, hx, by simp [okP]; intro _; omega⟩
    rw [hno]; simp
  · rw [if_neg (c := gd ds at_ - i.eff.1 < 0 ∨ 250 < gd ds at_ - i.eff.1 + i.eff.2) (by omega), pushS_eq _ _ _ _ _ hI (nexts_range i at_ _ hg hr.2 ht h250 hsel')]
    have key := nexts_key is i at_ _ hg hr.2 ht h250 hlab
    by_cases hA : i.labs.any (backI is at_ i.op) = true
    · rw [hA] at key
      rw [if_pos hA, ← key]; rfl
    · rw [if_neg hA]
      rw [Bool.not_eq_true] at hA
      rw [hA] at key
      rw [← key]; rfl

end Go.Proofs.YtfchjaoeogolnaaGreatDoor
/- The whole way of the depths as a plain function: the program's steps and the reference's, one behind the other, and that both come to one result. No program here. -/
namespace Go.Proofs.YtfchjaoeogolnaaGreatDoor
open Go Go.RowKit

/-- What holds between two steps: the depths known so far, what is still to do, and how many steps at most are still to come. -/
structure DSt (n : Nat) (ds : List Int) (q : List Nat) (k : Nat) : Prop where
  len : ds.length = n
  inv : InvD ds
  ok : ∀ p ∈ q, p < n ∧ 0 ≤ gd ds p
  mu : q.length + ds.countP (· < 0) ≤ k
theorem gd_set {ds : List Int} {p : Int} (hp : p.toNat < ds.length) (d : Int) (x : Nat) : gd (ds.set p.toNat d) (x : Int) = if p.toNat = x then d else gd ds x := by
  unfold gd
  simp only [Int.toNat_natCast, List.getD_eq_getElem?_getD, List.getElem?_set]
  split
  · rename_i h; subst h; simp [hp]
  · rfl
theorem gd_get {ds : List Int} {p : Nat} (hp : p < ds.length) : gd ds (p : Int) = ds[p] := by
  unfold gd; simp [hp]
theorem DSt.push {n : Nat} {ds : List Int} {q : List Nat} {k : Nat} (h : DSt n ds q k) {p d : Int} (hp : inR p 0 ((n : Int) - 1) = true) (h0 : 0 ≤ d) (h1 : d ≤ 250) (hg : gd ds p < 0) : DSt n (ds.set p.toNat d) (q ++ [p.toNat]) k := by
  simp only [inR, decide_eq_true_eq] at hp
  have hl := h.len
  have hpl : p.toNat < ds.length := by omega
  refine ⟨by simp [hl], h.inv.set (by omega) h1 _, fun x hx => ?_, ?_⟩
  · rw [gd_set hpl]
    rcases List.mem_append.1 hx with hx | hx
    · refine ⟨(h.ok x hx).1, ?_⟩
      split
      · exact h0
      · exact (h.ok x hx).2
    · simp at hx; subst hx
      exact ⟨by omega, by rw [if_pos rfl]; exact h0⟩
  · have hn : ds[p.toNat] < 0 := by
      have := gd_get hpl
      have hpp : ((p.toNat : Nat) : Int) = p := by omega
      rw [hpp] at this; omega
    have hc := List.countP_set (p := fun x : Int => decide (x < 0)) (l := ds) (a := d) hpl
    have hpos : 0 < ds.countP (fun x : Int => decide (x < 0)) := List.countP_pos_iff.2 ⟨_, List.getElem_mem hpl, by simpa using hn⟩
    have hm := h.mu
    simp only [hn, decide_true, if_true, show decide (d < 0) = false from decide_eq_false (by omega), Bool.false_eq_true, if_false] at hc
    rw [List.length_append, List.length_singleton, hc]
    omega
theorem DSt.pop {n : Nat} {ds : List Int} {p : Nat} {q : List Nat} {k : Nat} (h : DSt n ds (p :: q) k) : ∃ j, k = j + 1 ∧ DSt n ds q j ∧ p < n ∧ 0 ≤ gd ds p := by
  have hm := h.mu
  rw [List.length_cons] at hm
  exact ⟨k - 1, by omega, ⟨h.len, h.inv, fun x hx => h.ok x (by simp [hx]), by omega⟩, h.ok p (by simp)⟩

/-- The way from a state on, of at most so many steps. -/
def flow (is : List TInstr) (step : TInstr → Nat → List Int → Option Dst) : Nat → List Int → List Nat → Option (List Int)
  | _, ds, [] => some ds
  | 0, _, _ :: _ => none
  | f + 1, ds, p :: q => match is[p]? with
    | none => none
    | some i => match step i p ds with
      | none => none
      | some (ds', new) => flow is step f ds' (q ++ new)
theorem flow_cons (is : List TInstr) (step : TInstr → Nat → List Int → Option Dst) (f : Nat) (ds : List Int) {p : Nat} (q : List Nat) (hp : p < is.length) : flow is step (f + 1) ds (p :: q) = match step is[p] p ds with
      | none => none
      | some (ds', new) => flow is step f ds' (q ++ new) := by
  simp only [flow, List.getElem?_eq_getElem hp]

theorem nexts_nonneg (i : TInstr) (at_ : Nat) (g : Int) (h0 : 0 ≤ g) (ht : ¬ g < i.eff.1) (hsel : i.op = 14 → 0 ≤ i.eff.1) : ∀ x ∈ i.nexts at_ g, 0 ≤ x.2 := by
  have he := eff_range i
  intro x hx
  rcases op_ways i.op with h' | h' | h' | h' | h' | h' | h' | h' | h' | h' | h' | h' | h' | h' | h' | h'
  all_goals first
      | (simp [TInstr.nexts, h'] at hx; done)
      | skip
  all_goals
    simp [TInstr.nexts, h'] at hx
    try simp [TInstr.eff, h'] at ht he hsel hx
    first
      | (subst hx; simp; omega)
      | (rcases hx with rfl | rfl <;> simp <;> omega)
      | (rcases hx with rfl | rfl | rfl <;> simp <;> omega)

/-- What a push leaves of a state. -/
theorem pushI_st {n k : Nat} : ∀ (l : List (Int × Int)) (ds : List Int) (q0 new : List Nat) (s : Dst), (∀ x ∈ l, 0 ≤ x.2) → DSt n ds (q0 ++ new) k → pushI n l (ds, new) = some s → DSt n s.1 (q0 ++ s.2) k
  | [], ds, q0, new, s, _, h, e => by simp only [pushI, Option.some.injEq] at e; subst e; exact h
  | (p, d) :: r, ds, q0, new, s, hl, h, e => by
    have h0 := hl (p, d) (by simp)
    have hr : ∀ x ∈ r, 0 ≤ x.2 := fun x hx => hl x (by simp [hx])
    simp only [pushI] at e
    by_cases hb : badI n ds p d = true
    · rw [if_pos hb] at e; cases e
    · rw [if_neg hb] at e
      simp only [badI, Bool.or_eq_true, not_or, Bool.not_eq_true, Bool.not_eq_false', decide_eq_false_iff_not] at hb
      by_cases hg : gd ds p < 0
      · rw [if_pos hg] at e
        exact pushI_st r _ q0 _ s hr (by rw [← List.append_assoc]; exact h.push hb.1.1 h0 (by omega) hg) e
      · rw [if_neg hg] at e
        exact pushI_st r _ q0 _ s hr h e

theorem flow_eq (is : List TInstr) (hp : preOk is = true) : ∀ (f : Nat) (ds : List Int) (q : List Nat), DSt is.length ds q f → flow is (stepI is) f ds q = flow is (stepS is) f ds q
  | _, _, [], _ => by simp [flow]
  | 0, _, _ :: _, _ => by simp [flow]
  | f + 1, ds, p :: q, h => by
    obtain ⟨j, hj, hst, hpl, hg⟩ := h.pop
    obtain rfl : f = j := by omega
    rw [flow_cons _ _ _ _ _ hpl, flow_cons _ _ _ _ _ hpl]
    have hpi : preOkI is.length is[p] = true := List.all_eq_true.1 hp _ (List.getElem_mem _)
    have hse := step_eq is is[p] p ds h.inv hpi hg
    rw [← hse]
    cases hs : stepI is is[p] p ds with
    | none => rfl
    | some s =>
      have hsel : is[p].op = 14 → 0 ≤ is[p].eff.1 := fun h14 => by
        simp only [preOkI, Bool.and_eq_true] at hpi
        have := hpi.1.2
        simp [h14] at this
        simp [TInstr.eff, h14]; exact this
      unfold stepI at hs
      by_cases ht : gd ds p < is[p].eff.1
      · rw [if_pos ht] at hs; cases hs
      · rw [if_neg ht] at hs
        by_cases hA : (is[p].labs.any (backI is p is[p].op)) = true
        · rw [if_pos hA] at hs; cases hs
        · rw [if_neg hA] at hs
          have hst' := pushI_st _ ds q [] s (nexts_nonneg _ p _ hg ht hsel) (by rw [List.append_nil]; exact hst) hs
          exact flow_eq is hp f s.1 (q ++ s.2) hst'

/-- The depths of the stack before each instruction, where the code is right. -/
def depthsL (is : List TInstr) : Option (List Int) :=
  if is.length = 0 then none else if preOk is then flow is (stepI is) is.length (0 :: List.replicate (is.length - 1) (-1)) [0] else none
theorem start_st {n : Nat} (hn : 1 ≤ n) : DSt n (0 :: List.replicate (n - 1) (-1)) [0] n := by
  refine ⟨by simp; omega, fun x hx => ?_, fun p hp => ?_, ?_⟩
  · rcases List.mem_cons.1 hx with rfl | hx
    · omega
    · rw [List.eq_of_mem_replicate hx]; omega
  · simp at hp; subst hp; exact ⟨by omega, by simp [gd]⟩
  · simp [List.countP_replicate]; omega
end Go.Proofs.YtfchjaoeogolnaaGreatDoor
/- StackDepths by the engine: what an instruction takes and leaves. -/
namespace Go.Proofs.YtfchjaoeogolnaaGreatDoor
open Go Go.RowKit
theorem ct_str_int {P : Program} {G : World → Prop} {f : FuncId} {s : ByteArray} {n : Int} (h : ∀ w, G w → Calls P f #[.string s] w fun e w' => e = .returned (.int .i64 n) ∧ Below w.heap.size w w') : Ct P G f [.str s] (fun _ => .int .i64 n) := fun w vs _ hG hs hr => by
  obtain ⟨v, rfl, h1⟩ := reps1 hs hr
  rw [h1.str_inv]
  refine (h w hG).mono ?_
  rintro e w' ⟨rfl, hb⟩
  exact ⟨_, rfl, hb, fun _ _ => .int _ _⟩
def TInstr.tv (x : TInstr) : List TV := [.int .i64 x.op, .int .i64 x.a, .int .i64 x.b, .str x.text]
set_option maxRecDepth 4000 in
set_option maxHeartbeats 2000000 in
theorem l16Effect_ct {G : World → Prop} (hst : Stable G) (hca : ∀ s : ByteArray, s.size ≤ 1048576 → Ct Tryz.prog G 109 [.str s] (fun _ => .int .i64 (nArgsL s.data.toList))) (op a b : Int) (t : ByteArray) (hs : t.size ≤ 1048576) (hop : inR op 1 26 = true) : Ct Tryz.prog G 124 [.agg [.int .i64 op, .int .i64 a, .int .i64 b, .str t]] (fun _ => .tup [.int .i64 (TInstr.eff ⟨op, a, b, t⟩).1, .int .i64 (TInstr.eff ⟨op, a, b, t⟩).2]) := by
  refine ct_enter Tryz.func124 rfl Tryz.ntmps124 rfl rfl fun w0 _ hG => ?_
  have h1 := nArgs_ge t.data.toList
  have h2 := nArgs_le t.data.toList
  simp only [inR, decide_eq_true_eq] at hop
  repeat' (first | with_reducible refine al_none rfl ?_ | ((with_reducible apply o_assign); rfl; rfl) | ((with_reducible apply o_load_cp); rfl; rfl; kernel_rfl; rfl; rfl) | ((with_reducible apply o_fieldAddr); rfl; rfl; kernel_rfl; rfl) | ((with_reducible apply o_eql); rfl; rfl; rfl) | ((with_reducible apply o_add); rfl; rfl; rfl; (((with_reducible refine IntWalk.i64_in _ ?_); omega))) | ((with_reducible apply o_box); rfl; rfl; rfl) | ((with_reducible apply o_call); rfl; kernel_rfl; (repeat (first | exact Args.nil | ((with_reducible apply Args.cons); rfl; exact .same _))); exact hG; exact hst; exact hca _ hs) | with_reducible refine aw_seq ?_ | with_reducible refine aw_region ?_ | with_reducible refine al_nil ?_ | with_reducible refine aq_then ?_ | with_reducible refine aw_block ?_ | with_reducible refine aw_skip ?_ | with_reducible refine aw_ret ?_ | with_reducible refine aq_then_ret ?_ | with_reducible refine aq_block_ret ?_ | with_reducible refine aq_block ?_ | (refine aw_cond_dt rfl (by with_reducible rfl) (by assumption) ?_) | (refine aw_cond rfl (by with_reducible rfl) (fun hc => ?_) (fun hc => ?_)))
  all_goals
    clear hst
    have he : TInstr.eff ⟨op, a, b, t⟩ = TInstr.eff ⟨op, a, b, t⟩ := rfl
    conv at he => rhs; unfold TInstr.eff
    dsimp only at he
    rw [he]
    refine aq_ret2 (by exact .inr rfl) rfl (.tmp _ _ rfl) (.tmp _ _ rfl) (fun _ => ?_) (fun _ => ?_)
    all_goals
      refine fin_int ?_
      first
        | (subst hc; simp; done)
        | (have h3 : op = 20 ∨ op = 23 := by omega
           rcases h3 with rfl | rfl <;> simp; done)
end Go.Proofs.YtfchjaoeogolnaaGreatDoor
/- The contracts of the laws' own helpers on []int: copy, compare, mark, look at the marks. -/
namespace Go.Proofs.YtfchjaoeogolnaaGreatDoor
open Go Go.RowKit

theorem Tryz.infoInt : (Tryz.prog.info? 3).map (fun i => (i.zero, i.size, i.bytes)) = some (some (.int .i64 0), 1, 8) := by kernel_rfl

def ints (zs : List Int) : List PT := zs.map (PT.int .i64)
/-- The marks k, k + 1, .., n of them. -/
def marks (k n : Nat) : List Int := (List.range n).map fun i => ((k + i : Nat) : Int)
end Go.Proofs.YtfchjaoeogolnaaGreatDoor
/- What the reference's way of the depths keeps of memory: plain lemmas, no walk. -/
namespace Go.Proofs.YtfchjaoeogolnaaGreatDoor
open Go Go.RowKit

/-- The depths' block. -/
def dArr (ds : List Int) : Array Value := (ds.map (Value.int .i64)).toArray
theorem dArr_set (ds : List Int) (p : Nat) (d : Int) : (dArr ds).setIfInBounds p (.int .i64 d) = dArr (ds.set p d) := by
  unfold dArr
  rw [List.setIfInBounds_toArray, List.map_set]
def nts (q : List Nat) : List Int := q.map Int.ofNat
theorem nts_append (a b : List Nat) : nts (a ++ b) = nts a ++ nts b := by simp [nts]
/-- A filled block is known whole. -/
theorem Fill.blk {w : World} {g : Nat} {e : TypeId} {xs : List Value} (h : Fill w g e xs.length xs) : Blk w g e xs.toArray := by
  obtain ⟨cur, h1, h2, _, h4⟩ := h
  have : cur = xs.toArray := by
    rw [List.take_of_length_le (by simp [h2])] at h4
    rw [← h4]
  rw [← this]; exact h1
def instrC (x : TInstr) : Array Value := #[.int .i64 x.op, .int .i64 x.a, .int .i64 x.b, .string x.text]
/-- The world between two rounds of the inner loop. -/
structure DepIn (w wi : World) (g B B2 gb : Nat) (x : TInstr) (L : List (Int × Int)) (A13 : Option Addr) (c13 : Nat) (A14 : Option Addr) (c14 : Nat) (r14 : List Int) (ds : List Int) (tl : List Nat) (A : Option Addr) (c : Nat) : Prop where
  own : Owned wi (fun b => g < b ∧ (b < B ∨ B2 ≤ b)) (.sl A c 1 (ints (nts tl)))
  dep : Blk wi g 3 (dArr ds)
  s13 : Seen wi (Rng B B2) (.sl A13 c13 1 (ints (L.map Prod.fst)))
  s14 : Seen wi (Rng B B2) (.sl A14 c14 1 (ints (L.map Prod.snd ++ r14)))
  box : Blk wi gb 97 (instrC x)
  old : Below w.heap.size w wi
  sz : B2 ≤ wi.heap.size
  hg : g < B
  hg0 : w.heap.size ≤ g
  hB : B ≤ B2
  hgb : B ≤ gb
  hgb2 : gb < B2
section
variable {w wi : World} {g B B2 gb : Nat} {x : TInstr} {L : List (Int × Int)} {A13 : Option Addr} {c13 : Nat} {A14 : Option Addr} {c14 : Nat} {r14 : List Int} {ds : List Int} {tl : List Nat} {A : Option Addr} {c : Nat}
theorem DepIn.set (h : DepIn w wi g B B2 gb x L A13 c13 A14 c14 r14 ds tl A c) (p : Nat) (d : Int) : DepIn w (wi.setCell ⟨g, p, none⟩ (.int .i64 d)) g B B2 gb x L A13 c13 A14 c14 r14 (ds.set p d) tl A c :=
  ⟨h.own.far (p := ⟨g, p, none⟩) (fun hh => by have := hh.1; simp at this) _, by rw [← dArr_set]; exact h.dep.set_ p _,
   h.s13.keep (fun b hb => Below.heap_setCell _ _ _ _ (by have := hb.1; have := h.hg; simp only; omega)) (fun _ hb _ => hb),
   h.s14.keep (fun b hb => Below.heap_setCell _ _ _ _ (by have := hb.1; have := h.hg; simp only; omega)) (fun _ hb _ => hb),
   h.box.far (p := ⟨g, p, none⟩) (by have := h.hg; have := h.hgb; simp only; omega) _, h.old.setCell h.hg0 _, by have := h.sz; simpa [World.setCell] using this, h.hg, h.hg0, h.hB, h.hgb, h.hgb2⟩
theorem DepIn.drewN (h : DepIn w wi g B B2 gb x L A13 c13 A14 c14 r14 ds tl A c) (n : Nat) : DepIn w (wi.drewN n) g B B2 gb x L A13 c13 A14 c14 r14 ds tl A c :=
  ⟨h.own.keep fun _ _ _ => rfl, h.dep, h.s13.keep (fun _ _ => rfl) fun _ hb _ => hb, h.s14.keep (fun _ _ => rfl) fun _ hb _ => hb, h.box, below_drewN h.old n, h.sz, h.hg, h.hg0, h.hB, h.hgb, h.hgb2⟩
theorem DepIn.push (h : DepIn w wi g B B2 gb x L A13 c13 A14 c14 r14 ds tl A c) {w2 : World} {A' : Option Addr} {c' p : Nat} (ho : Owned w2 (fun b => g < b ∧ (b < B ∨ B2 ≤ b)) (.sl A' c' 1 (ints (nts tl ++ [(p : Int)])))) (ht : Touch (· ∈ PT.rowOf A) wi w2) : DepIn w w2 g B B2 gb x L A13 c13 A14 c14 r14 ds (tl ++ [p]) A' c' := by
  have hA : ∀ b, b ∈ PT.rowOf A → g < b ∧ (b < B ∨ B2 ≤ b) := fun b hb => h.own.2.2 b (by simp [PT.blocks, hb])
  refine ⟨by rw [nts_append]; exact ho, h.dep.touch ht fun hb => by have := (hA g hb).1; omega, h.s13.touch ht fun b hb _ hm => ?_, h.s14.touch ht fun b hb _ hm => ?_, h.box.touch ht fun hb => ?_, h.old.trans (ht.below h.old.size fun b hb => by have := (hA b hb).1; have := h.hg0; omega), Nat.le_trans h.sz ht.size, h.hg, h.hg0, h.hB, h.hgb, h.hgb2⟩
  · have h1 := hA b hm; have h2 := hb.1; have h3 := hb.2; omega
  · have h1 := hA b hm; have h2 := hb.1; have h3 := hb.2; omega
  · have h1 := hA gb hb; have h2 := h.hgb; have h3 := h.hgb2; omega
end

/-- The world between two rounds of the outer loop. -/
structure DepOut (w wx : World) (g : Nat) (ds : List Int) (tl : List Nat) (A : Option Addr) (c : Nat) : Prop where
  own : Owned wx (g < ·) (.sl A c 1 (ints (nts tl)))
  dep : Blk wx g 3 (dArr ds)
  old : Below w.heap.size w wx
  hg0 : w.heap.size ≤ g
theorem DepOut.below {w wx w' : World} {g : Nat} {ds : List Int} {tl : List Nat} {A : Option Addr} {c : Nat} (h : DepOut w wx g ds tl A c) (hb : Below wx.heap.size wx w') : DepOut w w' g ds tl A c :=
  ⟨h.own.below hb, h.dep.below hb h.dep.lt, h.old.trans (hb.mono h.old.size), h.hg0⟩
theorem DepIn.out {w wi : World} {g B B2 gb : Nat} {x : TInstr} {L : List (Int × Int)} {A13 : Option Addr} {c13 : Nat} {A14 : Option Addr} {c14 : Nat} {r14 : List Int} {ds : List Int} {tl : List Nat} {A : Option Addr} {c : Nat} (h : DepIn w wi g B B2 gb x L A13 c13 A14 c14 r14 ds tl A c) : DepOut w wi g ds tl A c :=
  ⟨h.own.mono fun b hb _ => hb.1, h.dep, h.old, h.hg0⟩
theorem stepS_st {is : List TInstr} {i : TInstr} {at_ : Nat} {ds ds' : List Int} {new q : List Nat} {k : Nat} (hpi : preOkI is.length i = true) (hD : DSt is.length ds q k) (hg : 0 ≤ gd ds at_) (h : stepS is i at_ ds = some (ds', new)) : DSt is.length ds' (q ++ new) k := by
  rw [← step_eq is i at_ ds hD.inv hpi hg] at h
  have hsel : i.op = 14 → 0 ≤ i.eff.1 := fun h14 => by
    simp only [preOkI, Bool.and_eq_true] at hpi
    have := hpi.1.2
    simp [h14] at this
    simp [TInstr.eff, h14]; exact this
  unfold stepI at h
  by_cases ht : gd ds at_ < i.eff.1
  · rw [if_pos ht] at h; cases h
  · rw [if_neg ht] at h
    by_cases hA : (i.labs.any (backI is at_ i.op)) = true
    · rw [if_pos hA] at h; cases h
    · rw [if_neg hA] at h
      exact pushI_st _ ds q [] _ (nexts_nonneg _ at_ _ hg ht hsel) (by rw [List.append_nil]; exact hD) h

theorem pushS_cons (is : List TInstr) (at_ op p d : Int) (r : List (Int × Int)) (ds : List Int) (q : List Nat) : pushS is at_ op ((p, d) :: r) (ds, q) = if badS is at_ op p then none else if gd ds p = -1 then pushS is at_ op r (ds.set p.toNat d, q ++ [p.toNat]) else if gd ds p = d then pushS is at_ op r (ds, q) else none := rfl

/-- What the reference finds. -/
def depthsS (is : List TInstr) : Option (List Int) := if is.length = 0 then none else flow is (stepS is) is.length (0 :: List.replicate (is.length - 1) (-1)) [0]
theorem depthsL_eq (is : List TInstr) (hp : preOk is = true) : depthsL is = depthsS is := by
  unfold depthsL depthsS
  rw [if_pos hp]
  split
  · rfl
  · rename_i h
    exact flow_eq is hp _ _ _ (start_st (by omega))
/-- Where an instruction goes on is no negative place, where its labels are right. -/
theorem nexts_fst {n : Nat} (i : TInstr) (at_ : Nat) (d : Int) (h : preOkI n i = true) : ∀ x ∈ i.nexts at_ d, 0 ≤ x.1 := by
  simp only [preOkI, Bool.and_eq_true] at h
  have hl := h.2
  simp only [List.all_eq_true, inR, decide_eq_true_eq] at hl
  intro x hx
  rcases op_ways i.op with h' | h' | h' | h' | h' | h' | h' | h' | h' | h' | h' | h' | h' | h' | h' | h'
  all_goals
    simp only [TInstr.labs, h'] at hl
    simp [TInstr.nexts, h'] at hx
    try simp at hl
    try first
      | (subst hx; simp; omega)
      | (rcases hx with rfl | rfl <;> simp <;> omega)
      | (rcases hx with rfl | rfl | rfl <;> simp <;> omega)
theorem nexts_len (i : TInstr) (a d : Int) : (i.nexts a d).length ≤ 3 := by
  unfold TInstr.nexts
  repeat' split
  all_goals simp
end Go.Proofs.YtfchjaoeogolnaaGreatDoor
/- StackDepths by the engine: the reference's l16Depths. -/
namespace Go.Proofs.YtfchjaoeogolnaaGreatDoor
open Go Go.RowKit
def instrR (is : List TInstr) : List (List TV) := is.map TInstr.tv
theorem instrR_length (is : List TInstr) : (instrR is).length = is.length := by simp [instrR]
def fillD (n i : Nat) : List Int := List.replicate i (-1) ++ List.replicate (n - i) 0
theorem fillD_step {n i : Nat} (h : i < n) : (intR (fillD n i))[i]? = some [.int .i64 0] ∧ (intR (fillD n i)).set i [.int .i64 (-1)] = intR (fillD n (i + 1)) := by
  have e : n - i = (n - (i + 1)) + 1 := by omega
  refine ⟨?_, ?_⟩
  · simp only [intR, fillD, List.getElem?_map]
    rw [List.getElem?_append_right (by simp), e, List.replicate_succ]; simp
  · simp only [intR, fillD]
    rw [e, List.replicate_succ, ← List.map_set]
    congr 1
    rw [List.set_append_right _ _ (by simp)]
    simp [List.replicate_succ', List.append_assoc]
def dO (r : Option (List Int)) (y : Nat × Nat) : Objs := [(y.1, y.2, .row 1 (intR (r.getD [])))]
def dR (r : Option (List Int)) (y : Nat × Nat) : TV := .tup [.ms y.1 y.2 0 (r.getD []).length, .bool r.isSome]
set_option maxRecDepth 4000 in
set_option maxHeartbeats 4000000 in
theorem l16Depths_ct {G : World → Prop} (hst : Stable G) (hca : ∀ s : ByteArray, s.size ≤ 1048576 → Ct Tryz.prog G 109 [.str s] (fun _ => .int .i64 (nArgsL s.data.toList))) (lo l2 : Nat) (bl : Bool) (pr sl : Int) (is : List TInstr) (hn : is.length ≤ 1048576) (ht : ∀ i ∈ is, i.text.size ≤ 1048576) (hp : preOk is = true) :
    CtM Tryz.prog G 89 [.cp lo [.bool bl, .int .i64 pr, .int .i64 sl, .sl l2 4 (instrR is)]] [] (fun _ : Nat × Nat => True) (dO (depthsS is)) (dR (depthsS is)) := by
  refine ctm_enter Tryz.func89 rfl Tryz.ntmps89 rfl rfl rfl fun w0 R gs objsR hG hR => ?_
  obtain rfl := hR.inv0
  have hlen := instrR_length is
  repeat' (first | with_reducible refine al_none rfl ?_ | ((with_reducible first | apply o_move | apply o_assign | apply o_nilCheck_cp); rfl; rfl) | ((with_reducible apply o_load_cp); rfl; rfl; kernel_rfl; rfl; rfl) | ((with_reducible apply o_fieldAddr); rfl; rfl; kernel_rfl; rfl) | ((with_reducible apply o_len_sl); rfl; rfl; kernel_rfl; (exact List.length_map _)) | ((with_reducible apply o_make); rfl; rfl; rfl; ((with_reducible exact rfl)); kernel_rfl; kernel_rfl; rfl; rfl; kernel_rfl; omega; intro ss bb) | with_reducible refine aw_seq ?_ | with_reducible refine aw_region ?_ | with_reducible refine al_nil ?_ | with_reducible refine aq_then ?_ | with_reducible refine aw_block ?_)
  have h0 : (List.replicate is.length [TV.int .i64 0]) = intR (fillD is.length 0) := by simp [fillD, intR]
  apply aw_loopk (X := Nat) [0, 4, 1000000] (fun i => [(5, .int .i64 (i : Int))]) (fun i => (ss, bb, .row 1 (intR (fillD is.length i))) :: R) (fun i => i ≤ is.length) (fun i => is.length - i) 0 (Nat.zero_le _)
  (repeat (first | exact Kept.nil | (apply Kept.cons; rfl))); (repeat (first | exact Weak.envNil | refine Weak.envCons (by rfl) ?_))
  · rw [← h0]; exact .refl _
  intro i hi
  try dsimp only at hi ⊢
  by_cases hlt : i < is.length
  · obtain ⟨hrow, hset⟩ := fillD_step hlt
    repeat' (first | with_reducible refine al_none rfl ?_ | ((with_reducible first | apply o_move | apply o_assign); rfl; rfl) | ((with_reducible apply o_indexAddr_ms); rfl; rfl; rfl; (repeat (with_reducible exact mh)); kernel_rfl; kernel_rfl; kernel_rfl; ((with_reducible exact rfl)); (assumption); (with_reducible exact Nat.zero_add _)) | ((with_reducible apply o_len_ms); rfl; rfl; kernel_rfl) | ((with_reducible apply o_lss); rfl; rfl; rfl) | ((with_reducible apply o_add); rfl; rfl; rfl; (((with_reducible refine w_n1 ?_); omega))) | ((with_reducible apply o_store_me); rfl; rfl; rfl; kernel_rfl; (repeat (with_reducible exact mh)); ((with_reducible assumption)); (exact .put _ _ _ _ _ (.nil _)); kernel_rfl; rfl; (repeat (with_reducible exact Upd.head _))) | with_reducible refine aw_seq ?_ | with_reducible refine aw_region ?_ | with_reducible refine al_nil ?_ | with_reducible refine aq_then ?_ | with_reducible refine aw_block ?_ | with_reducible refine aw_skip ?_ | with_reducible refine aq_block ?_ | (refine aw_cond_dt rfl (by with_reducible rfl) (by first | assumption | omega) ?_))
    rw [hset]
    refine aq_round (i + 1) (by omega) (by omega) (.of _ (by repeat (first | exact Weak.envNil | refine Weak.envCons (by rfl) ?_)) (by repeat (first | exact Weak.envNil | refine Weak.envCons rfl ?_)) (.refl _))
  · obtain rfl : i = is.length := by omega
    by_cases hz : is.length = 0
    · have hd : depthsS is = none := by unfold depthsS; rw [if_pos hz]
      rw [hd]
      repeat' (first | with_reducible refine al_none rfl ?_ | ((with_reducible first | apply o_move | apply o_assign); rfl; rfl) | ((with_reducible apply o_len_ms); rfl; rfl; kernel_rfl) | ((with_reducible first | apply o_eql | apply o_lss); rfl; rfl; rfl) | ((with_reducible apply o_own); rfl; rfl; kernel_rfl; kernel_rfl; rfl; kernel_rfl; rfl; rfl; rfl; rfl; intro ss bb) | with_reducible refine aw_seq ?_ | with_reducible refine aw_region ?_ | with_reducible refine al_nil ?_ | with_reducible refine aq_then ?_ | with_reducible refine aw_exit ?_ | with_reducible refine aw_ret ?_ | with_reducible refine aq_block_hit ?_ | with_reducible refine aq_then_exit ?_ | with_reducible refine aq_then_ret ?_ | (refine aw_cond_dt rfl (by with_reducible rfl) (by first | assumption | omega) ?_) | (refine aw_cond_df rfl (by with_reducible rfl) (by first | assumption | omega) ?_))
      refine aq_nils 2 1 (by omega) rfl fun ss => aq_retm2 (by exact .inr rfl) rfl (ss, 0) trivial rfl (.cons _ _ _ _ (.nil R)) (by (try dsimp only); (repeat (first | with_reducible exact Pick.refl _ | (apply Pick.consE; (repeat (with_reducible exact DelS.head _)); ((focus (simp [intR, nts]; done)))) | ((fail_if_success (apply Pick.consE)); refine Pick.drop ?_)))) (.tmp _ _ rfl) (.tmp _ _ rfl) rfl
    · have hrow0 : (intR (fillD is.length is.length))[0]? = some [.int .i64 (-1)] := by
        simp only [fillD, intR, List.getElem?_map]
        rw [List.getElem?_append_left (by simp; omega), List.getElem?_replicate, if_pos (by omega)]; rfl
      have hset0 : (intR (fillD is.length is.length)).set 0 [.int .i64 0] = intR (0 :: List.replicate (is.length - 1) (-1)) := by
        have e : is.length = (is.length - 1) + 1 := by omega
        simp only [fillD, intR, Nat.sub_self, List.replicate_zero, List.append_nil]
        rw [e, List.replicate_succ]; rfl
      have hnz : 0 < is.length := by omega
      have hdS : flow is (stepS is) is.length (0 :: List.replicate (is.length - 1) (-1)) [0] = depthsS is := by unfold depthsS; rw [if_neg hz]
      generalize ss = sd; generalize bb = bd
      repeat' (first | with_reducible refine al_none rfl ?_ | ((with_reducible first | apply o_move | apply o_assign); rfl; rfl) | ((with_reducible apply o_indexAddr_ms); rfl; rfl; rfl; (repeat (first | with_reducible exact mh | with_reducible refine mt ?_)); kernel_rfl; kernel_rfl; kernel_rfl; ((with_reducible exact nat0)); (assumption); (with_reducible exact Nat.zero_add _)) | ((with_reducible apply o_len_ms); rfl; rfl; kernel_rfl) | ((with_reducible first | apply o_eql | apply o_lss); rfl; rfl; rfl) | ((with_reducible apply o_own); rfl; rfl; kernel_rfl; kernel_rfl; rfl; kernel_rfl; rfl; rfl; rfl; rfl; intro ss bb) | ((with_reducible apply o_store_me); rfl; rfl; rfl; kernel_rfl; (repeat (first | with_reducible exact mh | with_reducible refine mt ?_)); ((with_reducible assumption)); (exact .put _ _ _ _ _ (.nil _)); kernel_rfl; rfl; (repeat (first | with_reducible exact Upd.head _ | with_reducible apply Upd.tail))) | with_reducible refine aw_seq ?_ | with_reducible refine aw_region ?_ | with_reducible refine al_nil ?_ | with_reducible refine aq_then ?_ | with_reducible refine aw_block ?_ | with_reducible refine aw_exit ?_ | with_reducible refine aw_skip ?_ | with_reducible refine aq_block_hit ?_ | with_reducible refine aq_then_exit ?_ | (refine aw_cond_df rfl (by with_reducible rfl) (by first | assumption | omega) ?_))
      generalize ss = st; generalize bb = bt
      rw [hset0]
      apply aw_loopk (X := Nat × List Int × List Nat × Nat × Nat) [0, 4, 1000000] (fun x => [(6, .ms st x.2.2.2.1 0 x.2.2.1.length), (7, .int .i64 (x.1 : Int))]) (fun x => (st, x.2.2.2.1, .row 1 (intR (nts x.2.2.1))) :: (sd, bd, .row 1 (intR x.2.1)) :: R)
        (fun x => x.1 ≤ x.2.2.1.length ∧ x.1 + x.2.2.2.2 ≤ is.length ∧ DSt is.length x.2.1 (x.2.2.1.drop x.1) x.2.2.2.2 ∧ flow is (stepS is) x.2.2.2.2 x.2.1 (x.2.2.1.drop x.1) = depthsS is) (fun x => x.2.2.2.2) (0, 0 :: List.replicate (is.length - 1) (-1), [0], bt, is.length) ⟨Nat.zero_le _, by simp, start_st (by omega), hdS⟩
      (repeat (first | exact Kept.nil | (apply Kept.cons; rfl))); (repeat (first | exact Weak.envNil | refine Weak.envCons (by rfl) ?_))
      · exact .refl _
      rintro ⟨k, ds, td, bt, f⟩ ⟨hk, hkf, hD, hfl⟩
      dsimp only at hk hkf hD hfl ⊢
      by_cases hlt : k < td.length
      · have hg : (intR (nts td))[k]? = some [.int .i64 ((td[k] : Nat) : Int)] := by simp [intR, nts, hlt]
        rw [List.drop_eq_getElem_cons hlt] at hD hfl
        obtain ⟨j, rfl, hD', hpn, hg0⟩ := hD.pop
        rw [flow_cons _ _ _ _ _ hpn] at hfl
        have hrange := hD'.inv.gd (td[k] : Nat)
        have hdl := hD'.len
        have hdi : (intR ds)[td[k]]? = some [.int .i64 (gd ds (td[k] : Nat))] := by
          have h9 := gd_get (ds := ds) (p := td[k]) (by omega)
          simp only [intR, List.getElem?_map]
          rw [List.getElem?_eq_getElem (by omega), h9]; rfl
        have hii : (instrR is)[td[k]]? = some (is[td[k]]).tv := by simp only [instrR, List.getElem?_map]; rw [List.getElem?_eq_getElem hpn]; rfl
        have hpi : preOkI is.length is[td[k]] = true := List.all_eq_true.1 hp _ (List.getElem_mem _)
        have hti := ht _ (List.getElem_mem hpn)
        generalize is[td[k]] = ii at hfl hii hpi hti
        obtain ⟨op, a, b, t⟩ := ii
        have her := eff_range ⟨op, a, b, t⟩
        have hop : inR op 1 26 = true := by simp only [preOkI, Bool.and_eq_true] at hpi; exact hpi.1.1
        have hef := l16Effect_ct hst hca op a b t hti hop
        replace hii : (instrR is)[td[k]]? = some [.int .i64 op, .int .i64 a, .int .i64 b, .str t] := hii
        have htd : td.length ≤ is.length := by have h9 := hD'.mu; simp at h9; omega
        generalize hp' : td[k] = p at *
        have hstep : stepS is ⟨op, a, b, t⟩ p ds = if gd ds p - (TInstr.eff ⟨op, a, b, t⟩).1 < 0 ∨ 250 < gd ds p - (TInstr.eff ⟨op, a, b, t⟩).1 + (TInstr.eff ⟨op, a, b, t⟩).2 then none else pushS is p op (TInstr.nexts ⟨op, a, b, t⟩ p (gd ds p)) (ds, []) := rfl
        have hst1 := fun ds' new h => stepS_st (i := ⟨op, a, b, t⟩) (ds' := ds') (new := new) hpi hD' (by omega) h
        have hnn := nexts_fst (n := is.length) ⟨op, a, b, t⟩ p (gd ds p) hpi
        have hnl := nexts_len ⟨op, a, b, t⟩ p (gd ds p)
        have hnx : TInstr.nexts ⟨op, a, b, t⟩ p (gd ds p) = TInstr.nexts ⟨op, a, b, t⟩ p (gd ds p) := rfl
        conv at hnx => rhs; unfold TInstr.nexts
        dsimp only at hnx
        generalize TInstr.nexts ⟨op, a, b, t⟩ p (gd ds p) = L at *
        generalize gd ds (p : Int) = g at *
        generalize he1 : (TInstr.eff ⟨op, a, b, t⟩).1 = e1 at *
        generalize he2 : (TInstr.eff ⟨op, a, b, t⟩).2 = e2 at *
        simp only [inR, decide_eq_true_eq] at hop
        repeat' (first | with_reducible refine al_none rfl ?_ | ((with_reducible first | apply o_move | apply o_assign | apply o_nilCheck_cp); rfl; rfl) | ((with_reducible apply o_pick_t); rfl; rfl; (with_reducible rfl); rfl) | ((with_reducible apply o_pick_f); rfl; rfl; (with_reducible rfl); rfl) | ((with_reducible apply o_load_me); rfl; rfl; kernel_rfl; rfl; (repeat (first | with_reducible exact mh | with_reducible refine mt ?_)); ((with_reducible assumption)); rfl) | ((with_reducible apply o_load_cp); rfl; rfl; kernel_rfl; rfl; rfl) | ((with_reducible apply o_load_mp); rfl; rfl; kernel_rfl; rfl; (repeat (first | with_reducible exact mh | with_reducible refine mt ?_)); rfl) | ((with_reducible apply o_fieldAddr); rfl; rfl; kernel_rfl; rfl) | ((with_reducible apply o_indexAddr); rfl; rfl; rfl; kernel_rfl; kernel_rfl; kernel_rfl; rfl; ((with_reducible exact rfl)); ((with_reducible assumption))) | ((with_reducible apply o_indexAddr_ms); rfl; rfl; rfl; (repeat (first | with_reducible exact mh | with_reducible refine mt ?_)); kernel_rfl; kernel_rfl; kernel_rfl; ((with_reducible exact rfl)); (assumption); (with_reducible exact Nat.zero_add _)) | ((with_reducible apply o_len_ms); rfl; rfl; kernel_rfl) | ((with_reducible first | apply o_lss | apply o_gtr | apply o_extract); rfl; rfl; rfl) | ((with_reducible first | apply o_add | apply o_sub); rfl; rfl; rfl; (((with_reducible first | refine w_n1 ?_ | refine IntWalk.i64_in _ ?_); omega))) | ((with_reducible apply o_load_agg_cp); rfl; rfl; kernel_rfl; kernel_rfl; kernel_rfl; rfl; (exact .succ _ _ _ _ (.succ _ _ _ _ (.succ _ _ _ _ (.succ _ _ _ _ (.zero _)))))) | ((with_reducible apply o_load_agg_mp); rfl; rfl; kernel_rfl; kernel_rfl; kernel_rfl; rfl; (repeat (with_reducible exact mh)); (exact .succ _ _ _ _ (.succ _ _ _ _ (.succ _ _ _ _ (.succ _ _ _ _ (.zero _)))))) | ((with_reducible apply o_own); rfl; rfl; kernel_rfl; kernel_rfl; rfl; kernel_rfl; rfl; rfl; rfl; rfl; intro ss bb) | ((with_reducible apply o_alloc); rfl; rfl; kernel_rfl; intro ss bb) | ((with_reducible apply o_store_mp); rfl; rfl; rfl; kernel_rfl; (repeat (with_reducible exact mh)); ((repeat (first | exact .nil _ | apply Splice.put))); (repeat (with_reducible exact Upd.head _)); kernel_rfl) | ((with_reducible apply o_call); rfl; kernel_rfl; (repeat (first | exact Args.nil | ((with_reducible apply Args.cons); rfl; exact .same _))); exact hG; exact hst; exact hef) | with_reducible refine aw_hold_b (id := 4) ?_ | with_reducible refine aw_seq ?_ | with_reducible refine aw_region ?_ | with_reducible refine al_nil ?_ | with_reducible refine aq_then ?_ | with_reducible refine aw_block ?_ | with_reducible refine aw_skip ?_ | with_reducible refine aw_ret ?_ | with_reducible refine aq_then_ret ?_ | with_reducible refine aq_block_ret ?_ | refine al_run rfl rfl rfl (by with_reducible rfl) ?_ | refine al_skip rfl rfl rfl (by with_reducible rfl) rfl rfl rfl ?_ | (refine al_gsplit rfl rfl rfl (by with_reducible rfl) (fun hg => ?_) (fun hg => ?_)) | refine aw_cond_t rfl (by with_reducible rfl) ?_ | (refine aw_cond_dt rfl (by with_reducible rfl) (by first | assumption | omega) ?_) | (refine aw_cond rfl (by with_reducible rfl) (fun hc => ?_) (fun hc => ?_)))
        · have hd : depthsS is = none := by rw [hstep, if_pos (.inl hg)] at hfl; exact hfl.symm
          rw [hd]
          refine aq_nils 2 1 (by omega) rfl fun ss => aq_retm2 (by exact .inr rfl) rfl (ss, 0) trivial rfl (.cons _ _ _ _ (.nil R)) (by (try dsimp only); (repeat (first | with_reducible exact Pick.refl _ | (apply Pick.consE; (repeat (with_reducible exact DelS.head _)); ((focus (simp [intR, nts]; done)))) | ((fail_if_success (apply Pick.consE)); refine Pick.drop ?_)))) (.tmp _ _ rfl) (.tmp _ _ rfl) rfl
        · have hd : depthsS is = none := by rw [hstep, if_pos (.inr hc)] at hfl; exact hfl.symm
          rw [hd]
          refine aq_nils 2 1 (by omega) rfl fun ss => aq_retm2 (by exact .inr rfl) rfl (ss, 0) trivial rfl (.cons _ _ _ _ (.nil R)) (by (try dsimp only); (repeat (first | with_reducible exact Pick.refl _ | (apply Pick.consE; (repeat (with_reducible exact DelS.head _)); ((focus (simp [intR, nts]; done)))) | ((fail_if_success (apply Pick.consE)); refine Pick.drop ?_)))) (.tmp _ _ rfl) (.tmp _ _ rfl) rfl
        refine ⟨?_⟩
        rw [hstep, if_neg (by omega)] at hfl
        rw [if_neg (by omega)] at hstep
        rename_i s9 b9 s13 b13
        generalize ss = s14; generalize bb = b14
        apply aw_join (X := Nat × Nat × Nat × Nat × List Int) [0, 4, 6, 7, 8, 9, 1000000] (fun x => [(13, .ms x.1 x.2.1 0 L.length), (14, .ms x.2.2.1 x.2.2.2.1 0 (L.length + x.2.2.2.2.length))])
          (fun x => (x.1, x.2.1, .row 1 (intR (L.map Prod.fst))) :: (x.2.2.1, x.2.2.2.1, .row 1 (intR (L.map Prod.snd ++ x.2.2.2.2))) :: (s9, b9, .box [.int .i64 op, .int .i64 a, .int .i64 b, .str t]) :: (st, bt, .row 1 (intR (nts td))) :: (sd, bd, .row 1 (intR ds)) :: R) (fun x => True)
        case hk => (repeat (first | exact Kept.nil | (apply Kept.cons; rfl)))
        · clear hfl hst1 hD hD' hstep
          by_cases h19 : op = 19
          · obtain rfl : L = [] := by rw [hnx, if_pos h19]
            repeat' (first | with_reducible refine al_none rfl ?_ | ((with_reducible apply o_assign); rfl; rfl) | ((with_reducible apply o_eql); rfl; rfl; rfl) | ((with_reducible apply o_own); rfl; rfl; kernel_rfl; kernel_rfl; rfl; kernel_rfl; rfl; rfl; rfl; rfl; intro ss bb) | with_reducible refine aw_seq ?_ | with_reducible refine aw_region ?_ | with_reducible refine al_nil ?_ | with_reducible refine aq_then ?_ | with_reducible refine aw_block ?_ | with_reducible refine aq_block ?_ | (refine aw_cond_dt rfl (by with_reducible rfl) (by assumption) ?_))
            refine aq_mid (ss, bb, s14, b14, [g - e1 + e2]) trivial (.of _ (by repeat (first | exact Weak.envNil | refine Weak.envCons (by rfl) ?_)) (by repeat (first | exact Weak.envNil | refine Weak.envCons rfl ?_)) (by (try dsimp only); (repeat (first | with_reducible exact Pick.refl _ | (apply Pick.consE; (repeat (first | with_reducible exact DelS.head _ | with_reducible apply DelS.tail)); (first | with_reducible rfl | (focus (simp [intR, nts]; done)))) | ((fail_if_success (apply Pick.consE)); refine Pick.drop ?_)))))
          by_cases h20 : op = 20
          · obtain rfl : L = [(a, g - e1 + e2)] := by rw [hnx, if_neg h19, if_pos h20]
            repeat' (first | with_reducible refine al_none rfl ?_ | ((with_reducible apply o_assign); rfl; rfl) | ((with_reducible apply o_load_mp); rfl; rfl; kernel_rfl; rfl; (repeat (first | with_reducible exact mh | with_reducible refine mt ?_)); rfl) | ((with_reducible apply o_fieldAddr); rfl; rfl; kernel_rfl; rfl) | ((with_reducible apply o_eql); rfl; rfl; rfl) | ((with_reducible apply o_own); rfl; rfl; kernel_rfl; kernel_rfl; rfl; kernel_rfl; rfl; rfl; rfl; rfl; intro ss bb) | with_reducible refine aw_seq ?_ | with_reducible refine aw_region ?_ | with_reducible refine al_nil ?_ | with_reducible refine aq_then ?_ | with_reducible refine aw_block ?_ | with_reducible refine aq_block ?_ | (refine aw_cond_dt rfl (by with_reducible rfl) (by assumption) ?_) | (refine aw_cond_df rfl (by with_reducible rfl) (by assumption) ?_))
            refine aq_mid (ss, bb, s14, b14, []) trivial (.of _ (by repeat (first | exact Weak.envNil | refine Weak.envCons (by rfl) ?_)) (by repeat (first | exact Weak.envNil | refine Weak.envCons rfl ?_)) (by (try dsimp only); (repeat (first | with_reducible exact Pick.refl _ | (apply Pick.consE; (repeat (first | with_reducible exact DelS.head _ | with_reducible apply DelS.tail)); (first | with_reducible rfl | (focus (simp [intR, nts]; done)))) | ((fail_if_success (apply Pick.consE)); refine Pick.drop ?_)))))
          by_cases h21 : op = 21 ∨ op = 22
          · obtain rfl : L = [((p : Int) + 1, g - e1 + e2), (a, g - e1 + e2), (b, g - e1 + e2 + 1)] := by rw [hnx, if_neg h19, if_neg h20, if_pos h21]
            have he0 : e2 = 0 := by
              rw [← he2]; rcases h21 with rfl | rfl <;> rfl
            subst he0
            rcases h21 with rfl | rfl
            all_goals
              repeat' (first | with_reducible refine al_none rfl ?_ | ((with_reducible first | apply o_move | apply o_assign); rfl; rfl) | ((with_reducible apply o_load_mp); rfl; rfl; kernel_rfl; rfl; (repeat (first | with_reducible exact mh | with_reducible refine mt ?_)); rfl) | ((with_reducible apply o_fieldAddr); rfl; rfl; kernel_rfl; rfl) | ((with_reducible apply o_eql); rfl; rfl; rfl) | ((with_reducible apply o_add); rfl; rfl; rfl; (((with_reducible refine IntWalk.i64_in _ ?_); omega))) | ((with_reducible apply o_lit); rfl; rfl; kernel_rfl; kernel_rfl; rfl; kernel_rfl; rfl; rfl; rfl; rfl) | ((with_reducible apply o_append); rfl; rfl; rfl; kernel_rfl; (repeat (first | with_reducible exact mh | with_reducible refine mt ?_)); (rfl); ((show List.length _ = 2; rfl)); omega; rfl; (intro bq; (repeat (first | with_reducible exact Upd.head _ | with_reducible apply Upd.tail))); intro bb) | with_reducible refine aw_seq ?_ | with_reducible refine aw_region ?_ | with_reducible refine al_nil ?_ | with_reducible refine aq_then ?_ | with_reducible refine aw_block ?_ | with_reducible refine aw_skip ?_ | with_reducible refine aq_block ?_ | (refine aw_cond_dt rfl (by with_reducible rfl) (by first | assumption | omega) ?_) | (refine aw_cond_df rfl (by with_reducible rfl) (by first | assumption | omega) ?_))
              rename_i bb13
              refine aq_mid (s13, bb13, s14, bb, []) trivial (.of _ (by repeat (first | exact Weak.envNil | refine Weak.envCons (by rfl) ?_)) (by repeat (first | exact Weak.envNil | refine Weak.envCons rfl ?_)) (by (try dsimp only); (repeat (first | with_reducible exact Pick.refl _ | (apply Pick.consE; (repeat (first | with_reducible exact DelS.head _ | with_reducible apply DelS.tail)); ((focus (simp [intR, nts]; done))))))))
          by_cases h24 : op = 24 ∨ op = 25
          · obtain rfl : L = [((p : Int) + 1, g - e1 + e2), (b, g - 1)] := by rw [hnx, if_neg h19, if_neg h20, if_neg h21, if_pos h24]
            have he0 : e1 = 2 := by
              rw [← he1]; rcases h24 with rfl | rfl <;> rfl
            subst he0
            rcases h24 with rfl | rfl
            all_goals
              repeat' (first | with_reducible refine al_none rfl ?_ | ((with_reducible first | apply o_move | apply o_assign); rfl; rfl) | ((with_reducible apply o_load_mp); rfl; rfl; kernel_rfl; rfl; (repeat (first | with_reducible exact mh | with_reducible refine mt ?_)); rfl) | ((with_reducible apply o_fieldAddr); rfl; rfl; kernel_rfl; rfl) | ((with_reducible apply o_eql); rfl; rfl; rfl) | ((with_reducible apply o_add); rfl; rfl; rfl; (((with_reducible refine IntWalk.i64_in _ ?_); omega))) | ((with_reducible apply o_lit); rfl; rfl; kernel_rfl; kernel_rfl; rfl; kernel_rfl; rfl; rfl; rfl; rfl) | ((with_reducible apply o_append); rfl; rfl; rfl; kernel_rfl; (repeat (first | with_reducible exact mh | with_reducible refine mt ?_)); (rfl); ((show List.length _ = 1; rfl)); omega; rfl; (intro bq; (repeat (first | with_reducible exact Upd.head _ | with_reducible apply Upd.tail))); intro bb) | with_reducible refine aw_seq ?_ | with_reducible refine aw_region ?_ | with_reducible refine al_nil ?_ | with_reducible refine aq_then ?_ | with_reducible refine aw_block ?_ | with_reducible refine aw_skip ?_ | with_reducible refine aq_block ?_ | (refine aw_cond_dt rfl (by with_reducible rfl) (by first | assumption | omega) ?_) | (refine aw_cond_df rfl (by with_reducible rfl) (by first | assumption | omega) ?_))
              rename_i bb13
              refine aq_mid (s13, bb13, s14, bb, []) trivial (.of _ (by repeat (first | exact Weak.envNil | refine Weak.envCons (by rfl) ?_)) (by repeat (first | exact Weak.envNil | refine Weak.envCons rfl ?_)) (by (try dsimp only); (repeat (first | with_reducible exact Pick.refl _ | (apply Pick.consE; (repeat (first | with_reducible exact DelS.head _ | with_reducible apply DelS.tail)); (first | (focus (simp [intR, nts]; done)) | (focus (simp [intR, nts]; omega))))))))
          by_cases h26 : op = 26
          · obtain rfl : L = [((p : Int) + 1, g - e1 + e2), (b, g)] := by rw [hnx, if_neg h19, if_neg h20, if_neg h21, if_neg h24, if_pos h26]
            have he0 : e1 = 2 := by
              rw [← he1, h26]; rfl
            subst he0
            repeat' (first | with_reducible refine al_none rfl ?_ | ((with_reducible first | apply o_move | apply o_assign); rfl; rfl) | ((with_reducible apply o_load_mp); rfl; rfl; kernel_rfl; rfl; (repeat (first | with_reducible exact mh | with_reducible refine mt ?_)); rfl) | ((with_reducible apply o_fieldAddr); rfl; rfl; kernel_rfl; rfl) | ((with_reducible apply o_eql); rfl; rfl; rfl) | ((with_reducible apply o_add); rfl; rfl; rfl; (((with_reducible refine IntWalk.i64_in _ ?_); omega))) | ((with_reducible apply o_lit); rfl; rfl; kernel_rfl; kernel_rfl; rfl; kernel_rfl; rfl; rfl; rfl; rfl) | ((with_reducible apply o_append); rfl; rfl; rfl; kernel_rfl; (repeat (first | with_reducible exact mh | with_reducible refine mt ?_)); (rfl); ((show List.length _ = 1; rfl)); omega; rfl; (intro bq; (repeat (first | with_reducible exact Upd.head _ | with_reducible apply Upd.tail))); intro bb) | with_reducible refine aw_seq ?_ | with_reducible refine aw_region ?_ | with_reducible refine al_nil ?_ | with_reducible refine aq_then ?_ | with_reducible refine aw_block ?_ | with_reducible refine aq_block ?_ | (refine aw_cond_dt rfl (by with_reducible rfl) (by assumption) ?_) | (refine aw_cond_df rfl (by with_reducible rfl) (by first | assumption | omega) ?_))
            rename_i bb13
            refine aq_mid (s13, bb13, s14, bb, []) trivial (.of _ (by repeat (first | exact Weak.envNil | refine Weak.envCons (by rfl) ?_)) (by repeat (first | exact Weak.envNil | refine Weak.envCons rfl ?_)) (by (try dsimp only); (repeat (first | with_reducible exact Pick.refl _ | (apply Pick.consE; (repeat (first | with_reducible exact DelS.head _ | with_reducible apply DelS.tail)); ((focus (simp [intR, nts]; done))))))))
          · obtain rfl : L = [((p : Int) + 1, g - e1 + e2)] := by rw [hnx, if_neg h19, if_neg h20, if_neg h21, if_neg h24, if_neg h26]
            repeat' (first | with_reducible refine al_none rfl ?_ | ((with_reducible apply o_assign); rfl; rfl) | ((with_reducible apply o_eql); rfl; rfl; rfl) | with_reducible refine aw_seq ?_ | with_reducible refine aw_region ?_ | with_reducible refine al_nil ?_ | with_reducible refine aq_then ?_ | with_reducible refine aw_block ?_ | with_reducible refine aw_skip ?_ | with_reducible refine aq_block ?_ | (refine aw_cond_df rfl (by with_reducible rfl) (by first | assumption | omega) ?_))
            refine aq_mid (s13, b13, s14, b14, []) trivial (.of _ (by repeat (first | exact Weak.envNil | refine Weak.envCons (by rfl) ?_)) (by repeat (first | exact Weak.envNil | refine Weak.envCons rfl ?_)) (by (try dsimp only); (repeat (first | with_reducible exact Pick.refl _ | (apply Pick.consE; (repeat (first | with_reducible exact DelS.head _ | with_reducible apply DelS.tail)); ((focus (simp [intR, nts]; done))))))))
        · rintro ⟨s13', b13', s14', b14', r14⟩ _
          dsimp only
          rw [hstep] at hst1
          clear hnx he1 he2 her hef hpi hstep hD hD'
          repeat' (first | with_reducible refine al_none rfl ?_ | ((with_reducible apply o_assign); rfl; rfl) | with_reducible refine aw_seq ?_ | with_reducible refine aw_region ?_ | with_reducible refine al_nil ?_ | with_reducible refine aq_then ?_ | with_reducible refine aw_block ?_)
          apply aw_loopk (X := Nat × List Int × List Nat × Nat) [0, 4, 7, 8, 9, 13, 14, 1000000] (fun x => [(15, .int .i64 (x.1 : Int)), (6, .ms st x.2.2.2 0 (td.length + x.2.2.1.length))])
            (fun x => (s13', b13', .row 1 (intR (L.map Prod.fst))) :: (s14', b14', .row 1 (intR (L.map Prod.snd ++ r14))) :: (s9, b9, .box [.int .i64 op, .int .i64 a, .int .i64 b, .str t]) :: (st, x.2.2.2, .row 1 (intR (nts (td ++ x.2.2.1)))) :: (sd, bd, .row 1 (intR x.2.1)) :: R)
            (fun x => x.1 ≤ L.length ∧ x.2.1.length = is.length ∧ x.2.2.1.length ≤ x.1 ∧ pushS is p op (L.drop x.1) (x.2.1, x.2.2.1) = pushS is p op L (ds, [])) (fun x => L.length - x.1) (0, ds, [], bt) ⟨Nat.zero_le _, hdl, Nat.zero_le _, rfl⟩
          (repeat (first | exact Kept.nil | (apply Kept.cons; rfl))); (repeat (first | exact Weak.envNil | refine Weak.envCons (by rfl) ?_))
          · rw [List.append_nil]; exact .refl _
          rintro ⟨q, ds', new, bt'⟩ ⟨hq, hdl', hnw, hpu⟩
          dsimp only at hq hdl' hnw hpu ⊢
          by_cases hql : q < L.length
          · have hu0 := hnn _ (List.getElem_mem hql)
            rw [List.drop_eq_getElem_cons hql] at hpu
            have hr13 : (intR (L.map Prod.fst))[q]? = some [.int .i64 L[q].1] := by simp [intR, hql]
            have hr14 : (intR (L.map Prod.snd ++ r14))[q]? = some [.int .i64 L[q].2] := by
              simp only [intR, List.getElem?_map]
              rw [List.getElem?_append_left (by simpa using hql)]; simp [hql]
            generalize L[q] = uv at hu0 hpu hr13 hr14
            obtain ⟨u, v⟩ := uv
            obtain ⟨un, rfl⟩ : ∃ un : Nat, u = (un : Int) := ⟨u.toNat, by dsimp only at hu0; omega⟩
            dsimp only at hr13 hr14
            rw [pushS_cons] at hpu
            repeat' (first | with_reducible refine al_none rfl ?_ | ((with_reducible apply o_move); rfl; rfl) | ((with_reducible apply o_len_ms); rfl; rfl; kernel_rfl) | ((with_reducible apply o_lss); rfl; rfl; rfl) | with_reducible refine aw_hold_r (id := 40) ?_ | with_reducible refine aw_seq ?_ | with_reducible refine aw_region ?_ | with_reducible refine al_nil ?_ | with_reducible refine aq_then ?_ | with_reducible refine aw_block ?_ | with_reducible refine aw_skip ?_ | (refine aw_cond_dt rfl (by with_reducible rfl) (by first | assumption | omega) ?_))
            refine ⟨aw_seq ?_⟩
            apply aw_join (X := Unit) [0, 4, 6, 7, 8, 9, 13, 14, 15, 1000000] (fun _ => [(170, .bool (badS is p op (un : Int)))])
              (fun _ => (s13', b13', .row 1 (intR (L.map Prod.fst))) :: (s14', b14', .row 1 (intR (L.map Prod.snd ++ r14))) :: (s9, b9, .box [.int .i64 op, .int .i64 a, .int .i64 b, .str t]) :: (st, bt', .row 1 (intR (nts (td ++ new)))) :: (sd, bd, .row 1 (intR ds')) :: R) (fun _ => True)
            case hk => (repeat (first | exact Kept.nil | (apply Kept.cons; rfl)))
            · clear hpu hfl hst1
              by_cases hlen1 : (is.length : Int) ≤ (un : Int)
              · have hb : badS is p op (un : Int) = true := by simp [badS, hlen1]
                rw [hb]
                repeat' (first | with_reducible refine aw_draw (by kernel_rfl) (by kernel_rfl) ?_ | with_reducible refine dr_nil ?_ | with_reducible refine dr_none rfl ?_ | refine dr_skip rfl rfl rfl (by with_reducible rfl) rfl rfl rfl ?_ | refine dr_skip2 rfl rfl rfl (by with_reducible rfl) rfl rfl ?_ | (refine dr_gt rfl rfl rfl (by with_reducible rfl) (by assumption) ?_) | ((with_reducible apply d_move); rfl; rfl) | ((with_reducible apply d_pick_t); rfl; rfl; (with_reducible rfl); rfl) | ((with_reducible apply d_load_me); rfl; rfl; kernel_rfl; rfl; (repeat (with_reducible exact mh)); ((with_reducible assumption)); rfl) | ((with_reducible apply d_indexAddr_ms); rfl; rfl; rfl; (repeat (with_reducible exact mh)); kernel_rfl; kernel_rfl; kernel_rfl; ((with_reducible exact rfl)); (assumption); (with_reducible exact Nat.zero_add _)) | ((with_reducible apply d_len_ms); rfl; rfl; kernel_rfl) | ((with_reducible apply d_geq); rfl; rfl; rfl))
                refine aq_mid () trivial (.of _ (by repeat (first | exact Weak.envNil | refine Weak.envCons (by rfl) ?_)) (by repeat (first | exact Weak.envNil | refine Weak.envCons rfl ?_)) (by (try dsimp only); (repeat (with_reducible exact Pick.refl _))))
              have hun : un < is.length := by omega
              have hri : (instrR is)[un]? = some (is[un]).tv := by simp only [instrR, List.getElem?_map]; rw [List.getElem?_eq_getElem hun]; rfl
              have hoa : opAt is (un : Int) = is[un].op := by simp [opAt, hun]
              generalize is[un] = iu at hri hoa
              obtain ⟨op', a', b', t'⟩ := iu
              replace hri : (instrR is)[un]? = some [.int .i64 op', .int .i64 a', .int .i64 b', .str t'] := hri
              have hbs : badS is p op (un : Int) = (!decide (op = 26) && decide ((un : Int) ≤ p) && !decide (op' = 23)) := by simp [badS, backI, hlen1, hoa]
              rw [hbs]
              have hw3 : op = 26 ∨ (¬ op = 26 ∧ (un : Int) ≤ p) ∨ (¬ op = 26 ∧ ¬ (un : Int) ≤ p) := by omega
              rcases hw3 with h26 | ⟨h26, hle⟩ | ⟨h26, hle⟩
              all_goals
                repeat' (first | with_reducible refine aw_draw (by kernel_rfl) (by kernel_rfl) ?_ | with_reducible refine dr_nil ?_ | with_reducible refine dr_none rfl ?_ | refine dr_run rfl rfl rfl (by with_reducible rfl) ?_ | refine dr_skip rfl rfl rfl (by with_reducible rfl) rfl rfl rfl ?_ | (refine dr_gt rfl rfl rfl (by with_reducible rfl) (by assumption) ?_) | (refine dr_gf rfl rfl rfl (by with_reducible rfl) (by first | assumption | omega) ?_) | ((with_reducible first | apply d_move | apply d_nilCheck_cp); rfl; rfl) | ((with_reducible apply d_pick_t); rfl; rfl; (with_reducible rfl); rfl) | ((with_reducible apply d_pick_f); rfl; rfl; (with_reducible rfl); rfl) | ((with_reducible apply d_load_me); rfl; rfl; kernel_rfl; rfl; (repeat (with_reducible exact mh)); ((with_reducible assumption)); rfl) | ((with_reducible apply d_load_cp); rfl; rfl; kernel_rfl; rfl; rfl) | ((with_reducible apply d_load_mp); rfl; rfl; kernel_rfl; rfl; (repeat (first | with_reducible exact mh | with_reducible refine mt ?_)); rfl) | ((with_reducible apply d_fieldAddr); rfl; rfl; kernel_rfl; rfl) | ((with_reducible apply d_indexAddr); rfl; rfl; rfl; kernel_rfl; kernel_rfl; kernel_rfl; rfl; ((with_reducible exact rfl)); ((with_reducible assumption))) | ((with_reducible apply d_indexAddr_ms); rfl; rfl; rfl; (repeat (with_reducible exact mh)); kernel_rfl; kernel_rfl; kernel_rfl; ((with_reducible exact rfl)); (assumption); (with_reducible exact Nat.zero_add _)) | ((with_reducible apply d_len_ms); rfl; rfl; kernel_rfl) | ((with_reducible first | apply d_neq | apply d_leq | apply d_geq); rfl; rfl; rfl))
                refine aq_mid () trivial (.of _ (by repeat (first | exact Weak.envNil | refine Weak.envCons (by exact lk_bool rfl (by simp [*])) ?_)) (by repeat (first | exact Weak.envNil | refine Weak.envCons rfl ?_)) (by (try dsimp only); (repeat (with_reducible exact Pick.refl _))))
            · intro _ _
              by_cases hbad : badS is p op (un : Int) = true
              · have hd : depthsS is = none := by rw [if_pos hbad] at hpu; rw [← hpu] at hfl; exact hfl.symm
                rw [hd, hbad]
                repeat' (first | with_reducible refine al_none rfl ?_ | ((with_reducible apply o_assign); rfl; rfl) | with_reducible refine aw_seq ?_ | with_reducible refine aw_region ?_ | with_reducible refine al_nil ?_ | with_reducible refine aq_then ?_ | with_reducible refine aw_ret ?_ | with_reducible refine aq_then_ret ?_ | with_reducible refine aq_block_ret ?_ | refine aw_cond_t rfl (by with_reducible rfl) ?_)
                refine aq_nils 2 1 (by omega) rfl fun ss => aq_retm2 (by exact .inr rfl) rfl (ss, 0) trivial rfl (.cons _ _ _ _ (.nil R)) (by (try dsimp only); (repeat (first | with_reducible exact Pick.refl _ | (apply Pick.consE; (repeat (with_reducible exact DelS.head _)); ((focus (simp [intR, nts]; done)))) | ((fail_if_success (apply Pick.consE)); refine Pick.drop ?_)))) (.tmp _ _ rfl) (.tmp _ _ rfl) rfl
              have hun : un < is.length := Nat.lt_of_not_le fun h => hbad (by simp [badS]; left; omega)
              rw [if_neg hbad] at hpu
              rw [Bool.not_eq_true] at hbad
              rw [hbad]
              have hrd : (intR ds')[un]? = some [.int .i64 (gd ds' (un : Int))] := by
                have h9 := gd_get (ds := ds') (p := un) (by omega)
                simp only [intR, List.getElem?_map]
                rw [List.getElem?_eq_getElem (by omega), h9]; rfl
              have hll : (intR (nts (td ++ new))).length = td.length + new.length := by simp [intR, nts]
              by_cases hgd : gd ds' (un : Int) = -1
              · rw [if_pos hgd] at hpu
                rw [hgd] at hrd
                repeat' (first | with_reducible refine al_none rfl ?_ | ((with_reducible first | apply o_move | apply o_assign); rfl; rfl) | ((with_reducible apply o_load_me); rfl; rfl; kernel_rfl; rfl; (repeat (first | with_reducible exact mh | with_reducible refine mt ?_)); ((with_reducible assumption)); rfl) | ((with_reducible apply o_indexAddr_ms); rfl; rfl; rfl; (repeat (first | with_reducible exact mh | with_reducible refine mt ?_)); kernel_rfl; kernel_rfl; kernel_rfl; ((with_reducible exact rfl)); (assumption); (with_reducible exact Nat.zero_add _)) | ((with_reducible apply o_eql); rfl; rfl; rfl) | ((with_reducible apply o_add); rfl; rfl; rfl; (((with_reducible refine w_n1 ?_); omega))) | (with_reducible apply aw_draw2 (id := 43) 10; kernel_rfl; kernel_rfl; kernel_rfl; (repeat (first | exact Cut.zero _ | apply Cut.succ))) | with_reducible refine dr_nil2 ?_ | with_reducible refine dr_none rfl ?_ | ((with_reducible apply d_move); rfl; rfl) | ((with_reducible apply d_load_me); rfl; rfl; kernel_rfl; rfl; (repeat (first | with_reducible exact mh | with_reducible refine mt ?_)); ((with_reducible assumption)); rfl) | ((with_reducible apply d_indexAddr_ms); rfl; rfl; rfl; (repeat (first | with_reducible exact mh | with_reducible refine mt ?_)); kernel_rfl; kernel_rfl; kernel_rfl; ((with_reducible exact rfl)); (first | assumption | omega); (with_reducible exact Nat.zero_add _)) | ((with_reducible apply o_store_me); rfl; rfl; rfl; kernel_rfl; (repeat (first | with_reducible exact mh | with_reducible refine mt ?_)); ((with_reducible assumption)); (exact .put _ _ _ _ _ (.nil _)); kernel_rfl; rfl; (repeat (first | with_reducible exact Upd.head _ | with_reducible apply Upd.tail))) | ((with_reducible apply o_lit); rfl; rfl; kernel_rfl; kernel_rfl; rfl; kernel_rfl; rfl; rfl; rfl; rfl) | ((with_reducible apply o_append); rfl; rfl; rfl; kernel_rfl; (repeat (first | with_reducible exact mh | with_reducible refine mt ?_)); (with_reducible assumption); ((show List.length _ = 1; rfl)); omega; rfl; (intro bq; (repeat (first | with_reducible exact Upd.head _ | with_reducible apply Upd.tail))); intro bb) | with_reducible refine aw_seq ?_ | with_reducible refine aw_region ?_ | with_reducible refine al_nil ?_ | with_reducible refine aq_then ?_ | with_reducible refine aw_skip ?_ | with_reducible refine aq_block ?_ | refine aw_cond_f rfl (by with_reducible rfl) ?_ | (refine aw_cond_dt rfl (by with_reducible rfl) (by first | assumption | omega) ?_))
                refine aq_round (q + 1, ds'.set un v, new ++ [un], bb) ⟨by dsimp only; omega, by simp [hdl'], by simp; omega, by dsimp only; rw [← hpu]; rfl⟩ (by dsimp only; omega) (.of _ (by repeat (first | exact Weak.envNil | refine Weak.envCons (by first | rfl | exact lk_ms rfl (by (simp; omega))) ?_)) (by repeat (first | exact Weak.envNil | refine Weak.envCons rfl ?_)) (by (try dsimp only); (repeat (first | with_reducible exact Pick.refl _ | (apply Pick.consE; (repeat (with_reducible exact DelS.head _)); (first | with_reducible rfl | (focus (simp [intR, nts]; done))))))))
              · rw [if_neg hgd] at hpu
                by_cases hgv : gd ds' (un : Int) = v
                · rw [if_pos hgv] at hpu
                  repeat' (first | with_reducible refine al_none rfl ?_ | ((with_reducible first | apply o_move | apply o_assign); rfl; rfl) | ((with_reducible apply o_load_me); rfl; rfl; kernel_rfl; rfl; (repeat (first | with_reducible exact mh | with_reducible refine mt ?_)); ((with_reducible assumption)); rfl) | ((with_reducible apply o_indexAddr_ms); rfl; rfl; rfl; (repeat (first | with_reducible exact mh | with_reducible refine mt ?_)); kernel_rfl; kernel_rfl; kernel_rfl; ((with_reducible exact rfl)); (assumption); (with_reducible exact Nat.zero_add _)) | ((with_reducible apply o_eql); rfl; rfl; rfl) | ((with_reducible apply o_add); rfl; rfl; rfl; (((with_reducible refine w_n1 ?_); omega))) | with_reducible refine aw_draw (by kernel_rfl) (by kernel_rfl) ?_ | with_reducible refine dr_nil ?_ | with_reducible refine dr_none rfl ?_ | ((with_reducible apply d_move); rfl; rfl) | ((with_reducible apply d_load_me); rfl; rfl; kernel_rfl; rfl; (repeat (first | with_reducible exact mh | with_reducible refine mt ?_)); ((with_reducible assumption)); rfl) | ((with_reducible apply d_indexAddr_ms); rfl; rfl; rfl; (repeat (first | with_reducible exact mh | with_reducible refine mt ?_)); kernel_rfl; kernel_rfl; kernel_rfl; ((with_reducible exact rfl)); (first | assumption | omega); (with_reducible exact Nat.zero_add _)) | ((with_reducible apply d_neq); rfl; rfl; rfl) | with_reducible refine aw_seq ?_ | with_reducible refine aw_region ?_ | with_reducible refine al_nil ?_ | with_reducible refine aq_then ?_ | with_reducible refine aw_skip ?_ | with_reducible refine aq_block ?_ | refine aw_cond_f rfl (by with_reducible rfl) ?_ | (refine aw_cond_df rfl (by with_reducible rfl) (by first | assumption | omega) ?_))
                  refine aq_round (q + 1, ds', new, bt') ⟨by dsimp only; omega, hdl', by dsimp only; omega, by dsimp only; exact hpu⟩ (by dsimp only; omega) (.of _ (by repeat (first | exact Weak.envNil | refine Weak.envCons (by rfl) ?_)) (by repeat (first | exact Weak.envNil | refine Weak.envCons rfl ?_)) (by (try dsimp only); (repeat (with_reducible exact Pick.refl _))))
                · rw [if_neg hgv] at hpu
                  have hd : depthsS is = none := by rw [← hpu] at hfl; exact hfl.symm
                  rw [hd]
                  repeat' (first | with_reducible refine al_none rfl ?_ | ((with_reducible first | apply o_move | apply o_assign); rfl; rfl) | ((with_reducible apply o_load_me); rfl; rfl; kernel_rfl; rfl; (repeat (first | with_reducible exact mh | with_reducible refine mt ?_)); ((with_reducible assumption)); rfl) | ((with_reducible apply o_indexAddr_ms); rfl; rfl; rfl; (repeat (first | with_reducible exact mh | with_reducible refine mt ?_)); kernel_rfl; kernel_rfl; kernel_rfl; ((with_reducible exact rfl)); (assumption); (with_reducible exact Nat.zero_add _)) | ((with_reducible apply o_eql); rfl; rfl; rfl) | with_reducible refine aw_draw (by kernel_rfl) (by kernel_rfl) ?_ | with_reducible refine dr_nil ?_ | with_reducible refine dr_none rfl ?_ | ((with_reducible apply d_move); rfl; rfl) | ((with_reducible apply d_load_me); rfl; rfl; kernel_rfl; rfl; (repeat (first | with_reducible exact mh | with_reducible refine mt ?_)); ((with_reducible assumption)); rfl) | ((with_reducible apply d_indexAddr_ms); rfl; rfl; rfl; (repeat (first | with_reducible exact mh | with_reducible refine mt ?_)); kernel_rfl; kernel_rfl; kernel_rfl; ((with_reducible exact rfl)); (first | assumption | omega); (with_reducible exact Nat.zero_add _)) | ((with_reducible apply d_neq); rfl; rfl; rfl) | with_reducible refine aw_seq ?_ | with_reducible refine aw_region ?_ | with_reducible refine al_nil ?_ | with_reducible refine aq_then ?_ | with_reducible refine aw_skip ?_ | with_reducible refine aw_ret ?_ | with_reducible refine aq_then_ret ?_ | with_reducible refine aq_block_ret ?_ | refine aw_cond_f rfl (by with_reducible rfl) ?_ | (refine aw_cond_dt rfl (by with_reducible rfl) (by assumption) ?_) | (refine aw_cond_df rfl (by with_reducible rfl) (by assumption) ?_))
                  refine aq_nils 2 1 (by omega) rfl fun ss => aq_retm2 (by exact .inr rfl) rfl (ss, 0) trivial rfl (.cons _ _ _ _ (.nil R)) (by (try dsimp only); (repeat (first | with_reducible exact Pick.refl _ | (apply Pick.consE; (repeat (with_reducible exact DelS.head _)); ((focus (simp [intR, nts]; done)))) | ((fail_if_success (apply Pick.consE)); refine Pick.drop ?_)))) (.tmp _ _ rfl) (.tmp _ _ rfl) rfl
          · rw [List.drop_of_length_le (by omega)] at hpu
            rw [← hpu] at hfl
            dsimp only [pushS] at hfl
            repeat' (first | with_reducible refine al_none rfl ?_ | ((with_reducible first | apply o_move | apply o_assign); rfl; rfl) | ((with_reducible apply o_len_ms); rfl; rfl; kernel_rfl) | ((with_reducible apply o_lss); rfl; rfl; rfl) | ((with_reducible apply o_add); rfl; rfl; rfl; (((with_reducible refine w_n1 ?_); omega))) | with_reducible refine aw_seq ?_ | with_reducible refine aw_region ?_ | with_reducible refine al_nil ?_ | with_reducible refine aq_then ?_ | with_reducible refine aw_exit ?_ | with_reducible refine aq_block_hit ?_ | with_reducible refine aq_then_exit ?_ | with_reducible refine aq_block ?_ | (refine aw_cond_df rfl (by with_reducible rfl) (by first | assumption | omega) ?_))
            refine aq_round (k + 1, ds', td ++ new, bt', j) ⟨by simp; omega, by dsimp only; omega, ?_, ?_⟩ (by dsimp only; omega) (.of _ (by repeat (first | exact Weak.envNil | refine Weak.envCons (by first | rfl | exact lk_ms rfl (by (simp; done))) ?_)) (by repeat (first | exact Weak.envNil | refine Weak.envCons rfl ?_)) (by (try dsimp only); (repeat (first | with_reducible exact Pick.refl _ | (apply Pick.consE; (repeat (first | with_reducible exact DelS.head _ | with_reducible apply DelS.tail)); (with_reducible rfl)) | ((fail_if_success (apply Pick.consE)); refine Pick.drop ?_)))))
            · dsimp only
              rw [List.drop_append_of_le_length (by omega)]
              exact hst1 ds' new hpu.symm
            · dsimp only
              rw [List.drop_append_of_le_length (by omega)]; exact hfl
      · rw [List.drop_eq_nil_of_le (by omega)] at hfl
        have hd : depthsS is = some ds := by rw [← hfl]; simp [flow]
        have hdl := hD.len
        rw [hd]
        repeat' (first | with_reducible refine al_none rfl ?_ | ((with_reducible first | apply o_move | apply o_assign); rfl; rfl) | ((with_reducible apply o_len_ms); rfl; rfl; kernel_rfl) | ((with_reducible apply o_lss); rfl; rfl; rfl) | with_reducible refine aw_seq ?_ | with_reducible refine aw_region ?_ | with_reducible refine al_nil ?_ | with_reducible refine aq_then ?_ | with_reducible refine aw_exit ?_ | with_reducible refine aw_ret ?_ | with_reducible refine aq_block_hit ?_ | with_reducible refine aq_then_exit ?_ | (refine aw_cond_df rfl (by with_reducible rfl) (by first | assumption | omega) ?_))
        refine aq_retm2 (by exact .inr rfl) rfl (sd, bd) trivial rfl (.cons _ _ _ _ (.nil R)) (by (try dsimp only); (repeat (first | with_reducible exact Pick.refl _ | (apply Pick.consE; (repeat (first | with_reducible exact DelS.head _ | with_reducible apply DelS.tail)); ((focus (simp [intR, nts]; done)))) | ((fail_if_success (apply Pick.consE)); refine Pick.drop ?_)))) (.tmp _ _ rfl) (.tmp _ _ rfl) (by simp [dR, hdl])
end Go.Proofs.YtfchjaoeogolnaaGreatDoor
/- StackDepths by the engine: the reference's StackDepths, given l16Depths. -/
namespace Go.Proofs.YtfchjaoeogolnaaGreatDoor
open Go Go.RowKit
theorem l1In_ct {G : World → Prop} (n a b : Int) : Ct Tryz.prog G 61 [.int .i64 n, .int .i64 a, .int .i64 b] (fun _ => .bool (inR n a b)) := by
  refine ct_enter Tryz.func61 rfl Tryz.ntmps61 rfl rfl fun w0 _ hG => ?_
  repeat' (first | with_reducible refine al_none rfl ?_ | ((with_reducible first | apply o_move | apply o_assign); rfl; rfl) | ((with_reducible apply o_pick_t); rfl; rfl; (with_reducible rfl); rfl) | ((with_reducible apply o_pick_f); rfl; rfl; (with_reducible rfl); rfl) | ((with_reducible first | apply o_leq | apply o_geq); rfl; rfl; rfl) | with_reducible refine aw_seq ?_ | with_reducible refine aw_region ?_ | with_reducible refine al_nil ?_ | with_reducible refine aq_then ?_ | with_reducible refine aw_ret ?_ | refine al_run rfl rfl rfl (by with_reducible rfl) ?_ | refine al_skip rfl rfl rfl (by with_reducible rfl) rfl rfl rfl ?_ | (refine al_gsplit rfl rfl rfl (by with_reducible rfl) (fun hg => ?_) (fun hg => ?_)))
  all_goals
    refine aq_ret1 (by exact .inr rfl) rfl (.tmp _ _ rfl) (fun _ => ?_)
    refine fin_bool ?_
    simp only [inR]
    first | (rw [decide_eq_decide]; omega) | (symm; rw [decide_eq_false_iff_not]; omega)
theorem within_ct {G : World → Prop} (n a b : Int) : Ct Tryz.prog G 63 [.int .i64 n, .int .i64 a, .int .i64 b] (fun _ => .bool (inR n a b)) := by
  refine ct_enter Tryz.func63 rfl Tryz.ntmps63 rfl rfl fun w0 _ hG => ?_
  repeat' (first | with_reducible refine al_none rfl ?_ | ((with_reducible first | apply o_move | apply o_assign); rfl; rfl) | ((with_reducible apply o_pick_t); rfl; rfl; (with_reducible rfl); rfl) | ((with_reducible apply o_pick_f); rfl; rfl; (with_reducible rfl); rfl) | ((with_reducible first | apply o_leq | apply o_geq); rfl; rfl; rfl) | with_reducible refine aw_seq ?_ | with_reducible refine aw_region ?_ | with_reducible refine al_nil ?_ | with_reducible refine aq_then ?_ | with_reducible refine aw_ret ?_ | refine al_run rfl rfl rfl (by with_reducible rfl) ?_ | refine al_skip rfl rfl rfl (by with_reducible rfl) rfl rfl rfl ?_ | (refine al_gsplit rfl rfl rfl (by with_reducible rfl) (fun hg => ?_) (fun hg => ?_)))
  all_goals
    refine aq_ret1 (by exact .inr rfl) rfl (.tmp _ _ rfl) (fun _ => ?_)
    refine fin_bool ?_
    simp only [inR]
    first | (rw [decide_eq_decide]; omega) | (symm; rw [decide_eq_false_iff_not]; omega)
/-- Which parts an operation has. -/
def useA (op : Int) : Bool := decide (op = 1 ∨ op = 12 ∨ op = 15 ∨ op = 20 ∨ op = 8 ∨ op = 9 ∨ op = 21 ∨ op = 22 ∨ op = 25 ∨ op = 26 ∨ op = 14)
def useB (op : Int) : Bool := decide (op = 8 ∨ op = 9 ∨ op = 21 ∨ op = 22 ∨ op = 25 ∨ op = 26 ∨ op = 24)
def useT (op : Int) : Bool := decide (op = 2 ∨ op = 3 ∨ op = 10 ∨ op = 11 ∨ op = 13 ∨ op = 14)
set_option maxHeartbeats 2000000 in
theorem l14Uses_ct {G : World → Prop} (op : Int) : Ct Tryz.prog G 136 [.int .i64 op] (fun _ => .tup [.bool (useA op), .bool (useB op), .bool (useT op)]) := by
  refine ct_enter Tryz.func136 rfl Tryz.ntmps136 rfl rfl fun w0 _ hG => ?_
  repeat' (first | with_reducible refine al_none rfl ?_ | ((with_reducible first | apply o_move | apply o_assign); rfl; rfl) | ((with_reducible apply o_eql); rfl; rfl; rfl) | with_reducible refine aw_seq ?_ | with_reducible refine aw_region ?_ | with_reducible refine al_nil ?_ | with_reducible refine aq_then ?_ | with_reducible refine aw_block ?_ | with_reducible refine aw_skip ?_ | with_reducible refine aw_ret ?_ | with_reducible refine aq_then_ret ?_ | with_reducible refine aq_block_ret ?_ | with_reducible refine aq_block ?_ | (refine aw_cond_dt rfl (by with_reducible rfl) (by assumption) ?_) | (refine aw_cond rfl (by with_reducible rfl) (fun hc => ?_) (fun hc => ?_)))
  all_goals
    refine aq_ret3 (by exact .inr rfl) rfl (.tmp _ _ rfl) (.tmp _ _ rfl) (.tmp _ _ rfl) (fun _ => ?_) (fun _ => ?_) (fun _ => ?_)
    all_goals
      refine fin_bool ?_
      simp only [useA, useB, useT]
      symm
      first | (rw [decide_eq_true_iff]; omega) | (rw [decide_eq_false_iff_not]; omega)
end Go.Proofs.YtfchjaoeogolnaaGreatDoor
/- The built-in classes of the program (builtinInfos). -/
namespace Go.Proofs.YtfchjaoeogolnaaGreatDoor
open Go Go.RowKit
theorem builtin_cases {i : Nat} {x : TClassInfo} (hx : builtinL[i]? = some x) : ((i = 0 → x.parent = -1) ∧ (i = 2 → x.parent = 1) ∧ (i = 3 → x.parent = 2) ∧ (i = 4 → x.parent = 2) ∧ (i ≠ 0 → i ≠ 2 → i ≠ 3 → i ≠ 4 → x.parent = 0)) ∧ (i < 16) := by
  have hi : i < 16 := by
    have := (List.getElem?_eq_some_iff.1 hx).1
    rwa [builtin_len] at this
  refine ⟨?_, hi⟩
  match i, hi, hx with
  | 0, _, hx => cases hx; simp
  | 1, _, hx => cases hx; simp
  | 2, _, hx => cases hx; simp
  | 3, _, hx => cases hx; simp
  | 4, _, hx => cases hx; simp
  | 5, _, hx => cases hx; simp
  | 6, _, hx => cases hx; simp
  | 7, _, hx => cases hx; simp
  | 8, _, hx => cases hx; simp
  | 9, _, hx => cases hx; simp
  | 10, _, hx => cases hx; simp
  | 11, _, hx => cases hx; simp
  | 12, _, hx => cases hx; simp
  | 13, _, hx => cases hx; simp
  | 14, _, hx => cases hx; simp
  | 15, _, hx => cases hx; simp
  | n + 16, h, _ => omega
/-- No fields: a nil slice. -/
def fieldsN (lo : Nat) : List ByteArray → TV
  | [] => .nils
  | a :: l => .sl lo 1 (strR (a :: l))
def TClassInfo.twN (lo : Nat) (x : TClassInfo) : List TV := [.str x.name, .int .i64 x.parent, fieldsN lo x.fields]
theorem fieldsN_fin (B K : Nat) (objs : Objs) : ∀ l : List ByteArray, Fin B objs K (fieldsN B l) (.sl K 1 (strR l))
  | [] => .nils 1
  | a :: l => fin_sl (f := fun s : ByteArray => [TV.str s]) (f' := fun s : ByteArray => [TV.str s]) (fun x => .cons (.flat rfl) .nil) (a :: l)
theorem TClassInfo.finN (B K : Nat) (objs : Objs) (x : TClassInfo) : FinL B objs K (x.twN B) (x.tw K) := .cons (.flat rfl) (.cons (.flat rfl) (.cons (fieldsN_fin B K objs x.fields) .nil))
section
variable {G : World → Prop}
theorem builtinInfos_ct (hst : Stable G) : Ct Tryz.prog G 114 [] (fun K => .sl K 3 (builtinL.map (TClassInfo.tw K))) := by
  refine ct_enter Tryz.func114 rfl Tryz.ntmps114 rfl rfl fun w0 _ hG => ?_
  have hlen : (strR builtinNames).length = 16 := rfl
  have hbl : builtinNames.length = 16 := rfl
  repeat' (first | with_reducible refine al_none rfl ?_ | ((with_reducible first | apply o_move | apply o_assign); rfl; rfl) | ((with_reducible apply o_len_sl); rfl; rfl; kernel_rfl; (exact List.length_map _)) | ((with_reducible apply o_call); rfl; kernel_rfl; (repeat (exact Args.nil)); exact hG; exact hst; exact implBuiltin_ct) | ((with_reducible apply o_own); rfl; rfl; kernel_rfl; kernel_rfl; rfl; kernel_rfl; rfl; rfl; rfl; rfl; intro ss bb) | with_reducible refine aw_seq ?_ | with_reducible refine aw_region ?_ | with_reducible refine al_nil ?_ | with_reducible refine aq_then ?_ | with_reducible refine aw_block ?_)
  apply aw_loopk (X := Nat × Nat) [6, 7] (fun x => [(8, .int .i64 (x.1 : Int)), (1, .ms ss x.2 0 x.1)]) (fun x => [(ss, x.2, .row 3 ((builtinL.take x.1).map (TClassInfo.twN w0.heap.size)))]) (fun x => x.1 ≤ 16) (fun x => 16 - x.1) (0, bb) (Nat.zero_le _)
  (repeat (first | exact Kept.nil | (apply Kept.cons; rfl))); (repeat (first | exact Weak.envNil | refine Weak.envCons (by rfl) ?_))
  · exact .refl _
  rintro ⟨i, b⟩ hi
  dsimp only at hi ⊢
  by_cases hlt : i < 16
  · obtain ⟨x, hx, h1, _, h3, h4⟩ := builtin_at hlt
    obtain ⟨hp, _⟩ := builtin_cases hx
    have hle : ((builtinL.take i).map (TClassInfo.twN w0.heap.size)).length = i := by rw [List.length_map, List.length_take, builtin_len]; omega
    by_cases hf : 1 ≤ i ∧ i ≤ 4
    · have hin : inR (i : Int) 1 4 = true := by unfold inR; simp; omega
      have hw : Ct Tryz.prog G 63 [.int .i64 i, .int .i64 1, .int .i64 4] (fun _ => .bool true) := by rw [← hin]; exact within_ct _ _ _
      have hbf : bfields (i : Int) = [⟨#[116, 101, 120, 116]⟩] := if_pos (by omega)
      rw [hbf] at h3
      have hrow : ∀ p : Int, p = x.parent → (builtinL.take i).map (TClassInfo.twN w0.heap.size) ++ [[TV.str x.name, .int .i64 p, .sl w0.heap.size 1 [[TV.str ⟨#[116, 101, 120, 116]⟩]]]] = (builtinL.take (i + 1)).map (TClassInfo.twN w0.heap.size) := fun p h => by
        rw [h4, List.map_append, h]; show _ ++ _ = _ ++ [[_, _, fieldsN w0.heap.size x.fields]]; rw [← h3]; rfl
      clear h4
      repeat' (first | with_reducible refine al_none rfl ?_ | ((with_reducible first | apply o_move | apply o_assign); rfl; rfl) | ((with_reducible apply o_pick_t); rfl; rfl; (with_reducible rfl); rfl) | ((with_reducible apply o_pick_f); rfl; rfl; (with_reducible rfl); rfl) | ((with_reducible apply o_load_cp); rfl; rfl; kernel_rfl; rfl; rfl) | ((with_reducible apply o_fieldAddr); rfl; rfl; kernel_rfl; rfl) | ((with_reducible apply o_indexAddr); rfl; rfl; rfl; kernel_rfl; kernel_rfl; kernel_rfl; rfl; ((with_reducible exact rfl)); ((with_reducible assumption))) | ((with_reducible first | apply o_eql | apply o_lss); rfl; rfl; rfl) | ((with_reducible apply o_add); rfl; rfl; rfl; (((with_reducible refine w_n1 ?_); omega))) | ((with_reducible apply o_load_agg_mp); rfl; rfl; kernel_rfl; kernel_rfl; kernel_rfl; rfl; (repeat (with_reducible exact mh)); (exact .succ _ _ _ _ (.succ _ _ _ _ (.succ _ _ _ _ (.zero _))))) | ((with_reducible apply o_alloc); rfl; rfl; kernel_rfl; intro ss bb) | ((with_reducible apply o_build); rfl; rfl; (repeat (first | exact TB.nil _ | ((with_reducible apply TB.cons); rfl; rfl; (exact .put _ _ _ _ _ (.nil _)); kernel_rfl))); kernel_rfl; kernel_rfl) | ((with_reducible apply o_store_mp); rfl; rfl; rfl; kernel_rfl; (repeat (with_reducible exact mh)); (first | exact .skip _ _ _ _ _ (.put _ _ _ _ _ (.nil _)) | exact .skip _ _ _ _ _ (.skip _ _ _ _ _ (.put _ _ _ _ _ (.nil _))) | (repeat (first | exact .nil _ | apply Splice.put))); (repeat (with_reducible exact Upd.head _)); kernel_rfl) | ((with_reducible apply o_call); rfl; kernel_rfl; (repeat (first | exact Args.nil | ((with_reducible apply Args.cons); rfl; exact .same _))); exact hG; exact hst; exact hw) | ((with_reducible apply o_lit); rfl; rfl; kernel_rfl; kernel_rfl; rfl; kernel_rfl; rfl; rfl; rfl; rfl) | ((with_reducible apply o_append); rfl; rfl; rfl; kernel_rfl; (repeat (first | with_reducible exact mh | with_reducible refine mt ?_)); (with_reducible assumption); ((show List.length _ = 1; rfl)); omega; rfl; (intro bq; (repeat (first | with_reducible exact Upd.head _ | with_reducible apply Upd.tail))); intro bb) | with_reducible refine aw_seq ?_ | with_reducible refine aw_region ?_ | with_reducible refine al_nil ?_ | with_reducible refine aq_then ?_ | with_reducible refine aw_block ?_ | with_reducible refine aw_skip ?_ | with_reducible refine aq_block ?_ | refine al_run rfl rfl rfl (by with_reducible rfl) ?_ | refine al_skip rfl rfl rfl (by with_reducible rfl) rfl rfl rfl ?_ | (refine al_gsplit rfl rfl rfl (by with_reducible rfl) (fun hg => ?_) (fun hg => ?_)) | refine aw_cond_t rfl (by with_reducible rfl) ?_ | (refine aw_cond_dt rfl (by with_reducible rfl) (by first | assumption | omega) ?_) | (refine aw_cond_df rfl (by with_reducible rfl) (by first | assumption | omega) ?_) | (refine aw_cond rfl (by with_reducible rfl) (fun hc => ?_) (fun hc => ?_)))
      all_goals
        rw [hrow]
        · exact aq_round (i + 1, bb) (by dsimp only; omega) (by dsimp only; omega) (.of _ (by repeat (first | exact Weak.envNil | refine Weak.envCons (by rfl) ?_)) (by repeat (first | exact Weak.envNil | refine Weak.envCons rfl ?_)) (by (try dsimp only); (repeat (first | with_reducible exact Pick.nil _ | (apply Pick.consE; (repeat (first | with_reducible exact DelS.head _ | with_reducible apply DelS.tail)); (with_reducible rfl))))))
        · omega
    · have hin : inR (i : Int) 1 4 = false := by unfold inR; simp; omega
      have hw : Ct Tryz.prog G 63 [.int .i64 i, .int .i64 1, .int .i64 4] (fun _ => .bool false) := by rw [← hin]; exact within_ct _ _ _
      have hbf : bfields (i : Int) = [] := if_neg (by omega)
      rw [hbf] at h3
      have hrow : ∀ p : Int, p = x.parent → (builtinL.take i).map (TClassInfo.twN w0.heap.size) ++ [[TV.str x.name, .int .i64 p, .nils]] = (builtinL.take (i + 1)).map (TClassInfo.twN w0.heap.size) := fun p h => by
        rw [h4, List.map_append, h]; show _ ++ _ = _ ++ [[_, _, fieldsN w0.heap.size x.fields]]; rw [← h3]; rfl
      clear h4
      repeat' (first | with_reducible refine al_none rfl ?_ | ((with_reducible first | apply o_move | apply o_assign); rfl; rfl) | ((with_reducible apply o_pick_f); rfl; rfl; (with_reducible rfl); rfl) | ((with_reducible apply o_load_cp); rfl; rfl; kernel_rfl; rfl; rfl) | ((with_reducible apply o_fieldAddr); rfl; rfl; kernel_rfl; rfl) | ((with_reducible apply o_indexAddr); rfl; rfl; rfl; kernel_rfl; kernel_rfl; kernel_rfl; rfl; ((with_reducible exact rfl)); ((with_reducible assumption))) | ((with_reducible first | apply o_eql | apply o_lss); rfl; rfl; rfl) | ((with_reducible apply o_add); rfl; rfl; rfl; (((with_reducible refine w_n1 ?_); omega))) | ((with_reducible apply o_load_agg_mp); rfl; rfl; kernel_rfl; kernel_rfl; kernel_rfl; rfl; (repeat (with_reducible exact mh)); (exact .succ _ _ _ _ (.succ _ _ _ _ (.succ _ _ _ _ (.zero _))))) | ((with_reducible apply o_alloc); rfl; rfl; kernel_rfl; intro ss bb) | ((with_reducible apply o_build); rfl; rfl; (repeat (first | exact TB.nil _ | ((with_reducible apply TB.cons); rfl; rfl; (exact .put _ _ _ _ _ (.nil _)); kernel_rfl))); kernel_rfl; kernel_rfl) | ((with_reducible apply o_store_mp); rfl; rfl; rfl; kernel_rfl; (repeat (with_reducible exact mh)); (first | exact .skip _ _ _ _ _ (.put _ _ _ _ _ (.nil _)) | (repeat (first | exact .nil _ | apply Splice.put))); (repeat (with_reducible exact Upd.head _)); kernel_rfl) | ((with_reducible apply o_call); rfl; kernel_rfl; (repeat (first | exact Args.nil | ((with_reducible apply Args.cons); rfl; exact .same _))); exact hG; exact hst; exact hw) | ((with_reducible apply o_lit); rfl; rfl; kernel_rfl; kernel_rfl; rfl; kernel_rfl; rfl; rfl; rfl; rfl) | ((with_reducible apply o_append); rfl; rfl; rfl; kernel_rfl; (repeat (first | with_reducible exact mh | with_reducible refine mt ?_)); (with_reducible assumption); ((show List.length _ = 1; rfl)); omega; rfl; (intro bq; (repeat (first | with_reducible exact Upd.head _ | with_reducible apply Upd.tail))); intro bb) | with_reducible refine aw_seq ?_ | with_reducible refine aw_region ?_ | with_reducible refine al_nil ?_ | with_reducible refine aq_then ?_ | with_reducible refine aw_block ?_ | with_reducible refine aw_skip ?_ | with_reducible refine aq_block ?_ | refine al_run rfl rfl rfl (by with_reducible rfl) ?_ | (refine al_gf rfl rfl rfl (by with_reducible rfl) (by first | assumption | omega) ?_) | refine aw_cond_f rfl (by with_reducible rfl) ?_ | (refine aw_cond_dt rfl (by with_reducible rfl) (by first | assumption | omega) ?_) | (refine aw_cond_df rfl (by with_reducible rfl) (by first | assumption | omega) ?_) | (refine aw_cond rfl (by with_reducible rfl) (fun hc => ?_) (fun hc => ?_)))
      all_goals
        rw [hrow]
        · exact aq_round (i + 1, bb) (by dsimp only; omega) (by dsimp only; omega) (.of _ (by repeat (first | exact Weak.envNil | refine Weak.envCons (by rfl) ?_)) (by repeat (first | exact Weak.envNil | refine Weak.envCons rfl ?_)) (by (try dsimp only); (repeat (first | with_reducible exact Pick.nil _ | (apply Pick.consE; (repeat (first | with_reducible exact DelS.head _ | with_reducible apply DelS.tail)); (with_reducible rfl))))))
        · omega
  · obtain rfl : i = 16 := by omega
    repeat' (first | with_reducible refine al_none rfl ?_ | ((with_reducible first | apply o_move | apply o_assign); rfl; rfl) | ((with_reducible apply o_lss); rfl; rfl; rfl) | with_reducible refine aw_seq ?_ | with_reducible refine aw_region ?_ | with_reducible refine al_nil ?_ | with_reducible refine aq_then ?_ | with_reducible refine aw_exit ?_ | with_reducible refine aw_ret ?_ | with_reducible refine aq_block_hit ?_ | with_reducible refine aq_then_exit ?_ | (refine aw_cond_df rfl (by with_reducible rfl) (by first | assumption | omega) ?_))
    refine aq_ret1 (by exact .inr rfl) rfl (.tmp _ _ rfl) (fun _ => ?_)
    exact fin_ms (f' := TClassInfo.tw _) (fun x => TClassInfo.finN _ _ _ x) List.mem_cons_self
end
end Go.Proofs.YtfchjaoeogolnaaGreatDoor
