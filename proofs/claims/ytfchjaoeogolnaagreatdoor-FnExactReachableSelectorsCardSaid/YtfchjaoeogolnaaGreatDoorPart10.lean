/- Part 10 of the proof: the texts RsA, RsB, RsC, IvF, EngL, EngN, IvT. -/
import Derived.Test.YtfchjaoeogolnaaGreatDoorPart9
import Derived.Test.YtfchjaoeogolnaaGreatDoorPart8
import Derived.Test.YtfchjaoeogolnaaGreatDoorPart7
/- ReachableSelectors of the reference: its state (l28Code, l28Selector, l28Scan). -/
namespace Go.Proofs.YtfchjaoeogolnaaGreatDoor
open Go Go.RowKit
def boolR (l : List Bool) : List (List TV) := l.map fun b => [TV.bool b]
theorem boolR_len (l : List Bool) : (boolR l).length = l.length := by simp [boolR]
theorem boolR_get {l : List Bool} {k : Nat} (h : k < l.length) : (boolR l)[k]? = some [.bool (gb l k)] := by
  simp only [boolR, List.getElem?_map]
  rw [gb_get h]; rfl
theorem boolR_set (l : List Bool) (k : Nat) (b : Bool) : (boolR l).set k [.bool b] = boolR (l.set k b) := by simp [boolR, List.map_set]
theorem metS_t {s : RS} {k : Int} (h : gb s.met k = true) : metS s k = s := by
  unfold metS; rw [if_pos h]
theorem metS_f {s : RS} {k : Int} (h : gb s.met k = false) : metS s k = ⟨s.met.set k.toNat true, s.out, s.todo ++ [k]⟩ := by
  unfold metS; rw [if_neg (by rw [h]; decide)]
/-- The state's box, and the rows that it holds. -/
def stB (sc bc n so bo no : Nat) (any : Bool) (st bt p t : Nat) : TObj := .box [.ms sc bc 0 n, .ms so bo 0 no, .bool any, .ms st bt p t]
section
variable {G : World → Prop}
theorem l28Code_ctm (s b sc bc so bo no st bt : Nat) (any : Bool) (S : RS) (pre : List (List TV)) (j n : Nat) (hn : S.met.length = n) (hj : j < n) (ht : S.todo.length ≤ 1000) :
    CtM Tryz.prog G 73 [.mp s b 0, .int .i64 (j : Int)] [(s, b, stB sc bc n so bo no any st bt pre.length S.todo.length), (sc, bc, .row 1 (boolR S.met)), (st, bt, .row 1 (pre ++ intR S.todo))]
      (fun _ : Nat × List (List TV) => True) (fun y => [(s, b, stB sc bc n so bo no any st y.1 y.2.length (metS S j).todo.length), (sc, bc, .row 1 (boolR (metS S j).met)), (st, y.1, .row 1 (y.2 ++ intR (metS S j).todo))]) (fun _ => .tup []) := by
  refine ctm_enter Tryz.func73 rfl Tryz.ntmps73 rfl rfl rfl fun w0 R gs objsR hG hR => ?_
  obtain rfl := hR.inv3
  clear hR
  have hrow := boolR_get (l := S.met) (k := j) (by omega)
  have hml := boolR_len S.met
  have hset := boolR_set S.met j true
  have htl := intR_length S.todo
  have hlive : ((pre ++ intR S.todo).drop pre.length).take S.todo.length = intR S.todo := by
    rw [List.drop_left, List.take_of_length_le (by omega)]
  have hlen : pre.length + S.todo.length ≤ (pre ++ intR S.todo).length := by rw [List.length_append, htl]; omega
  unfold stB
  cases hg : gb S.met j with
  | true =>
    rw [metS_t hg]
    rw [hg] at hrow
    repeat' (first | with_reducible refine al_none rfl ?_ | ((with_reducible first | apply o_move | apply o_nilCheck_cp); rfl; rfl) | ((with_reducible apply o_load_me); rfl; rfl; kernel_rfl; rfl; (repeat (first | with_reducible exact mh | with_reducible refine mt ?_)); ((with_reducible assumption)); rfl) | ((with_reducible apply o_load_mp); rfl; rfl; kernel_rfl; rfl; (repeat (with_reducible exact mh)); rfl) | ((with_reducible apply o_fieldAddr); rfl; rfl; kernel_rfl; rfl) | ((with_reducible apply o_indexAddr_ms); rfl; rfl; rfl; (repeat (first | with_reducible exact mh | with_reducible refine mt ?_)); kernel_rfl; kernel_rfl; kernel_rfl; ((with_reducible exact rfl)); (assumption); (with_reducible exact Nat.zero_add _)) | ((with_reducible apply o_not_t); rfl; rfl; (with_reducible rfl)) | ((with_reducible apply o_nilCheck_mp); rfl; rfl; (repeat (with_reducible exact mh))) | with_reducible refine aw_seq ?_ | with_reducible refine aw_region ?_ | with_reducible refine al_nil ?_ | with_reducible refine aq_then ?_ | with_reducible refine aw_skip ?_ | refine aw_cond_f rfl (by with_reducible rfl) ?_)
    exact aq_retm0 (by exact .inl rfl) rfl (bt, pre) trivial rfl (.cons _ _ _ _ (.cons _ _ _ _ (.cons _ _ _ _ (.nil R)))) (.refl _) rfl
  | false =>
    rw [metS_f hg]
    rw [hg] at hrow
    repeat' (first | with_reducible refine al_none rfl ?_ | ((with_reducible first | apply o_move | apply o_nilCheck_cp); rfl; rfl) | ((with_reducible apply o_load_me); rfl; rfl; kernel_rfl; rfl; (repeat (first | with_reducible exact mh | with_reducible refine mt ?_)); ((with_reducible assumption)); rfl) | ((with_reducible apply o_load_mp); rfl; rfl; kernel_rfl; rfl; (repeat (with_reducible exact mh)); rfl) | ((with_reducible apply o_fieldAddr); rfl; rfl; kernel_rfl; rfl) | ((with_reducible apply o_indexAddr_ms); rfl; rfl; rfl; (repeat (first | with_reducible exact mh | with_reducible refine mt ?_)); kernel_rfl; kernel_rfl; kernel_rfl; ((with_reducible exact rfl)); (assumption); (with_reducible exact Nat.zero_add _)) | ((with_reducible apply o_not_f); rfl; rfl; (with_reducible rfl)) | ((with_reducible apply o_nilCheck_mp); rfl; rfl; (repeat (with_reducible exact mh))) | ((with_reducible apply o_store_me); rfl; rfl; rfl; kernel_rfl; (repeat (first | with_reducible exact mh | with_reducible refine mt ?_)); ((with_reducible assumption)); (exact .put _ _ _ _ _ (.nil _)); kernel_rfl; rfl; (repeat (first | with_reducible exact Upd.head _ | with_reducible apply Upd.tail))) | ((with_reducible apply o_store_mp); rfl; rfl; rfl; kernel_rfl; (repeat (with_reducible exact mh)); ((repeat (first | exact .nil _ | apply Splice.put | apply Splice.skip))); (repeat (with_reducible exact Upd.head _)); kernel_rfl) | ((with_reducible apply o_lit); rfl; rfl; kernel_rfl; kernel_rfl; rfl; kernel_rfl; rfl; rfl; rfl; rfl) | ((with_reducible apply o_append_q); rfl; rfl; rfl; kernel_rfl; (repeat (first | with_reducible exact mh | with_reducible refine mt ?_)); (with_reducible assumption); (assumption); ((show List.length _ = 1; rfl)); omega; (intro bq pq; (repeat (first | with_reducible exact Upd.head _ | with_reducible apply Upd.tail))); intro bb pp) | with_reducible refine aw_seq ?_ | with_reducible refine aw_region ?_ | with_reducible refine al_nil ?_ | with_reducible refine aq_then ?_ | refine aw_cond_t rfl (by with_reducible rfl) ?_)
    rw [hset]
    refine aq_retm0 (by exact .inl rfl) rfl (bb, pp) trivial rfl (.cons _ _ _ _ (.cons _ _ _ _ (.cons _ _ _ _ (.nil R)))) (by (try dsimp only); (repeat (first | with_reducible exact Pick.refl _ | (apply Pick.consE; (repeat (with_reducible exact DelS.head _)); ((focus (simp [intR, nts]; done))))))) rfl
theorem strR_snoc' (l : List ByteArray) (t : ByteArray) : strR l ++ [[TV.str t]] = strR (l ++ [t]) := by simp [strR]
theorem l28Selector_ctm (hst : Stable G) (s b sc bc n so bo st bt p td : Nat) (out : List ByteArray) (t : ByteArray) (hn : out.length ≤ 1000000) :
    CtM Tryz.prog G 111 [.mp s b 0, .str t] [(s, b, stB sc bc n so bo out.length (hasS out asyB) st bt p td), (so, bo, .row 1 (strR out))]
      (fun _ : Nat => True) (fun y => [(s, b, stB sc bc n so y (outS out t).length (hasS (outS out t) asyB) st bt p td), (so, y, .row 1 (strR (outS out t)))]) (fun _ => .tup []) := by
  refine ctm_enter Tryz.func111 rfl Tryz.ntmps111 rfl rfl rfl fun w0 R gs objsR hG hR => ?_
  obtain rfl := hR.inv2
  clear hR
  have hsl := strR_len out
  have hhas := l1Has_ct (G := G) 0 out t (by omega)
  have hany := hasS_outS out t
  have hsn := strR_snoc' out t
  have hol : (out ++ [t]).length = out.length + 1 := by simp
  unfold stB
  cases hb : hasS out t with
  | true =>
    have ho : outS out t = out := by unfold outS; rw [if_pos hb]
    rw [ho] at hany ⊢
    rw [hb] at hhas
    by_cases ht : t = ⟨#[97, 115, 83, 121, 109, 98, 111, 108]⟩
    · rw [show decide (t = asyB) = true from decide_eq_true ht, Bool.or_true] at hany
      rw [hany]
      repeat' (first | with_reducible refine al_none rfl ?_ | ((with_reducible first | apply o_move | apply o_nilCheck_cp); rfl; rfl) | ((with_reducible apply o_load_mp); rfl; rfl; kernel_rfl; rfl; (repeat (with_reducible exact mh)); rfl) | ((with_reducible apply o_fieldAddr); rfl; rfl; kernel_rfl; rfl) | ((with_reducible apply o_not_t); rfl; rfl; (with_reducible rfl)) | ((with_reducible apply o_eql_s); rfl; rfl; rfl) | ((with_reducible apply o_nilCheck_mp); rfl; rfl; (repeat (with_reducible exact mh))) | ((with_reducible apply o_callV); rfl; kernel_rfl; exact hG; exact hst; exact hhas; (repeat (first | exact Args.nil | ((with_reducible apply Args.cons); rfl; (first | with_reducible exact View.same _ | ((with_reducible apply View.msAll); (repeat (first | with_reducible exact mh | with_reducible refine mt ?_)); (with_reducible assumption))))))) | ((with_reducible apply o_store_mp); rfl; rfl; rfl; kernel_rfl; (repeat (with_reducible exact mh)); (exact .skip _ _ _ _ _ (.skip _ _ _ _ _ (.put _ _ _ _ _ (.nil _)))); (repeat (with_reducible exact Upd.head _)); kernel_rfl) | with_reducible refine aw_seq ?_ | with_reducible refine aw_region ?_ | with_reducible refine al_nil ?_ | with_reducible refine aq_then ?_ | with_reducible refine aw_skip ?_ | refine aw_cond_f rfl (by with_reducible rfl) ?_ | (refine aw_cond_dt rfl (by with_reducible rfl) (by assumption) ?_))
      exact aq_retm0 (by exact .inl rfl) rfl bo trivial rfl (.cons _ _ _ _ (.cons _ _ _ _ (.nil R))) (by (try dsimp only); (repeat (with_reducible exact Pick.refl _))) rfl
    · repeat' (first | with_reducible refine al_none rfl ?_ | ((with_reducible first | apply o_move | apply o_nilCheck_cp); rfl; rfl) | ((with_reducible apply o_load_mp); rfl; rfl; kernel_rfl; rfl; (repeat (with_reducible exact mh)); rfl) | ((with_reducible apply o_fieldAddr); rfl; rfl; kernel_rfl; rfl) | ((with_reducible apply o_not_t); rfl; rfl; (with_reducible rfl)) | ((with_reducible apply o_eql_s); rfl; rfl; rfl) | ((with_reducible apply o_nilCheck_mp); rfl; rfl; (repeat (with_reducible exact mh))) | ((with_reducible apply o_callV); rfl; kernel_rfl; exact hG; exact hst; exact hhas; (repeat (first | exact Args.nil | ((with_reducible apply Args.cons); rfl; (first | with_reducible exact View.same _ | ((with_reducible apply View.msAll); (repeat (first | with_reducible exact mh | with_reducible refine mt ?_)); (with_reducible assumption))))))) | with_reducible refine aw_seq ?_ | with_reducible refine aw_region ?_ | with_reducible refine al_nil ?_ | with_reducible refine aq_then ?_ | with_reducible refine aw_skip ?_ | refine aw_cond_f rfl (by with_reducible rfl) ?_ | (refine aw_cond_df rfl (by with_reducible rfl) (by assumption) ?_))
      exact aq_retm0 (by exact .inl rfl) rfl bo trivial rfl (.cons _ _ _ _ (.cons _ _ _ _ (.nil R))) (by (try dsimp only); (repeat (with_reducible exact Pick.refl _))) rfl
  | false =>
    have ho : outS out t = out ++ [t] := by unfold outS; rw [if_neg (by rw [hb]; decide)]
    rw [ho] at hany ⊢
    rw [hb] at hhas
    by_cases ht : t = ⟨#[97, 115, 83, 121, 109, 98, 111, 108]⟩
    · rw [show decide (t = asyB) = true from decide_eq_true ht, Bool.or_true] at hany
      rw [hany, hol]
      repeat' (first | with_reducible refine al_none rfl ?_ | ((with_reducible first | apply o_move | apply o_nilCheck_cp); rfl; rfl) | ((with_reducible apply o_load_mp); rfl; rfl; kernel_rfl; rfl; (repeat (with_reducible exact mh)); rfl) | ((with_reducible apply o_fieldAddr); rfl; rfl; kernel_rfl; rfl) | ((with_reducible apply o_not_f); rfl; rfl; (with_reducible rfl)) | ((with_reducible apply o_eql_s); rfl; rfl; rfl) | ((with_reducible apply o_nilCheck_mp); rfl; rfl; (repeat (with_reducible exact mh))) | ((with_reducible apply o_callV); rfl; kernel_rfl; exact hG; exact hst; exact hhas; (repeat (first | exact Args.nil | ((with_reducible apply Args.cons); rfl; (first | with_reducible exact View.same _ | ((with_reducible apply View.msAll); (repeat (first | with_reducible exact mh | with_reducible refine mt ?_)); (with_reducible assumption))))))) | ((with_reducible apply o_store_mp); rfl; rfl; rfl; kernel_rfl; (repeat (with_reducible exact mh)); (first | exact .skip _ _ _ _ _ (.put _ _ _ _ _ (.nil _)) | exact .skip _ _ _ _ _ (.skip _ _ _ _ _ (.put _ _ _ _ _ (.nil _)))); (repeat (with_reducible exact Upd.head _)); kernel_rfl) | ((with_reducible apply o_lit); rfl; rfl; kernel_rfl; kernel_rfl; rfl; kernel_rfl; rfl; rfl; rfl; rfl) | ((with_reducible apply o_append); rfl; rfl; rfl; kernel_rfl; (repeat (first | with_reducible exact mh | with_reducible refine mt ?_)); (with_reducible assumption); ((show List.length _ = 1; rfl)); omega; rfl; (intro bq; (repeat (first | with_reducible exact Upd.head _ | with_reducible apply Upd.tail))); intro bb) | with_reducible refine aw_seq ?_ | with_reducible refine aw_region ?_ | with_reducible refine al_nil ?_ | with_reducible refine aq_then ?_ | refine aw_cond_t rfl (by with_reducible rfl) ?_ | (refine aw_cond_dt rfl (by with_reducible rfl) (by assumption) ?_))
      rw [hsn]
      exact aq_retm0 (by exact .inl rfl) rfl bb trivial rfl (.cons _ _ _ _ (.cons _ _ _ _ (.nil R))) (by (try dsimp only); (repeat (with_reducible exact Pick.refl _))) rfl
    · rw [show decide (t = asyB) = false from decide_eq_false ht, Bool.or_false] at hany
      rw [hany, hol]
      repeat' (first | with_reducible refine al_none rfl ?_ | ((with_reducible first | apply o_move | apply o_nilCheck_cp); rfl; rfl) | ((with_reducible apply o_load_mp); rfl; rfl; kernel_rfl; rfl; (repeat (with_reducible exact mh)); rfl) | ((with_reducible apply o_fieldAddr); rfl; rfl; kernel_rfl; rfl) | ((with_reducible apply o_not_f); rfl; rfl; (with_reducible rfl)) | ((with_reducible apply o_eql_s); rfl; rfl; rfl) | ((with_reducible apply o_nilCheck_mp); rfl; rfl; (repeat (with_reducible exact mh))) | ((with_reducible apply o_callV); rfl; kernel_rfl; exact hG; exact hst; exact hhas; (repeat (first | exact Args.nil | ((with_reducible apply Args.cons); rfl; (first | with_reducible exact View.same _ | ((with_reducible apply View.msAll); (repeat (first | with_reducible exact mh | with_reducible refine mt ?_)); (with_reducible assumption))))))) | ((with_reducible apply o_store_mp); rfl; rfl; rfl; kernel_rfl; (repeat (with_reducible exact mh)); (exact .skip _ _ _ _ _ (.put _ _ _ _ _ (.nil _))); (repeat (with_reducible exact Upd.head _)); kernel_rfl) | ((with_reducible apply o_lit); rfl; rfl; kernel_rfl; kernel_rfl; rfl; kernel_rfl; rfl; rfl; rfl; rfl) | ((with_reducible apply o_append); rfl; rfl; rfl; kernel_rfl; (repeat (first | with_reducible exact mh | with_reducible refine mt ?_)); (with_reducible assumption); ((show List.length _ = 1; rfl)); omega; rfl; (intro bq; (repeat (first | with_reducible exact Upd.head _ | with_reducible apply Upd.tail))); intro bb) | with_reducible refine aw_seq ?_ | with_reducible refine aw_region ?_ | with_reducible refine al_nil ?_ | with_reducible refine aq_then ?_ | with_reducible refine aw_skip ?_ | refine aw_cond_t rfl (by with_reducible rfl) ?_ | (refine aw_cond_df rfl (by with_reducible rfl) (by assumption) ?_))
      rw [hsn]
      exact aq_retm0 (by exact .inl rfl) rfl bb trivial rfl (.cons _ _ _ _ (.cons _ _ _ _ (.nil R))) (by (try dsimp only); (repeat (with_reducible exact Pick.refl _))) rfl
end
end Go.Proofs.YtfchjaoeogolnaaGreatDoor
/- ReachableSelectors of the reference: l28Scan, l28Reach. -/
namespace Go.Proofs.YtfchjaoeogolnaaGreatDoor
open Go Go.RowKit
theorem rs_small {b : TCodeBase} {n : Nat} {S : RS} (h : RsIn b n S) : S.todo.length ≤ 200 ∧ S.out.length ≤ 180000 := by
  have := h.room
  unfold RS.mu at this
  omega
theorem AppO.inv4 {x y z u : Nat × Nat × TObj} {R l : Objs} (h : AppO [x, y, z, u] R l) : l = x :: y :: z :: u :: R := h.eq.symm
section
variable {G : World → Prop}
set_option maxHeartbeats 1000000 in
theorem l28Scan_ctm (hst : Stable G) (s b sc bc so bo st bt f lo n : Nat) (B : TCodeBase) (hB : RsOk B) (hn : B.codes.length = n) (k : Int) (hk : 0 ≤ k ∧ k < B.codes.length) (S : RS) (hS : RsIn B (codeI B.codes k).length S) (pre : List (List TV)) :
    CtM Tryz.prog G 74 [.cp f [.sl lo 3 (B.classes.map (TClassInfo.tw lo)), .sl lo 4 (B.codes.map (TCode.tw lo)), .sl lo 4 (B.entries.map (TEntry.tw lo)), .int .i64 B.main], .mp s b 0, .int .i64 k]
      [(s, b, stB sc bc n so bo S.out.length (hasS S.out asyB) st bt pre.length S.todo.length), (sc, bc, .row 1 (boolR S.met)), (so, bo, .row 1 (strR S.out)), (st, bt, .row 1 (pre ++ intR S.todo))]
      (fun _ : Nat × Nat × List (List TV) => True) (fun y => [(s, b, stB sc bc n so y.1 (rsRow (codeI B.codes k) S).out.length (hasS (rsRow (codeI B.codes k) S).out asyB) st y.2.1 y.2.2.length (rsRow (codeI B.codes k) S).todo.length), (sc, bc, .row 1 (boolR (rsRow (codeI B.codes k) S).met)), (so, y.1, .row 1 (strR (rsRow (codeI B.codes k) S).out)), (st, y.2.1, .row 1 (y.2.2 ++ intR (rsRow (codeI B.codes k) S).todo))]) (fun _ => .tup []) := by
  refine ctm_enter Tryz.func74 rfl Tryz.ntmps74 rfl rfl rfl fun w0 R gs objsR hG hR => ?_
  obtain rfl := hR.inv4
  clear hR
  obtain ⟨hil, hio⟩ := codeI_ok hB hk
  have hin := rsRow_in (n := 0) hio (by rw [Nat.zero_add]; exact hS)
  have hsn := fun i (h : i < (codeI B.codes k).length) => rsRow_snoc h S
  have hz : S = rsRow ((codeI B.codes k).take 0) S := rfl
  have hrowc : (B.codes.map (TCode.tw lo))[k.toNat]? = some [.bool (B.codes[k.toNat]'(by omega)).block, .int .i64 (B.codes[k.toNat]'(by omega)).params, .int .i64 (B.codes[k.toNat]'(by omega)).slots, .sl lo 4 ((codeI B.codes k).map (TInstr.tw lo))] := by
    rw [tcode_row (by omega), codeI]
    rw [List.getElem?_eq_getElem (by omega)]
  generalize codeI B.codes k = is at hS hil hio hin hsn hz hrowc ⊢
  generalize (B.codes[k.toNat]'(by omega)).block = cb at hrowc
  generalize (B.codes[k.toNat]'(by omega)).params = cp at hrowc
  generalize (B.codes[k.toNat]'(by omega)).slots = cl at hrowc
  obtain ⟨kn, rfl⟩ : ∃ kn : Nat, k = kn := ⟨k.toNat, by omega⟩
  rw [Int.toNat_natCast] at hrowc
  repeat' (first | with_reducible refine al_none rfl ?_ | ((with_reducible apply o_assign); rfl; rfl) | with_reducible refine aw_seq ?_ | with_reducible refine aw_region ?_ | with_reducible refine al_nil ?_ | with_reducible refine aq_then ?_ | with_reducible refine aw_block ?_)
  apply aw_loopk (X := Nat × RS × Nat × Nat × List (List TV)) [0, 1, 2, 1000000] (fun x => [(6, .int .i64 (x.1 : Int))])
    (fun x => (s, b, stB sc bc n so x.2.2.1 x.2.1.out.length (hasS x.2.1.out asyB) st x.2.2.2.1 x.2.2.2.2.length x.2.1.todo.length) :: (sc, bc, .row 1 (boolR x.2.1.met)) :: (so, x.2.2.1, .row 1 (strR x.2.1.out)) :: (st, x.2.2.2.1, .row 1 (x.2.2.2.2 ++ intR x.2.1.todo)) :: R)
    (fun x => x.1 ≤ is.length ∧ x.2.1 = rsRow (is.take x.1) S) (fun x => is.length - x.1) (0, S, bo, bt, pre) ⟨Nat.zero_le _, hz⟩
  (repeat (first | exact Kept.nil | (apply Kept.cons; rfl))); (repeat (first | exact Weak.envNil | refine Weak.envCons (by rfl) ?_))
  · exact .refl _
  rintro ⟨i, T, bo, bt, pre⟩ ⟨hi, hT⟩
  dsimp only at hi hT ⊢
  obtain ⟨hTi, _⟩ := hin i hi
  rw [← hT] at hTi
  obtain ⟨hT1, hT2⟩ := rs_small hTi
  have hTl := hTi.len
  have hlen : (is.map (TInstr.tw lo)).length = is.length := by simp
  by_cases hlt : i < is.length
  · have hri := tinstr_row (lo := lo) hlt
    have hxa := hio _ (List.getElem_mem hlt)
    have hs2 := hsn i hlt
    rw [← hT] at hs2
    generalize is[i] = x at hri hxa hs2
    obtain ⟨op, a, bb0, t⟩ := x
    dsimp only at hri hxa
    repeat' (first | with_reducible refine al_none rfl ?_ | ((with_reducible first | apply o_move | apply o_nilCheck_cp); rfl; rfl) | ((with_reducible apply o_load_cp); rfl; rfl; kernel_rfl; rfl; rfl) | ((with_reducible apply o_fieldAddr); rfl; rfl; kernel_rfl; rfl) | ((with_reducible apply o_indexAddr); rfl; rfl; rfl; kernel_rfl; kernel_rfl; kernel_rfl; rfl; ((with_reducible exact rfl)); ((with_reducible assumption))) | ((with_reducible apply o_len_sl); rfl; rfl; kernel_rfl; (exact List.length_map _)) | ((with_reducible apply o_lss); rfl; rfl; rfl) | ((with_reducible apply o_load_agg_cp); rfl; rfl; kernel_rfl; kernel_rfl; kernel_rfl; rfl; (exact .succ _ _ _ _ (.succ _ _ _ _ (.succ _ _ _ _ (.succ _ _ _ _ (.zero _)))))) | ((with_reducible apply o_alloc); rfl; rfl; kernel_rfl; intro ss bb) | ((with_reducible apply o_store_mp); rfl; rfl; rfl; kernel_rfl; (repeat (with_reducible exact mh)); ((repeat (first | exact .nil _ | apply Splice.put))); (repeat (with_reducible exact Upd.head _)); kernel_rfl) | with_reducible refine aw_hold_r (id := 4) ?_ | with_reducible refine aw_seq ?_ | with_reducible refine aw_region ?_ | with_reducible refine al_nil ?_ | with_reducible refine aq_then ?_ | with_reducible refine aw_block ?_ | with_reducible refine aw_skip ?_ | (refine aw_cond_dt rfl (by with_reducible rfl) (by first | assumption | omega) ?_))
    refine ⟨?_⟩
    generalize ss = sx; generalize bb = bx
    by_cases hsel : op = 3 ∨ op = 13 ∨ op = 14
    · have hstep : rsI T ⟨op, a, bb0, t⟩ = ⟨T.met, outS T.out t, T.todo⟩ := if_pos hsel
      rw [hstep] at hs2
      have hct := l28Selector_ctm hst s b sc bc n so bo st bt pre.length T.todo.length T.out t (by omega)
      refine aw_pick (objs' := (s, b, stB sc bc n so bo T.out.length (hasS T.out asyB) st bt pre.length T.todo.length) :: (so, bo, .row 1 (strR T.out)) :: (sc, bc, .row 1 (boolR T.met)) :: (st, bt, .row 1 (pre ++ intR T.todo)) :: (sx, bx, .box [.int .i64 op, .int .i64 a, .int .i64 bb0, .str t]) :: R) (by (try dsimp only); (repeat (first | with_reducible exact Pick.refl _ | (apply Pick.consE; (repeat (first | with_reducible exact DelS.head _ | with_reducible apply DelS.tail)); (with_reducible rfl))))) ?_
      rcases hsel with h | h | h
      all_goals
        repeat' (first | with_reducible refine al_none rfl ?_ | ((with_reducible first | apply o_move | apply o_assign); rfl; rfl) | ((with_reducible apply o_load_mp); rfl; rfl; kernel_rfl; rfl; (repeat (first | with_reducible exact mh | with_reducible refine mt ?_)); rfl) | ((with_reducible apply o_fieldAddr); rfl; rfl; kernel_rfl; rfl) | ((with_reducible apply o_eql); rfl; rfl; rfl) | ((with_reducible apply o_add); rfl; rfl; rfl; (((with_reducible refine w_n1 ?_); omega))) | ((with_reducible apply o_callM); rfl; kernel_rfl; (repeat (first | exact ArgsM.nil | ((with_reducible apply ArgsM.cons); rfl))); exact hG; exact hct; exact .cons _ _ _ _ (.cons _ _ _ _ (.nil _)); intro y hy; refine al_app2 ?_) | with_reducible refine aw_seq ?_ | with_reducible refine aw_region ?_ | with_reducible refine al_nil ?_ | with_reducible refine aq_then ?_ | with_reducible refine aw_block ?_ | with_reducible refine aw_skip ?_ | with_reducible refine aq_block ?_ | (refine aw_cond_dt rfl (by with_reducible rfl) (by assumption) ?_) | (refine aw_cond_df rfl (by with_reducible rfl) (by omega) ?_))
        exact aq_round (i + 1, ⟨T.met, outS T.out t, T.todo⟩, y, bt, pre) ⟨by dsimp only; omega, hs2.symm⟩ (by dsimp only; omega) (.of _ (by repeat (first | exact Weak.envNil | refine Weak.envCons (by rfl) ?_)) (by repeat (first | exact Weak.envNil | refine Weak.envCons rfl ?_)) (by (try dsimp only); (repeat (first | with_reducible exact Pick.refl _ | (apply Pick.consE; (repeat (first | with_reducible exact DelS.head _ | with_reducible apply DelS.tail)); (with_reducible rfl)) | ((fail_if_success (apply Pick.consE)); refine Pick.drop ?_)))))
    · by_cases h15 : op = 15
      · have hstep : rsI T ⟨op, a, bb0, t⟩ = metS T a := by
          unfold rsI
          rw [if_neg hsel, if_pos h15]
        rw [hstep] at hs2
        obtain ⟨j, rfl⟩ : ∃ j : Nat, a = j := ⟨a.toNat, by have := hxa h15; omega⟩
        have hjl := hxa h15
        have hmo := metS_out T (j : Int)
        have hct := l28Code_ctm (G := G) s b sc bc so bo T.out.length st bt (hasS T.out asyB) T pre j n (by omega) (by omega) (by omega)
        refine aw_pick (objs' := (s, b, stB sc bc n so bo T.out.length (hasS T.out asyB) st bt pre.length T.todo.length) :: (sc, bc, .row 1 (boolR T.met)) :: (st, bt, .row 1 (pre ++ intR T.todo)) :: (so, bo, .row 1 (strR T.out)) :: (sx, bx, .box [.int .i64 op, .int .i64 j, .int .i64 bb0, .str t]) :: R) (by (try dsimp only); (repeat (first | with_reducible exact Pick.refl _ | (apply Pick.consE; (repeat (first | with_reducible exact DelS.head _ | with_reducible apply DelS.tail)); (with_reducible rfl))))) ?_
        repeat' (first | with_reducible refine al_none rfl ?_ | ((with_reducible first | apply o_move | apply o_assign); rfl; rfl) | ((with_reducible apply o_load_mp); rfl; rfl; kernel_rfl; rfl; (repeat (first | with_reducible exact mh | with_reducible refine mt ?_)); rfl) | ((with_reducible apply o_fieldAddr); rfl; rfl; kernel_rfl; rfl) | ((with_reducible apply o_eql); rfl; rfl; rfl) | ((with_reducible apply o_add); rfl; rfl; rfl; (((with_reducible refine w_n1 ?_); omega))) | ((with_reducible apply o_callM); rfl; kernel_rfl; (repeat (first | exact ArgsM.nil | ((with_reducible apply ArgsM.cons); rfl))); exact hG; exact hct; exact .cons _ _ _ _ (.cons _ _ _ _ (.cons _ _ _ _ (.nil _))); intro y hy; refine al_app3 ?_) | with_reducible refine aw_seq ?_ | with_reducible refine aw_region ?_ | with_reducible refine al_nil ?_ | with_reducible refine aq_then ?_ | with_reducible refine aw_block ?_ | with_reducible refine aq_block ?_ | (refine aw_cond_dt rfl (by with_reducible rfl) (by assumption) ?_) | (refine aw_cond_df rfl (by with_reducible rfl) (by first | assumption | omega) ?_))
        refine aq_round (i + 1, metS T j, bo, y.1, y.2) ⟨by dsimp only; omega, hs2.symm⟩ (by dsimp only; omega) (.of _ (by repeat (first | exact Weak.envNil | refine Weak.envCons (by rfl) ?_)) (by repeat (first | exact Weak.envNil | refine Weak.envCons rfl ?_)) ?_)
        dsimp only
        rw [hmo]
        (repeat (first | with_reducible exact Pick.refl _ | (apply Pick.consE; (repeat (first | with_reducible exact DelS.head _ | with_reducible apply DelS.tail)); (with_reducible rfl)) | ((fail_if_success (apply Pick.consE)); refine Pick.drop ?_)))
      · have hstep : rsI T ⟨op, a, bb0, t⟩ = T := by
          unfold rsI
          rw [if_neg hsel, if_neg h15]
        rw [hstep] at hs2
        have h3 : ¬ op = 3 := fun h => hsel (.inl h)
        have h13 : ¬ op = 13 := fun h => hsel (.inr (.inl h))
        have h14 : ¬ op = 14 := fun h => hsel (.inr (.inr h))
        repeat' (first | with_reducible refine al_none rfl ?_ | ((with_reducible first | apply o_move | apply o_assign); rfl; rfl) | ((with_reducible apply o_load_mp); rfl; rfl; kernel_rfl; rfl; (repeat (with_reducible exact mh)); rfl) | ((with_reducible apply o_fieldAddr); rfl; rfl; kernel_rfl; rfl) | ((with_reducible apply o_eql); rfl; rfl; rfl) | ((with_reducible apply o_add); rfl; rfl; rfl; (((with_reducible refine w_n1 ?_); omega))) | with_reducible refine aw_seq ?_ | with_reducible refine aw_region ?_ | with_reducible refine al_nil ?_ | with_reducible refine aq_then ?_ | with_reducible refine aw_block ?_ | with_reducible refine aw_skip ?_ | with_reducible refine aq_block ?_ | (refine aw_cond_df rfl (by with_reducible rfl) (by assumption) ?_))
        exact aq_round (i + 1, T, bo, bt, pre) ⟨by dsimp only; omega, hs2.symm⟩ (by dsimp only; omega) (.of _ (by repeat (first | exact Weak.envNil | refine Weak.envCons (by rfl) ?_)) (by repeat (first | exact Weak.envNil | refine Weak.envCons rfl ?_)) (by (try dsimp only); (repeat (first | with_reducible exact Pick.refl _ | (apply Pick.consE; (repeat (first | with_reducible exact DelS.head _ | with_reducible apply DelS.tail)); (with_reducible rfl)) | ((fail_if_success (apply Pick.consE)); refine Pick.drop ?_)))))
  · obtain rfl : i = is.length := by omega
    rw [List.take_of_length_le (Nat.le_refl _)] at hT
    repeat' (first | with_reducible refine al_none rfl ?_ | ((with_reducible first | apply o_move | apply o_nilCheck_cp); rfl; rfl) | ((with_reducible apply o_load_cp); rfl; rfl; kernel_rfl; rfl; rfl) | ((with_reducible apply o_fieldAddr); rfl; rfl; kernel_rfl; rfl) | ((with_reducible apply o_indexAddr); rfl; rfl; rfl; kernel_rfl; kernel_rfl; kernel_rfl; rfl; ((with_reducible exact rfl)); ((with_reducible assumption))) | ((with_reducible apply o_len_sl); rfl; rfl; kernel_rfl; (exact List.length_map _)) | ((with_reducible apply o_lss); rfl; rfl; rfl) | with_reducible refine aw_seq ?_ | with_reducible refine aw_region ?_ | with_reducible refine al_nil ?_ | with_reducible refine aq_then ?_ | with_reducible refine aw_exit ?_ | with_reducible refine aq_block_hit ?_ | with_reducible refine aq_then_exit ?_ | (refine aw_cond_df rfl (by with_reducible rfl) (by first | assumption | omega) ?_))
    refine aq_retm0 (by exact .inl rfl) rfl (bo, bt, pre) trivial rfl (.cons _ _ _ _ (.cons _ _ _ _ (.cons _ _ _ _ (.cons _ _ _ _ (.nil R))))) ?_ rfl
    rw [← hT]
    exact .refl _
end
end Go.Proofs.YtfchjaoeogolnaaGreatDoor
/- ReachableSelectors of the reference: l28Reach. -/
namespace Go.Proofs.YtfchjaoeogolnaaGreatDoor
open Go Go.RowKit
open Classical in
/-- Where the steps end. -/
noncomputable def rsFin (b : TCodeBase) : RS := if h : ∃ s, Rs b s ∧ rsStep b s = s then Classical.choose h else rs0 b
theorem rsFin_eq {b : TCodeBase} {s : RS} (h : Rs b s) (hs : rsStep b s = s) : rsFin b = s := by
  have hex : ∃ s, Rs b s ∧ rsStep b s = s := ⟨s, h, hs⟩
  unfold rsFin
  rw [dif_pos hex]
  obtain ⟨h1, h2⟩ := Classical.choose_spec hex
  exact Rs.same h1 h h2 hs
/-- The box's rows, as the state says. -/
theorem gb_start {n : Nat} {k : Int} (h : 0 ≤ k ∧ k < n) : gb (List.replicate n false) k = false := by
  unfold gb
  rw [List.getD_eq_getElem?_getD, List.getElem?_replicate, if_pos (by omega)]; rfl
theorem met_start {b : TCodeBase} (h : RsOk b) : metS ⟨List.replicate b.codes.length false, [], []⟩ b.main = rs0 b := by
  rw [metS_f (gb_start h.main)]; rfl
section
variable {G : World → Prop}
set_option maxHeartbeats 4000000 in
theorem l28Reach_ct (hst : Stable G) (f lo : Nat) (B : TCodeBase) (hB : RsOk B) (hes : B.entries.length ≤ 1048576) :
    Ct Tryz.prog G 34 [.cp f [.sl lo 3 (B.classes.map (TClassInfo.tw lo)), .sl lo 4 (B.codes.map (TCode.tw lo)), .sl lo 4 (B.entries.map (TEntry.tw lo)), .int .i64 B.main]]
      (fun K => .agg [.sl K 1 (boolR (rsFin B).met), .sl K 1 (strR (rsFin B).out), .bool (hasS (rsFin B).out asyB), .sl K 1 (intR [])]) := by
  refine ct_enter Tryz.func34 rfl Tryz.ntmps34 rfl rfl fun w0 _ hG => ?_
  have hlc := TCode.len lo B.codes
  have hle := TEntry.len lo B.entries
  have hmain := hB.main
  have hc200 := hB.codes
  have hms := met_start hB
  have hin0 := rs0_in hB
  obtain ⟨m, hm⟩ : ∃ m : Nat, B.main = m := ⟨B.main.toNat, by omega⟩
  rw [hm] at hms hmain ⊢
  have hbr : List.replicate B.codes.length [TV.bool false] = boolR (List.replicate B.codes.length false) := by simp [boolR]
  repeat' (first | with_reducible refine al_none rfl ?_ | ((with_reducible first | apply o_move | apply o_nilCheck_cp); rfl; rfl) | ((with_reducible apply o_load_cp); rfl; rfl; kernel_rfl; rfl; rfl) | ((with_reducible apply o_fieldAddr); rfl; rfl; kernel_rfl; rfl) | ((with_reducible apply o_len_sl); rfl; rfl; kernel_rfl; (exact List.length_map _)) | ((with_reducible apply o_alloc); rfl; rfl; kernel_rfl; intro ss bb) | ((with_reducible apply o_make); rfl; rfl; rfl; ((with_reducible exact rfl)); kernel_rfl; kernel_rfl; rfl; rfl; kernel_rfl; omega; intro ss bb) | ((with_reducible apply o_build); rfl; rfl; (repeat (first | exact TB.nil _ | ((with_reducible apply TB.cons); rfl; rfl; (exact .put _ _ _ _ _ (.nil _)); kernel_rfl))); kernel_rfl; kernel_rfl) | ((with_reducible apply o_store_mp); rfl; rfl; rfl; kernel_rfl; (repeat (with_reducible exact mh)); ((repeat (first | exact .nil _ | apply Splice.put))); (repeat (with_reducible exact Upd.head _)); kernel_rfl) | with_reducible refine aw_hold_r (id := 2) ?_ | with_reducible refine aw_seq ?_ | with_reducible refine aw_region ?_ | with_reducible refine al_nil ?_ | with_reducible refine aq_then ?_)
  refine ⟨?_⟩
  rename_i s2 b2 sm bm
  generalize ss = s3; generalize bb = b3
  refine aw_pick (objs' := (s3, b3, .box [.ms sm bm 0 B.codes.length, .nils, .bool false, .nils]) :: (sm, bm, .row 1 (List.replicate B.codes.length [.bool false])) :: (s2, b2, .box [.nils, .nils, .bool false, .nils]) :: []) (by (try dsimp only); (repeat (first | with_reducible exact Pick.refl _ | (apply Pick.consE; (repeat (with_reducible exact DelS.head _)); (first | with_reducible rfl | rfl))))) ?_
  rw [hbr]
  refine aw_nilC 1 1 (by decide) rfl fun so => ?_
  refine aw_nilC 3 1 (by decide) rfl fun st => ?_
  dsimp only [List.set]
  have hct0 := l28Code_ctm (G := G) s3 b3 sm bm so 0 0 st 0 false ⟨List.replicate B.codes.length false, [], []⟩ [] m B.codes.length (by simp) (by omega) (by simp)
  rw [hms] at hct0
  have hrc := Rs.init B
  have hne : (rs0 B).todo ≠ [] := by simp [rs0]
  refine aw_pick (objs' := (s3, b3, stB sm bm B.codes.length so 0 0 false st 0 0 0) :: (sm, bm, .row 1 (boolR (List.replicate B.codes.length false))) :: (st, 0, .row 1 []) :: (so, 0, .row 1 (strR [])) :: (s2, b2, .box [.nils, .nils, .bool false, .nils]) :: []) (by (try dsimp only); (repeat (first | with_reducible exact Pick.refl _ | (apply Pick.consE; (repeat (first | with_reducible exact DelS.head _ | with_reducible apply DelS.tail)); (first | with_reducible rfl | rfl))))) ?_
  repeat' (first | with_reducible refine al_none rfl ?_ | ((with_reducible first | apply o_move | apply o_assign | apply o_nilCheck_cp); rfl; rfl) | ((with_reducible apply o_load_cp); rfl; rfl; kernel_rfl; rfl; rfl) | ((with_reducible apply o_fieldAddr); rfl; rfl; kernel_rfl; rfl) | ((with_reducible apply o_callM); rfl; kernel_rfl; (repeat (first | exact ArgsM.nil | ((with_reducible apply ArgsM.cons); rfl))); exact hG; exact hct0; exact .cons _ _ _ _ (.cons _ _ _ _ (.cons _ _ _ _ (.nil _))); intro y hy; refine al_app3 ?_) | with_reducible refine aw_seq ?_ | with_reducible refine aw_region ?_ | with_reducible refine al_nil ?_ | with_reducible refine aq_then ?_ | with_reducible refine aw_block ?_)
  apply aw_loopk (X := Bool × RS × Nat × Nat × List (List TV)) [0, 2, 3] (fun x => [(4, .bool x.1)])
    (fun x => [(s3, b3, stB sm bm B.codes.length so x.2.2.1 x.2.1.out.length (hasS x.2.1.out asyB) st x.2.2.2.1 x.2.2.2.2.length x.2.1.todo.length), (sm, bm, .row 1 (boolR x.2.1.met)), (so, x.2.2.1, .row 1 (strR x.2.1.out)), (st, x.2.2.2.1, .row 1 (x.2.2.2.2 ++ intR x.2.1.todo)), (s2, b2, .box [.nils, .nils, .bool false, .nils])])
    (fun x => (Rs B x.2.1 ∧ RsIn B 0 x.2.1) ∧ (x.1 = true → x.2.1.todo ≠ []) ∧ (x.1 = false → x.2.1.todo = [] ∧ rsStep B x.2.1 = x.2.1)) (fun x => x.2.1.mu) (true, rs0 B, 0, y.1, y.2) ⟨⟨hrc, hin0⟩, fun _ => hne, fun h => by cases h⟩
  (repeat (first | exact Kept.nil | (apply Kept.cons; rfl))); (repeat (first | exact Weak.envNil | refine Weak.envCons (by rfl) ?_))
  · have ho : (rs0 B).out = [] := rfl
    have ha : hasS [] asyB = false := rfl
    dsimp only
    rw [ho, ha]
    (repeat (first | with_reducible exact Pick.refl _ | (apply Pick.consE; (repeat (first | with_reducible exact DelS.head _ | with_reducible apply DelS.tail)); (first | with_reducible rfl | (focus (simp [intR, nts]; done))))))
  clear hct0 hne hrc hin0 hy y hms
  rintro ⟨ch, S, bo, bt, pre⟩ ⟨⟨hrc, hin⟩, hc1, hc2⟩
  dsimp only at hrc hin hc1 hc2 ⊢
  cases ch with
  | false =>
    obtain ⟨ht, hfix⟩ := hc2 rfl
    have hfin := rsFin_eq hrc hfix
    rw [hfin]
    obtain ⟨hb1, hb2⟩ := rs_small hin
    unfold stB
    repeat' (first | with_reducible refine al_none rfl ?_ | ((with_reducible apply o_move); rfl; rfl) | ((with_reducible apply o_load_agg_mp); rfl; rfl; kernel_rfl; kernel_rfl; kernel_rfl; rfl; (repeat (with_reducible exact mh)); (exact .succ _ _ _ _ (.succ _ _ _ _ (.succ _ _ _ _ (.succ _ _ _ _ (.zero _)))))) | ((with_reducible apply o_store_mp); rfl; rfl; rfl; kernel_rfl; (repeat (first | with_reducible exact mh | with_reducible refine mt ?_)); ((repeat (first | exact .nil _ | apply Splice.put))); (repeat (first | with_reducible exact Upd.head _ | with_reducible apply Upd.tail)); kernel_rfl) | with_reducible refine aw_seq ?_ | with_reducible refine aw_region ?_ | with_reducible refine al_nil ?_ | with_reducible refine aq_then ?_ | with_reducible refine aw_exit ?_ | with_reducible refine aw_ret ?_ | with_reducible refine aq_block_hit ?_ | with_reducible refine aq_then_exit ?_ | refine aw_cond_f rfl (by with_reducible rfl) ?_)
    have hsl := hin.len
    rw [← hsl]
    refine aq_ret1 (by exact .inr rfl) rfl (.cell _ _ _ _ _ rfl (by (repeat (first | with_reducible exact mh | with_reducible refine mt ?_))) (by kernel_rfl) (by kernel_rfl) (by kernel_rfl)) (fun _ => ?_)
    refine fin_agg (.cons ?_ (.cons ?_ (.cons (.flat rfl) (.cons ?_ .nil))))
    · exact fin_ms (f := fun b : Bool => [TV.bool b]) (f' := fun b : Bool => [TV.bool b]) (fun x => .cons (.flat rfl) .nil) (List.mem_cons_of_mem _ List.mem_cons_self)
    · exact fin_ms (f := fun b : ByteArray => [TV.str b]) (f' := fun b : ByteArray => [TV.str b]) (fun x => .cons (.flat rfl) .nil) (List.mem_cons_of_mem _ (List.mem_cons_of_mem _ List.mem_cons_self))
    · rw [ht]
      exact .ms st bt pre.length 0 1 (pre ++ intR []) [] _ (List.mem_cons_of_mem _ (List.mem_cons_of_mem _ (List.mem_cons_of_mem _ List.mem_cons_self))) (by simp [intR]) (by simp [intR]) rfl (by simp [intR])
  | true =>
    have hne := hc1 rfl
    clear hc1 hc2
    repeat' (first | with_reducible refine al_none rfl ?_ | ((with_reducible first | apply o_move | apply o_assign); rfl; rfl) | with_reducible refine aw_seq ?_ | with_reducible refine aw_region ?_ | with_reducible refine al_nil ?_ | with_reducible refine aq_then ?_ | with_reducible refine aw_block ?_ | with_reducible refine aw_skip ?_ | refine aw_cond_t rfl (by with_reducible rfl) ?_)
    apply aw_loopk (X := RS × Nat × Nat × List (List TV)) [0, 2, 3] (fun x => [(4, .bool false)])
      (fun x => [(s3, b3, stB sm bm B.codes.length so x.2.1 x.1.out.length (hasS x.1.out asyB) st x.2.2.1 x.2.2.2.length x.1.todo.length), (sm, bm, .row 1 (boolR x.1.met)), (so, x.2.1, .row 1 (strR x.1.out)), (st, x.2.2.1, .row 1 (x.2.2.2 ++ intR x.1.todo)), (s2, b2, .box [.nils, .nils, .bool false, .nils])])
      (fun x => (Rs B x.1 ∧ RsIn B 0 x.1) ∧ (x.1 = S ∨ x.1.mu < S.mu)) (fun x => x.1.mu) (S, bo, bt, pre) ⟨⟨hrc, hin⟩, .inl rfl⟩
    (repeat (first | exact Kept.nil | (apply Kept.cons; rfl))); (repeat (first | exact Weak.envNil | refine Weak.envCons (by rfl) ?_))
    · exact .refl _
    clear hrc hin
    rintro ⟨⟨met, out, todo⟩, bo, bt, pre⟩ ⟨⟨hrc, hin⟩, hmu⟩
    dsimp only at hrc hin hmu ⊢
    cases todo with
    | cons k r =>
      obtain ⟨hk, hin2, hmu2⟩ := rs_pop hB hin
      obtain ⟨hil, hio⟩ := codeI_ok hB hk
      have hin3 := (rsRow_in (n := 0) hio (by rw [Nat.zero_add]; exact hin2) _ (Nat.le_refl _))
      rw [List.take_of_length_le (Nat.le_refl _), Nat.sub_self] at hin3
      have hrs : Rs B (rsRow (codeI B.codes k) ⟨met, out, r⟩) := hrc.step
      have hct := l28Scan_ctm (G := G) hst s3 b3 sm bm so bo st bt f lo B.codes.length B hB rfl k hk ⟨met, out, r⟩ hin2 (pre ++ [[.int .i64 k]])
      have hp1 : (pre ++ [[TV.int .i64 k]]).length = pre.length + 1 := by simp
      have hp2 : pre ++ intR (k :: r) = (pre ++ [[TV.int .i64 k]]) ++ intR r := by simp [intR]
      obtain ⟨ht1, _⟩ := rs_small hin
      have hpos : (0 : Int) < ((k :: r).length : Nat) := by rw [List.length_cons]; omega
      have hg : (pre ++ intR (k :: r))[pre.length]? = some [.int .i64 k] := by
        rw [List.getElem?_append_right (Nat.le_refl _), Nat.sub_self]; rfl
      rw [hm] at hct
      rw [hp1] at hct
      rw [hp2] at hg ⊢
      unfold stB
      repeat' (first | with_reducible refine al_none rfl ?_ | ((with_reducible first | apply o_move | apply o_assign); rfl; rfl) | ((with_reducible apply o_load_me); rfl; rfl; kernel_rfl; rfl; (repeat (first | with_reducible exact mh | with_reducible refine mt ?_)); (assumption); rfl) | ((with_reducible apply o_load_mp); rfl; rfl; kernel_rfl; rfl; (repeat (with_reducible exact mh)); rfl) | ((with_reducible apply o_fieldAddr); rfl; rfl; kernel_rfl; rfl) | ((with_reducible apply o_indexAddr_ms); rfl; rfl; rfl; (repeat (first | with_reducible exact mh | with_reducible refine mt ?_)); kernel_rfl; kernel_rfl; kernel_rfl; ((with_reducible exact nat0)); (omega); (rfl)) | ((with_reducible apply o_len_ms); rfl; rfl; kernel_rfl) | ((with_reducible apply o_gtr); rfl; rfl; rfl) | ((with_reducible apply o_slice_ms); rfl; rfl; rfl; (repeat (first | with_reducible exact mh | with_reducible refine mt ?_)); kernel_rfl; kernel_rfl; kernel_rfl; ((with_reducible exact nat1)); (omega)) | ((with_reducible apply o_store_mp); rfl; rfl; rfl; kernel_rfl; (repeat (with_reducible exact mh)); ((repeat (first | exact .nil _ | apply Splice.put | apply Splice.skip))); (repeat (with_reducible exact Upd.head _)); kernel_rfl) | ((with_reducible apply o_callM); rfl; kernel_rfl; (repeat (first | exact ArgsM.nil | ((with_reducible apply ArgsM.cons); rfl))); exact hG; exact hct; exact .cons _ _ _ _ (.cons _ _ _ _ (.cons _ _ _ _ (.cons _ _ _ _ (.nil _)))); intro y hy; refine al_app4 ?_) | with_reducible refine aw_seq ?_ | with_reducible refine aw_region ?_ | with_reducible refine al_nil ?_ | with_reducible refine aq_then ?_ | with_reducible refine aw_block ?_ | with_reducible refine aw_skip ?_ | with_reducible refine aq_block ?_ | (refine aw_cond_dt rfl (by with_reducible rfl) (by assumption) ?_))
      exact aq_round (rsRow (codeI B.codes k) ⟨met, out, r⟩, y.1, y.2.1, y.2.2) ⟨⟨hrs, hin3.1⟩, .inr (by rcases hmu with h | h <;> (try rw [← h]) <;> (try dsimp only) <;> omega)⟩ (by dsimp only; omega) (.of _ (by repeat (first | exact Weak.envNil | refine Weak.envCons (by rfl) ?_)) (by repeat (first | exact Weak.envNil | refine Weak.envCons rfl ?_)) (by (try dsimp only); (repeat (first | with_reducible exact Pick.refl _ | (apply Pick.consE; (repeat (with_reducible exact DelS.head _)); (rfl))))))
    | nil =>
      have hmu2 : (RS.mk met out []).mu < S.mu := by
        rcases hmu with h | h
        · exact absurd (by rw [← h]) hne
        · exact h
      clear hmu hne
      have hnp : ¬ (0 : Int) < ((([] : List Int).length : Nat) : Int) := by simp
      have hpi := rsPass_in (any := hasS out asyB) hB.entries hin
      have hps := fun i (h : i < B.entries.length) => rsPass_snoc (any := hasS out asyB) h ⟨met, out, []⟩
      have hps0 : (RS.mk met out []) = rsPass (hasS out asyB) (B.entries.take 0) ⟨met, out, []⟩ := rfl
      obtain ⟨_, hol⟩ := rs_small hin
      dsimp only at hol
      unfold stB
      repeat' (first | with_reducible refine al_none rfl ?_ | ((with_reducible apply o_assign); rfl; rfl) | ((with_reducible apply o_load_mp); rfl; rfl; kernel_rfl; rfl; (repeat (with_reducible exact mh)); rfl) | ((with_reducible apply o_fieldAddr); rfl; rfl; kernel_rfl; rfl) | ((with_reducible apply o_len_ms); rfl; rfl; kernel_rfl) | ((with_reducible apply o_gtr); rfl; rfl; rfl) | with_reducible refine aw_seq ?_ | with_reducible refine aw_region ?_ | with_reducible refine al_nil ?_ | with_reducible refine aq_then ?_ | with_reducible refine aw_block ?_ | with_reducible refine aw_exit ?_ | with_reducible refine aq_block_hit ?_ | with_reducible refine aq_then_exit ?_ | (refine aw_cond_df rfl (by with_reducible rfl) (by assumption) ?_))
      apply aw_loopk (X := Nat × RS × Nat × List (List TV)) [0, 2, 3] (fun x => [(6, .int .i64 (x.1 : Int)), (4, .bool (decide (0 < x.2.1.todo.length)))])
        (fun x => [(s3, b3, stB sm bm B.codes.length so bo out.length (hasS out asyB) st x.2.2.1 x.2.2.2.length x.2.1.todo.length), (sm, bm, .row 1 (boolR x.2.1.met)), (so, bo, .row 1 (strR out)), (st, x.2.2.1, .row 1 (x.2.2.2 ++ intR x.2.1.todo)), (s2, b2, .box [.nils, .nils, .bool false, .nils])])
        (fun x => x.1 ≤ B.entries.length ∧ x.2.1 = rsPass (hasS out asyB) (B.entries.take x.1) ⟨met, out, []⟩) (fun x => B.entries.length - x.1) (0, ⟨met, out, []⟩, bt, pre) ⟨Nat.zero_le _, hps0⟩
      (repeat (first | exact Kept.nil | (apply Kept.cons; rfl))); (repeat (first | exact Weak.envNil | refine Weak.envCons (by rfl) ?_))
      · exact .refl _
      rintro ⟨i, T, bt, pre⟩ ⟨hi, hT⟩
      dsimp only at hi hT ⊢
      obtain ⟨⟨hTi, hTm⟩, hTo⟩ := hpi i hi
      rw [← hT] at hTi hTm hTo
      obtain ⟨hT1, _⟩ := rs_small hTi
      have hTl := hTi.len
      by_cases hlt : i < B.entries.length
      · have hre := tentry_row (lo := lo) hlt
        have hxa := hB.entries _ (List.getElem_mem hlt)
        have hs2 := hps i hlt
        rw [← hT] at hs2
        generalize B.entries[i] = e at hre hxa hs2
        obtain ⟨ow, cl, sel, code⟩ := e
        dsimp only at hre hxa
        obtain ⟨c, rfl⟩ : ∃ c : Nat, code = c := ⟨code.toNat, by omega⟩
        have hrow := boolR_get (l := T.met) (k := c) (by omega)
        have hml := boolR_len T.met
        have hhas := l1Has_ct (G := G) 0 out sel (by omega)
        have hsl := strR_len out
        have hmo := metS_out T (c : Int)
        have hct := l28Code_ctm (G := G) s3 b3 sm bm so bo out.length st bt (hasS out asyB) T pre c B.codes.length (by omega) (by omega) (by omega)
        unfold rsE at hs2
        dsimp only at hs2
        rw [hTo] at hs2
        unfold stB
        repeat' (first | with_reducible refine al_none rfl ?_ | ((with_reducible first | apply o_move | apply o_nilCheck_cp); rfl; rfl) | ((with_reducible apply o_load_cp); rfl; rfl; kernel_rfl; rfl; rfl) | ((with_reducible apply o_fieldAddr); rfl; rfl; kernel_rfl; rfl) | ((with_reducible apply o_indexAddr); rfl; rfl; rfl; kernel_rfl; kernel_rfl; kernel_rfl; rfl; ((with_reducible exact rfl)); ((with_reducible assumption))) | ((with_reducible apply o_len_sl); rfl; rfl; kernel_rfl; (exact List.length_map _)) | ((with_reducible apply o_lss); rfl; rfl; rfl) | ((with_reducible apply o_load_agg_cp); rfl; rfl; kernel_rfl; kernel_rfl; kernel_rfl; rfl; (exact .succ _ _ _ _ (.succ _ _ _ _ (.succ _ _ _ _ (.succ _ _ _ _ (.zero _)))))) | ((with_reducible apply o_alloc); rfl; rfl; kernel_rfl; intro ss bb) | ((with_reducible apply o_store_mp); rfl; rfl; rfl; kernel_rfl; (repeat (with_reducible exact mh)); ((repeat (first | exact .nil _ | apply Splice.put))); (repeat (with_reducible exact Upd.head _)); kernel_rfl) | with_reducible refine aw_hold_r (id := 14) ?_ | with_reducible refine aw_seq ?_ | with_reducible refine aw_region ?_ | with_reducible refine al_nil ?_ | with_reducible refine aq_then ?_ | with_reducible refine aw_block ?_ | with_reducible refine aw_skip ?_ | (refine aw_cond_dt rfl (by with_reducible rfl) (by first | assumption | omega) ?_))
        refine ⟨?_⟩
        generalize ss = sx; generalize bb = bx
        refine aw_pick (objs' := (s3, b3, .box [.ms sm bm 0 B.codes.length, .ms so bo 0 out.length, .bool (hasS out asyB), .ms st bt pre.length T.todo.length]) :: (sm, bm, .row 1 (boolR T.met)) :: (st, bt, .row 1 (pre ++ intR T.todo)) :: (so, bo, .row 1 (strR out)) :: (s2, b2, .box [.nils, .nils, .bool false, .nils]) :: (sx, bx, .box [.int .i64 ow, .bool cl, .str sel, .int .i64 c]) :: []) (by (try dsimp only); (repeat (first | with_reducible exact Pick.refl _ | (apply Pick.consE; (repeat (first | with_reducible exact DelS.head _ | with_reducible apply DelS.tail)); (with_reducible rfl))))) ?_
        cases hg : gb T.met c with
        | true =>
          rw [hg] at hrow hs2
          repeat' (first | with_reducible refine al_none rfl ?_ | ((with_reducible first | apply o_move | apply o_assign); rfl; rfl) | ((with_reducible apply o_pick_f); rfl; rfl; (with_reducible rfl); rfl) | ((with_reducible apply o_load_me); rfl; rfl; kernel_rfl; rfl; (repeat (first | with_reducible exact mh | with_reducible refine mt ?_)); ((with_reducible assumption)); rfl) | ((with_reducible apply o_load_mp); rfl; rfl; kernel_rfl; rfl; (repeat (first | with_reducible exact mh | with_reducible refine mt ?_)); rfl) | ((with_reducible apply o_fieldAddr); rfl; rfl; kernel_rfl; rfl) | ((with_reducible apply o_indexAddr_ms); rfl; rfl; rfl; (repeat (first | with_reducible exact mh | with_reducible refine mt ?_)); kernel_rfl; kernel_rfl; kernel_rfl; ((with_reducible exact rfl)); (omega); (with_reducible exact Nat.zero_add _)) | ((with_reducible apply o_add); rfl; rfl; rfl; (((with_reducible refine w_n1 ?_); omega))) | ((with_reducible apply o_not_t); rfl; rfl; (with_reducible rfl)) | with_reducible refine aw_seq ?_ | with_reducible refine aw_region ?_ | with_reducible refine al_nil ?_ | with_reducible refine aq_then ?_ | with_reducible refine aw_skip ?_ | with_reducible refine aq_block ?_ | refine al_skip rfl rfl rfl (by with_reducible rfl) rfl rfl rfl ?_ | refine al_skip2 rfl rfl rfl (by with_reducible rfl) rfl rfl ?_ | refine aw_cond_f rfl (by with_reducible rfl) ?_)
          exact aq_round (i + 1, T, bt, pre) ⟨by dsimp only; omega, hs2.symm⟩ (by dsimp only; omega) (.of _ (by repeat (first | exact Weak.envNil | refine Weak.envCons (by rfl) ?_)) (by repeat (first | exact Weak.envNil | refine Weak.envCons rfl ?_)) (by (try dsimp only); (repeat (first | with_reducible exact Pick.nil _ | (apply Pick.consE; (repeat (first | with_reducible exact DelS.head _ | with_reducible apply DelS.tail)); (with_reducible rfl))))))
        | false =>
          rw [hg] at hrow hs2
          have hch : decide (0 < (metS T (c : Int)).todo.length) = true := by
            rw [metS_f hg]
            exact decide_eq_true (by simp)
          cases ha : hasS out asyB with
          | true =>
            rw [ha] at hs2 hct
            repeat' (first | with_reducible refine al_none rfl ?_ | ((with_reducible first | apply o_move | apply o_assign); rfl; rfl) | ((with_reducible apply o_pick_t); rfl; rfl; (with_reducible rfl); rfl) | ((with_reducible apply o_load_me); rfl; rfl; kernel_rfl; rfl; (repeat (first | with_reducible exact mh | with_reducible refine mt ?_)); ((with_reducible assumption)); rfl) | ((with_reducible apply o_load_mp); rfl; rfl; kernel_rfl; rfl; (repeat (first | with_reducible exact mh | with_reducible refine mt ?_)); rfl) | ((with_reducible apply o_fieldAddr); rfl; rfl; kernel_rfl; rfl) | ((with_reducible apply o_indexAddr_ms); rfl; rfl; rfl; (repeat (first | with_reducible exact mh | with_reducible refine mt ?_)); kernel_rfl; kernel_rfl; kernel_rfl; ((with_reducible exact rfl)); (omega); (with_reducible exact Nat.zero_add _)) | ((with_reducible apply o_add); rfl; rfl; rfl; (((with_reducible refine w_n1 ?_); omega))) | ((with_reducible apply o_not_f); rfl; rfl; (with_reducible rfl)) | ((with_reducible apply o_callM); rfl; kernel_rfl; (repeat (first | exact ArgsM.nil | ((with_reducible apply ArgsM.cons); rfl))); exact hG; exact hct; exact .cons _ _ _ _ (.cons _ _ _ _ (.cons _ _ _ _ (.nil _))); intro y hy; refine al_app3 ?_) | with_reducible refine aw_seq ?_ | with_reducible refine aw_region ?_ | with_reducible refine al_nil ?_ | with_reducible refine aq_then ?_ | with_reducible refine aq_block ?_ | refine al_run rfl rfl rfl (by with_reducible rfl) ?_ | refine al_skip rfl rfl rfl (by with_reducible rfl) rfl rfl rfl ?_ | refine aw_cond_t rfl (by with_reducible rfl) ?_)
            refine aq_round (i + 1, metS T c, y.1, y.2) ⟨by dsimp only; omega, hs2.symm⟩ (by dsimp only; omega) (.of _ (Weak.envCons rfl (Weak.envCons (lk_bool rfl hch.symm) Weak.envNil)) (by repeat (first | exact Weak.envNil | refine Weak.envCons rfl ?_)) (by (try dsimp only); (repeat (first | with_reducible exact Pick.nil _ | (apply Pick.consE; (repeat (first | with_reducible exact DelS.head _ | with_reducible apply DelS.tail)); (first | with_reducible rfl | rfl))))))
          | false =>
            rw [ha] at hs2 hct
            cases hb : hasS out sel with
            | true =>
              rw [hb] at hs2 hhas
              repeat' (first | with_reducible refine al_none rfl ?_ | ((with_reducible first | apply o_move | apply o_assign); rfl; rfl) | ((with_reducible apply o_pick_t); rfl; rfl; (with_reducible rfl); rfl) | ((with_reducible apply o_pick_f); rfl; rfl; (with_reducible rfl); rfl) | ((with_reducible apply o_load_me); rfl; rfl; kernel_rfl; rfl; (repeat (first | with_reducible exact mh | with_reducible refine mt ?_)); ((with_reducible assumption)); rfl) | ((with_reducible apply o_load_mp); rfl; rfl; kernel_rfl; rfl; (repeat (first | with_reducible exact mh | with_reducible refine mt ?_)); rfl) | ((with_reducible apply o_fieldAddr); rfl; rfl; kernel_rfl; rfl) | ((with_reducible apply o_indexAddr_ms); rfl; rfl; rfl; (repeat (first | with_reducible exact mh | with_reducible refine mt ?_)); kernel_rfl; kernel_rfl; kernel_rfl; ((with_reducible exact rfl)); (omega); (with_reducible exact Nat.zero_add _)) | ((with_reducible apply o_add); rfl; rfl; rfl; (((with_reducible refine w_n1 ?_); omega))) | ((with_reducible apply o_not_f); rfl; rfl; (with_reducible rfl)) | ((with_reducible apply o_callV); rfl; kernel_rfl; exact hG; exact hst; exact hhas; (repeat (first | exact Args.nil | ((with_reducible apply Args.cons); rfl; (first | with_reducible exact View.same _ | ((with_reducible apply View.msAll); (repeat (first | with_reducible exact mh | with_reducible refine mt ?_)); (with_reducible assumption))))))) | ((with_reducible apply o_callM); rfl; kernel_rfl; (repeat (first | exact ArgsM.nil | ((with_reducible apply ArgsM.cons); rfl))); exact hG; exact hct; exact .cons _ _ _ _ (.cons _ _ _ _ (.cons _ _ _ _ (.nil _))); intro y hy; refine al_app3 ?_) | with_reducible refine aw_seq ?_ | with_reducible refine aw_region ?_ | with_reducible refine al_nil ?_ | with_reducible refine aq_then ?_ | with_reducible refine aq_block ?_ | refine al_run rfl rfl rfl (by with_reducible rfl) ?_ | refine aw_cond_t rfl (by with_reducible rfl) ?_)
              refine aq_round (i + 1, metS T c, y.1, y.2) ⟨by dsimp only; omega, hs2.symm⟩ (by dsimp only; omega) (.of _ (Weak.envCons rfl (Weak.envCons (lk_bool rfl hch.symm) Weak.envNil)) (by repeat (first | exact Weak.envNil | refine Weak.envCons rfl ?_)) (by (try dsimp only); (repeat (first | with_reducible exact Pick.nil _ | (apply Pick.consE; (repeat (first | with_reducible exact DelS.head _ | with_reducible apply DelS.tail)); (first | with_reducible rfl | rfl))))))
            | false =>
              rw [hb] at hs2 hhas
              repeat' (first | with_reducible refine al_none rfl ?_ | ((with_reducible first | apply o_move | apply o_assign); rfl; rfl) | ((with_reducible apply o_pick_t); rfl; rfl; (with_reducible rfl); rfl) | ((with_reducible apply o_pick_f); rfl; rfl; (with_reducible rfl); rfl) | ((with_reducible apply o_load_me); rfl; rfl; kernel_rfl; rfl; (repeat (first | with_reducible exact mh | with_reducible refine mt ?_)); ((with_reducible assumption)); rfl) | ((with_reducible apply o_load_mp); rfl; rfl; kernel_rfl; rfl; (repeat (first | with_reducible exact mh | with_reducible refine mt ?_)); rfl) | ((with_reducible apply o_fieldAddr); rfl; rfl; kernel_rfl; rfl) | ((with_reducible apply o_indexAddr_ms); rfl; rfl; rfl; (repeat (first | with_reducible exact mh | with_reducible refine mt ?_)); kernel_rfl; kernel_rfl; kernel_rfl; ((with_reducible exact rfl)); (omega); (with_reducible exact Nat.zero_add _)) | ((with_reducible apply o_add); rfl; rfl; rfl; (((with_reducible refine w_n1 ?_); omega))) | ((with_reducible apply o_not_f); rfl; rfl; (with_reducible rfl)) | ((with_reducible apply o_callV); rfl; kernel_rfl; exact hG; exact hst; exact hhas; (repeat (first | exact Args.nil | ((with_reducible apply Args.cons); rfl; (first | with_reducible exact View.same _ | ((with_reducible apply View.msAll); (repeat (first | with_reducible exact mh | with_reducible refine mt ?_)); (with_reducible assumption))))))) | with_reducible refine aw_seq ?_ | with_reducible refine aw_region ?_ | with_reducible refine al_nil ?_ | with_reducible refine aq_then ?_ | with_reducible refine aw_skip ?_ | with_reducible refine aq_block ?_ | refine al_run rfl rfl rfl (by with_reducible rfl) ?_ | refine aw_cond_f rfl (by with_reducible rfl) ?_)
              exact aq_round (i + 1, T, bt, pre) ⟨by dsimp only; omega, hs2.symm⟩ (by dsimp only; omega) (.of _ (by repeat (first | exact Weak.envNil | refine Weak.envCons (by rfl) ?_)) (by repeat (first | exact Weak.envNil | refine Weak.envCons rfl ?_)) (by (try dsimp only); (repeat (first | with_reducible exact Pick.nil _ | (apply Pick.consE; (repeat (first | with_reducible exact DelS.head _ | with_reducible apply DelS.tail)); (with_reducible rfl))))))
      · obtain rfl : i = B.entries.length := by omega
        rw [List.take_of_length_le (Nat.le_refl _)] at hT
        have hrT : Rs B T := by rw [hT]; exact hrc.step
        repeat' (first | with_reducible refine al_none rfl ?_ | ((with_reducible first | apply o_move | apply o_nilCheck_cp); rfl; rfl) | ((with_reducible apply o_load_cp); rfl; rfl; kernel_rfl; rfl; rfl) | ((with_reducible apply o_fieldAddr); rfl; rfl; kernel_rfl; rfl) | ((with_reducible apply o_len_sl); rfl; rfl; kernel_rfl; (exact List.length_map _)) | ((with_reducible apply o_lss); rfl; rfl; rfl) | with_reducible refine aw_seq ?_ | with_reducible refine aw_region ?_ | with_reducible refine al_nil ?_ | with_reducible refine aq_then ?_ | with_reducible refine aw_exit ?_ | with_reducible refine aq_block_hit ?_ | with_reducible refine aq_then_exit ?_ | with_reducible refine aq_block ?_ | (refine aw_cond_df rfl (by with_reducible rfl) (by first | assumption | omega) ?_))
        refine aq_round (decide (0 < T.todo.length), T, bo, bt, pre) ⟨⟨hrT, hTi⟩, fun h => ?_, fun h => ?_⟩ (by dsimp only; omega) (.of _ (by repeat (first | exact Weak.envNil | refine Weak.envCons (by rfl) ?_)) (by repeat (first | exact Weak.envNil | refine Weak.envCons rfl ?_)) ?_)
        · intro h2
          rw [h2] at h
          cases h
        · have h1 : T.todo = [] := List.length_eq_zero_iff.1 (by have := of_decide_eq_false h; omega)
          have h2 := rs_fix (b := B) (s := ⟨met, out, []⟩) rfl (by show (rsPass (hasS out asyB) B.entries ⟨met, out, []⟩).todo = []; rw [← hT]; exact h1)
          have h3 : T = ⟨met, out, []⟩ := by rw [hT]; exact h2
          exact ⟨h1, by rw [h3]; exact h2⟩
        · dsimp only
          rw [hTo]
          (repeat (first | with_reducible exact Pick.refl _ | (apply Pick.consE; (repeat (with_reducible exact DelS.head _)); (rfl))))
end
end Go.Proofs.YtfchjaoeogolnaaGreatDoor
/- IsVerified: which parts an operation has, on the side of the program. -/
namespace Go.Proofs.YtfchjaoeogolnaaGreatDoor
open Go Go.RowKit
set_option maxHeartbeats 2000000 in
theorem writes_ct {G : World → Prop} (op : Int) : Ct Tryz.prog G 119 [.int .i64 op] (fun _ => .tup [.bool (useA op), .bool (useB op), .bool (useT op)]) := by
  refine ct_enter Tryz.func119 rfl Tryz.ntmps119 rfl rfl fun w0 _ hG => ?_
  repeat' (first | with_reducible refine al_none rfl ?_ | ((with_reducible first | apply o_move | apply o_assign); rfl; rfl) | ((with_reducible apply o_eql); rfl; rfl; rfl) | with_reducible refine aw_seq ?_ | with_reducible refine aw_region ?_ | with_reducible refine al_nil ?_ | with_reducible refine aq_then ?_ | with_reducible refine aw_block ?_ | with_reducible refine aw_skip ?_ | with_reducible refine aw_ret ?_ | with_reducible refine aq_then_ret ?_ | with_reducible refine aq_block_ret ?_ | with_reducible refine aq_block ?_ | (refine aw_cond_dt rfl (by with_reducible rfl) (by assumption) ?_) | (refine aw_cond rfl (by with_reducible rfl) (fun hc => ?_) (fun hc => ?_)))
  all_goals
    refine aq_ret3 (by exact .inr rfl) rfl (.tmp _ _ rfl) (.tmp _ _ rfl) (.tmp _ _ rfl) (fun _ => ?_) (fun _ => ?_) (fun _ => ?_)
    all_goals
      refine fin_bool ?_
      simp only [useA, useB, useT]
      symm
      first | (rw [decide_eq_true_iff]; omega) | (rw [decide_eq_false_iff_not]; omega)
end Go.Proofs.YtfchjaoeogolnaaGreatDoor
/- The abstract walk, part 19: function literals that capture values, calls of function values. -/
namespace Go.Proofs.YtfchjaoeogolnaaGreatDoor
open Go Go.RowKit
section
variable {P : Program} {w0 : World} {N : Nat} {Q : Exit → Act → World → Prop} {env : Env} {objs objs' : Objs} {o : Oper}
inductive Evs (env : Env) : List Operand → List TV → Prop
  | nil : Evs env [] []
  | cons (x : Operand) (xs : List Operand) (t : TV) (ts : List TV) (h : ev env x = some t) (hr : Evs env xs ts) : Evs env (x :: xs) (t :: ts)
theorem evs_rep {w : World} {a : Act} {xs : List Operand} {l : List TV} (h : Evs env xs l) (hop : ∀ x ∈ xs, ∀ v, ev env x = some v → Rep w objs v (a.eval x)) : l.length = xs.length ∧ ∀ (i : Nat) (t : TV) (v : Value), l[i]? = some t → (xs.map a.eval)[i]? = some v → Rep w objs t v := by
  induction h with
  | nil => simp
  | cons x xs t ts h hr ih =>
    obtain ⟨h1, h2⟩ := ih (fun y hy => hop y (by simp [hy]))
    refine ⟨by simpa using h1, fun i u v hu hv => ?_⟩
    cases i with
    | zero => simp at hu hv; subst hu; subst hv; exact hop x (by simp) t h
    | succ i => exact h2 i u v (by simpa using hu) (by simpa using hv)
theorem y_makeFunc {f : Nat} {xs : List Operand} {l : List TV} (ho : o.op = .makeFunc (.func f) #[] xs.toArray) (hx : Evs env xs l) : Yields P w0 env objs o (.fn f l) := yields_same fun a w hw hop => by
  obtain ⟨h1, h2⟩ := evs_rep (objs := objs) (w := w) (a := a) hx (fun x hx v hv => hop x (by simp [ho, Op.operands, hx]) v hv)
  refine ⟨.func (.func f) #[] (xs.map a.eval).toArray, ?_, .fn f l _ (by simpa using h1) (fun i t v ht hv => h2 i t v ht (by simpa using hv))⟩
  simp only [execOp, ho]
  refine exec_v ?_
  simp [Instr.makeFunc, Sem.run_pure, List.map_toArray]
/-- Captured values, as the function that captured them sees them. -/
inductive Views (objs : Objs) : List TV → List TV → Prop
  | nil : Views objs [] []
  | cons (t t' : TV) (l l' : List TV) (h : View objs t t') (hr : Views objs l l') : Views objs (t :: l) (t' :: l')
theorem views_get {l l' : List TV} (h : Views objs l l') : l'.length = l.length ∧ ∀ (i : Nat) (t t' : TV), l[i]? = some t → l'[i]? = some t' → View objs t t' := by
  induction h with
  | nil => simp
  | cons t t' l l' h hr ih =>
    refine ⟨by simpa using ih.1, fun i u u' hu hu' => ?_⟩
    cases i with
    | zero => simp at hu hu'; subst hu; subst hu'; exact h
    | succ i => exact ih.2 i u u' (by simpa using hu) (by simpa using hu')
theorem exec_callF {f : Nat} {x : Operand} {xs : List Operand} {vs : Array Value} {ts : Array TypeId} (ho : o.op = .call { callee := .value x, args := xs.toArray, argTypes := ts }) (hc : callB P f = true) (a : Act) (w : World) (hx : a.eval x = .func (.func f) #[] vs) : (execOp a.eval o).run P w = .ok (.enter f ((xs.map a.eval).toArray ++ vs)) w := by
  simp only [execOp, ho, resolve, hx, Sem.run_bind, Sem.run_pure, Result.andThen_ok, Deferred.ofValue, invoke]
  simp [run_callFunc hc, Sem.run_pure, Result.andThen_ok, List.map_toArray]
theorem y_callF {G : World → Prop} {f : Nat} {x : Operand} {xs : List Operand} {ts : Array TypeId} {l l' args : List TV} {r : Nat → TV} (ho : o.op = .call { callee := .value x, args := xs.toArray, argTypes := ts }) (hx : ev env x = some (.fn f l)) (hc : callB P f = true) (hargs : Args env objs xs args) (hl : Views objs l l')
    (hct : Ct P G f (args ++ l') r) (hG : G w0) (hst : Stable G) : Yields P w0 env objs o (r w0.heap.size) := fun a w K Q hw hop hK => by
  obtain ⟨h1, h2⟩ := args_rep hw (a := a) hargs (fun x hx v hv => hop x (by simp [ho, Op.operands, Call.operands, hx]) v hv)
  have hfn := hop x (by simp [ho, Op.operands, Call.operands]) _ hx
  generalize hv : a.eval x = v at hfn
  cases hfn with
  | fn f l vs g1 g2 =>
    obtain ⟨g3, g4⟩ := views_get hl
    unfold Oper.wp
    rw [exec_callF ho hc a w hv]
    refine (hct w _ (Nat.lt_of_lt_of_le hw.pos hw.below.size) (hst.below _ _ hG hw.below) (by simp at h1; simp; omega) (fun i t v ht hv' => ?_)).mono ?_
    · rw [List.length_map] at h1
      by_cases hi : i < args.length
      · rw [List.getElem?_append_left hi] at ht
        rw [Array.getElem?_append_left (by simp; omega)] at hv'
        exact h2 i t v ht (by simpa using hv')
      · rw [List.getElem?_append_right (by omega)] at ht
        rw [Array.getElem?_append_right (by simp; omega)] at hv'
        simp only [List.size_toArray, List.length_map] at hv'
        rw [h1] at hv'
        obtain ⟨t0, h5⟩ := get_of_len g3 ht
        exact view_rep hw (g4 _ _ _ h5 ht) (g2 _ _ _ h5 hv')
    · rintro e w' ⟨v, rfl, hb, hr⟩
      have hk : ∀ b, b < w.heap.size → w'.heap[b]? = w.heap[b]? := fun b hlt => hb.block b hlt
      have hbel : Below w0.heap.size w0 w' := hw.below.trans (hb.mono hw.below.size)
      exact hK v w' (Rep.ofOld (fun b ha => by obtain ⟨_, s, ob, hm⟩ := ha; exact objs_lt hw hm) (hr _ hw.below.size)) (hw.grow hbel hb.size hk) (step_grow objs hb.size hk)
/-- A row that the call owned is written no more. -/
theorem rep_freeze {w : World} (hw : SimW w0 objs w) {s b m : Nat} {rows : List (List TV)} (hm : (s, b, TObj.row m rows) ∈ objs) {v : Value} (hr : Rep w objs (.ms s b 0 rows.length) v) (hp : Pick objs' objs) (hna : ¬ alive objs' b) : Rep w objs' (.sl w0.heap.size m rows) v := by
  obtain ⟨⟨hm0, hci⟩, hmm, hor⟩ := hw.obj s b _ hm
  rcases (rep_ms hr).or m rows hm with ⟨_, _, hlen, rfl⟩ | ⟨hb0, q, c, e, k, rfl, hlc, hsh, hk, ho⟩
  · have : rows = [] := List.eq_nil_of_length_eq_zero hlen
    subst this
    exact .sl _ m [] none 0 (Nat.le_refl _) (by simp) (by simp) (by simp) (fun _ => undef) (by simp) (by simp)
  · rcases hor with ⟨h0, _⟩ | ⟨hB, cur, e', cap, h3, h4, h5, h6, h7⟩
    · exact absurd h0 hb0
    have hcm : c ≤ maxLen := by
      have h8 : w.shape? b = some (e', cur.size) := by unfold World.shape?; rw [h3]
      rw [h8] at hsh
      simp only [Option.some.injEq, Prod.mk.injEq] at hsh
      have h9 : cap * m = (0 + c) * m := by omega
      have := Nat.eq_of_mul_eq_mul_right hm0 h9
      omega
    have hq : q = 0 := by simpa using ho (.inr rfl)
    subst hq
    have key : ∀ j, ∃ u, ∀ t', rows.flatten[j]? = some t' → w.cell? ⟨b, 0 + j, none⟩ = some u ∧ Rep w objs' t' u := fun j => by
      cases hj : rows.flatten[j]? with
      | none => exact ⟨undef, fun t' ht => by cases ht⟩
      | some t =>
        obtain ⟨u, p1, p2⟩ := h7 _ t hj
        exact ⟨u, fun t' ht => by cases ht; exact ⟨by rw [cell_of_row w b _ cur e' (0, 0) h3, Nat.zero_add]; exact p1, p2.step (step_sub hp w)⟩⟩
    exact .sl _ m rows (some ⟨b, 0, none⟩) c hlc hcm hmm hci (fun j => Classical.choose (key j)) (fun j t hj => ⟨b, 0, rfl, ⟨hB, hna⟩, (Classical.choose_spec (key j) t hj).1⟩) (fun j t hj => (Classical.choose_spec (key j) t hj).2)
theorem Sim.freeze {a : Act} {w : World} (hs : Sim w0 N env objs a w) {t s b m n : Nat} {rows : List (List TV)} (hx : lk t env = some (.ms s b 0 n)) (hn : rows.length = n) (hd : DelS s b (.row m rows) objs objs') : Sim w0 N ((t, .sl w0.heap.size m rows) :: env) objs' a w := by
  subst hn
  have hdel : Pick ((s, b, .row m rows) :: objs') objs := .perm hd.del.perm
  have hp : Pick objs' objs := (Pick.drop (.refl _)).trans hdel
  have hmem : (s, b, TObj.row m rows) ∈ objs := hdel.mem _ List.mem_cons_self
  have hpw := hdel.sites hs.mem.sites
  have hna : ¬ alive objs' b := fun ha => by
    obtain ⟨h0, s', o', hm'⟩ := ha
    have := (List.pairwise_cons.1 hpw).1 _ hm'
    rcases this.2 with h | h
    · exact h rfl
    · exact h0 h
  have hs' := hs.pick hp
  refine ⟨hs'.defers, hs'.size, hs'.mem, fun t' v hv => ?_⟩
  rw [lk_cons] at hv
  split at hv
  · rename_i he
    subst he
    cases hv
    exact rep_freeze hs.mem hmem (hs.env t _ hx) hp hna
  · exact hs'.env t' v hv
theorem aq_freeze {x : Exit} {t s b m n : Nat} {rows : List (List TV)} (hx : lk t env = some (.ms s b 0 n)) (hn : rows.length = n) (hd : DelS s b (.row m rows) objs objs') (h : AQ w0 N Q x ((t, .sl w0.heap.size m rows) :: env) objs') : AQ w0 N Q x env objs := ⟨fun a w hs => h.run a w (hs.freeze hx hn hd)⟩
theorem nat_sub {m n : Nat} (h : n ≤ m) : ((m : Int) - (n : Int)) = ((m - n : Nat) : Int) := by omega
/-- A part of a row that nobody writes. -/
theorem y_slice_h_sl {T : TypeId} {x hi : Operand} {f m : Nat} {rows : List (List TV)} {k1 : IntKind} {n : Int} {j : Nat} (ho : o.op = .slice T x none (some hi) none) (hx : ev env x = some (.sl f m rows)) (hhi : ev env hi = some (.int k1 n))
    (hT : P.underlying T = some (.slice (P.elem T))) (hI : (P.info? (P.elem T)).isSome = true) (hn : n = (j : Int)) (hj : j ≤ rows.length) : Yields P w0 env objs o (.sl f m (rows.take j)) := yields_same fun a w hw hop => by
  have h0 := hop x (slice_opnd ho) _ hx
  have h1 := (hop hi (by simp [ho, Op.operands]) _ hhi).int_inv
  generalize hv : a.eval x = v at h0
  obtain ⟨A, c, rfl, g1, g2, g3, g4, g5⟩ := rep_sl h0
  have hlen : (rows.take j).length = j := by simp; omega
  cases hie : P.info? (P.elem T) with
  | none => rw [hie] at hI; cases hI
  | some ie =>
  have hfl : ∀ (q : Nat) (t : TV), (rows.take j).flatten[q]? = some t → rows.flatten[q]? = some t := fun q t hq => by
    rw [flatten_take g3, List.getElem?_take] at hq
    split at hq
    · exact hq
    · cases hq
  have key : ∀ q, ∃ u, ∀ t, (rows.take j).flatten[q]? = some t → (∃ b o, A = some ⟨b, o, none⟩ ∧ ZZ objs f b ∧ w.cell? ⟨b, o + q, none⟩ = some u) ∧ Rep w objs t u := fun q => by
    cases hq : (rows.take j).flatten[q]? with
    | none => exact ⟨undef, fun t ht => by cases ht⟩
    | some t =>
      obtain ⟨b, o, u, p1, p2, p3, p4⟩ := g5 q t (hfl q t hq)
      exact ⟨u, fun t' ht => by cases ht; exact ⟨⟨b, o, p1, p2, p3⟩, p4⟩⟩
  have hr := Rep.sl (w := w) (objs := objs) f m (rows.take j) A c (by omega) g2 (fun r hr => g3 r (List.mem_of_mem_take hr)) (fun t ht => by
      obtain ⟨r, h2, h3⟩ := List.mem_flatten.1 ht
      exact g4 t (List.mem_flatten.2 ⟨r, List.mem_of_mem_take h2, h3⟩)) (fun q => Classical.choose (key q)) (fun q t hq => ((Classical.choose_spec (key q)) t hq).1) (fun q t hq => ((Classical.choose_spec (key q)) t hq).2)
  rw [hlen] at hr
  refine ⟨.slice A j c, ?_, hr⟩
  simp only [execOp, ho, h1, hv, Option.map_some, Option.map_none]
  refine exec_v ?_
  rw [run_sliceAt_slice w T _ _ _ _ hT, run_slice_h w T _ rows.length c hT k1 n (by omega) (by omega), run_sizeOf w hie]
  subst hn
  cases A <;> simp [Result.andThen_ok, sliced, Addr.add]
variable {ops : Array Oper} {rest : List Oper} {d T0 : Nat} {pos : String} {af : Array Edge} {g : Option (Nat × Bool)} {K : Env → Prop}
theorem o_makeFunc {f : Nat} {xs : List Operand} {l : List TV} (hN : Nat.blt d N = true) (hx : Evs env xs l) (h : AL P w0 N ops Q rest ((d, .fn f l) :: env) objs) : AO P w0 N ops Q ⟨some d, .makeFunc (.func f) #[] xs.toArray, T0, pos, af, g⟩ rest env objs := ao_q rfl hN (y_makeFunc rfl hx) h
theorem o_callF {G : World → Prop} {t f : Nat} {xs : List Operand} {ts : Array TypeId} {l l' args all : List TV} {r : Nat → TV} (hN : Nat.blt d N = true) (hx : lk t env = some (.fn f l)) (hc : callB P f = true) (hG : G w0) (hst : Stable G) (hargs : Args env objs xs args) (hl : Views objs l l') (ha : args ++ l' = all) (hct : Ct P G f all r)
    (h : AL P w0 N ops Q rest ((d, r w0.heap.size) :: env) objs) : AO P w0 N ops Q ⟨some d, .call { callee := .value (.tmp t), args := xs.toArray, argTypes := ts }, T0, pos, af, g⟩ rest env objs := ao_q rfl hN (y_callF (x := .tmp t) rfl hx hc hargs hl (ha ▸ hct) hG hst) h
theorem d_callF {G : World → Prop} {t f : Nat} {xs : List Operand} {ts : Array TypeId} {l l' args all : List TV} {r : Nat → TV} (hN : Nat.blt d N = true) (hx : lk t env = some (.fn f l)) (hc : callB P f = true) (hG : G w0) (hst : Stable G) (hargs : Args env objs xs args) (hl : Views objs l l') (ha : args ++ l' = all) (hct : Ct P G f all r)
    (h : DR P w0 N ops objs K rest ((d, r w0.heap.size) :: env)) : DO P w0 N ops objs K ⟨some d, .call { callee := .value (.tmp t), args := xs.toArray, argTypes := ts }, T0, pos, af, g⟩ rest env := ⟨fun hgr => .run _ _ _ _ _ rfl hN hgr (y_callF (x := .tmp t) rfl hx hc hargs hl (ha ▸ hct) hG hst) h⟩
theorem o_slice_h_sl {T : TypeId} {x hi : Operand} {f m : Nat} {rows rows2 : List (List TV)} {k1 : IntKind} {n : Int} {j : Nat} (hN : Nat.blt d N = true) (hx : ev env x = some (.sl f m rows)) (hhi : ev env hi = some (.int k1 n)) (hT : P.underlying T = some (.slice (P.elem T))) (hI : (P.info? (P.elem T)).isSome = true) (hn : n = (j : Int)) (hj : j ≤ rows.length) (he : rows.take j = rows2) (h : AL P w0 N ops Q rest ((d, .sl f m rows2) :: env) objs) : AO P w0 N ops Q ⟨some d, .slice T x none (some hi) none, T0, pos, af, g⟩ rest env objs := ao_q rfl hN (he ▸ y_slice_h_sl rfl hx hhi hT hI hn hj) h
theorem d_slice_h_sl {T : TypeId} {x hi : Operand} {f m : Nat} {rows rows2 : List (List TV)} {k1 : IntKind} {n : Int} {j : Nat} (hN : Nat.blt d N = true) (hx : ev env x = some (.sl f m rows)) (hhi : ev env hi = some (.int k1 n)) (hT : P.underlying T = some (.slice (P.elem T))) (hI : (P.info? (P.elem T)).isSome = true) (hn : n = (j : Int)) (hj : j ≤ rows.length) (he : rows.take j = rows2) (h : DR P w0 N ops objs K rest ((d, .sl f m rows2) :: env)) : DO P w0 N ops objs K ⟨some d, .slice T x none (some hi) none, T0, pos, af, g⟩ rest env := ⟨fun hgr => .run _ _ _ _ _ rfl hN hgr (he ▸ y_slice_h_sl rfl hx hhi hT hI hn hj) h⟩
end
end Go.Proofs.YtfchjaoeogolnaaGreatDoor
/- The abstract walk, part 20: a region that draws its order in which one variable is made, anywhere, and is set at the end. -/
namespace Go.Proofs.YtfchjaoeogolnaaGreatDoor
open Go Go.RowKit
/-- Quiet operations, whatever the call owns. -/
inductive DU (P : Program) (w0 : World) (N : Nat) (K : Env → Prop) : List Oper → Env → Prop
  | nil (env : Env) (h : K env) : DU P w0 N K [] env
  | run (o : Oper) (rest : List Oper) (env : Env) (d : Nat) (tv : TV) (hd : o.dst = some d) (hN : Nat.blt d N = true) (hg : o.guard = none) (hy : ∀ objs, Yields P w0 env objs o tv) (h : DU P w0 N K rest ((d, tv) :: env)) : DU P w0 N K (o :: rest) env
section
variable {P : Program} {w0 : World} {N : Nat} {Q : Exit → Act → World → Prop} {objs : Objs} {ops : Array Oper} {env : Env}
theorem du_steps {K : Env → Prop} {l : List Oper} {env : Env} (h : DU P w0 N K l env) : ∃ σ : Nat → Env, (∀ t, lk t (σ 0) = lk t env) ∧ K (σ l.length) ∧ ∀ k o, l[k]? = some o → ∀ objs, StepAt P w0 N ops objs o (σ k) (σ (k + 1)) := by
  induction h with
  | nil env h => exact ⟨fun _ => env, fun _ => rfl, h, by simp⟩
  | run o rest env d tv hd hN hg hy h ih =>
    obtain ⟨σ, h1, h2, h3⟩ := ih
    refine ⟨fun k => match k with | 0 => env | k + 1 => σ k, fun _ => rfl, h2, fun k o' hk objs => ?_⟩
    cases k with
    | zero => simp at hk; subst hk; exact ⟨d, tv, hd, Nat.blt_eq ▸ hN, h1, .inl ⟨.inl hg, hy objs⟩⟩
    | succ k => exact h3 k o' (by simpa using hk) objs
theorem jy_step2 {objs' : Objs} (hok : drawOk ops = true) {k : Nat} (hk : k ≤ ops.size) {σ : Nat → Env} {X : Nat → Prop} {a : Act} {w w' : World} (hJ : JY w0 N ops objs σ k X a w) (hX : Closed ops X) (hXk : ∀ i, X i → i < k) {i d : Nat} {o : Oper} {tv : TV} {v : Value} (hi : ops[i]? = some o) (hik : i < k) (hni : ¬ X i) (hd : o.dst = some d) (hdN : d < N)
    (hσ : ∀ i o, i < k → ops[i]? = some o → StepAt P w0 N ops objs o (σ i) (σ (i + 1))) (hσi : ∀ t, lk t (σ (i + 1)) = lk t ((d, tv) :: σ i)) (hr : Rep w' objs' tv v) (hw : SimW w0 objs' w') (hst : Step w objs w' objs') : JY w0 N ops objs' σ k (fun k => k = i ∨ X k) (a.put (some d) v) w' := by
  refine ⟨hJ.defers, by simp [Act.put, hJ.size], hw, fun t c hc h1 h2 u hu => ?_⟩
  show Rep w' objs' u ((a.tmps.setIfInBounds d v).getD t undef)
  rw [getD_set (by rw [hJ.size]; exact hdN)]
  by_cases hdt : d = t
  · subst hdt
    rw [if_pos rfl]
    have hwi : Writes ops i d := by unfold Writes; rw [hi]; exact hd
    have hic : i < c := Nat.lt_of_not_le fun h => h2 i h hik hwi (.inl rfl)
    have hlast : ∀ m, i + 1 ≤ m → m ≤ c → lk d (σ m) = some tv := fun m => by
      induction m with
      | zero => intro h; omega
      | succ m ih =>
        intro hm1 hm2
        rcases Nat.eq_or_lt_of_le hm1 with h | h
        · have : m = i := by omega
          subst this; rw [hσi, lk_cons, if_pos rfl]
        · have hm : m < ops.size := by omega
          have hom : ops[m]? = some ops[m] := by simp [hm]
          obtain ⟨dm, tm, e1, _, e2, _⟩ := hσ m _ (by omega) hom
          rw [e2, lk_cons, if_neg]
          · exact ih (by omega) (by omega)
          · intro e
            subst e
            have hwm : Writes ops m dm := by unfold Writes; rw [hom]; exact e1
            rcases h1 m (by omega) hwm with h3 | h3
            · omega
            · exact hni (apart_or hok hi hom (by omega) (not_apart_both hd e1) hX h3)
    rw [hlast c hic (Nat.le_refl _)] at hu
    simp only [Option.some.injEq] at hu
    subst hu; exact hr
  · rw [if_neg hdt]
    refine (hJ.cut t c hc (fun m hm hwm => ?_) (fun m hm hmk hwm hx => h2 m hm hmk hwm (.inr hx)) u hu).step hst
    rcases h1 m hm hwm with h3 | h3
    · subst h3
      unfold Writes at hwm
      rw [hi] at hwm
      simp only [Option.bind_some, hd, Option.some.injEq] at hwm
      exact absurd hwm hdt
    · exact h3
/-- A new variable, if one looks away. -/
theorem y_alloc_top {o : Oper} {T : TypeId} {zs : List TV} (ho : o.op = .alloc T) (hz : zeroOk P T = some zs) : Yields P w0 env objs o .top := fun a w K Q hw hop hK => by
  obtain ⟨ss, hf⟩ := site_new objs
  obtain ⟨z, h1, h2, h3⟩ := zero_spec hz w
  have hrun : (execOp a.eval o).run P w = .ok (.value (.pointer (some ⟨w.heap.size, 0, none⟩))) (w.alloc (.cells z.cells T)) := by
    simp only [execOp, ho]
    refine exec_v ?_
    simp [Instr.alloc, Sem.run_bind, h1, newVar, newRow, run_newObj_alloc, Sem.run_pure]
  unfold Oper.wp
  rw [hrun]
  obtain ⟨g1, g2⟩ := hw.alloc (.cells z.cells T)
  exact hK _ _ (.top _) g1 g2
theorem alloc_wp {o : Oper} {T : TypeId} {zs : List TV} (ho : o.op = .alloc T) (hz : zeroOk P T = some zs) {a : Act} {w : World} (hw : SimW w0 objs w) {K : Act → World → Prop} (hK : ∀ ss b v w', Rep w' ((ss, b, .box zs) :: objs) (.mp ss b 0) v → SimW w0 ((ss, b, .box zs) :: objs) w' → Step w objs w' ((ss, b, .box zs) :: objs) → K (a.put o.dst v) w') : o.wp P a w K Q := by
  obtain ⟨ss, hf⟩ := site_new objs
  obtain ⟨z, h1, h2, h3⟩ := zero_spec hz w
  have hst := step_new hw z.cells T ss (.box zs)
  have hrun : (execOp a.eval o).run P w = .ok (.value (.pointer (some ⟨w.heap.size, 0, none⟩))) (w.alloc (.cells z.cells T)) := by
    simp only [execOp, ho]
    refine exec_v ?_
    simp [Instr.alloc, Sem.run_bind, h1, newVar, newRow, run_newObj_alloc, Sem.run_pure]
  unfold Oper.wp
  rw [hrun]
  refine hK ss w.heap.size _ _ (.mp ss _ 0 ⟨by simp, noMark_new hw #[] 0 ss _⟩) (hw.newObj hf ⟨⟨hw.below.size, h2.2⟩, z.cells, T, heap_alloc_new w _, h2.1, fun j t hj => ?_⟩) hst
  have hlt : j < z.cells.size := by rw [h2.1]; exact (List.getElem?_eq_some_iff.1 hj).1
  exact ⟨z.cells[j], by simp [hlt], h3 _ _ j t _ hj (by simp [hlt])⟩
/-- One operation of many, in whatever order. -/
theorem jx_op (hok : drawOk ops = true) {k : Nat} (hk : k ≤ ops.size) {σ : Nat → Env} {X : Nat → Prop} {a : Act} {w : World} (hJ : JY w0 N ops objs σ k X a w) (hX : Closed ops X) (hXk : ∀ i, X i → i < k) {i : Nat} {o : Oper} (ho : ops[i]? = some o) (hik : i < k) (hni : ¬ X i) (hX' : Closed ops fun k => k = i ∨ X k)
    (hσ : ∀ i o, i < k → ops[i]? = some o → StepAt P w0 N ops objs o (σ i) (σ (i + 1))) {K : Act → World → Prop} (hnext : ∀ d v w', o.dst = some d → d < N → Step w objs w' objs → JY w0 N ops objs σ k (fun k => k = i ∨ X k) (a.put (some d) v) w' → K (a.put (some d) v) w') : wpOp P ops Q i K a w := by
  obtain ⟨d, tv, hd, hdN, hσi, hcase⟩ := hσ i o hik ho
  have hguard : ∀ j b c dj, o.guard = some (j, b) → (ops[j]?).bind (·.dst) = some dj → lk dj (σ i) = some (.bool c) → yielded ops a.tmps j = some c := fun j b c dj h1 h2 h3 => by
    have hl : dj ∈ o.looksAt ops := by unfold Oper.looksAt; rw [h1]; simp [h2]
    exact yielded_eq h2 (jy_read hok hk hJ hX hXk ho hik hni hX' hl h3).bool_inv
  unfold wpOp
  rw [ho]
  rcases hcase with ⟨hg, hy⟩ | ⟨hg, rfl⟩
  · have hw : Region.wanted o (yielded ops a.tmps) = true := by
      rcases hg with hg | ⟨j, b, dj, h1, h2, h3⟩
      · simp [Region.wanted, hg]
      · simp [Region.wanted, h1, hguard j b b dj h1 h2 h3]
    simp only [hw, if_true]
    refine .inl (hy a w _ Q hJ.mem (fun x hx v hv => ?_) fun v w' hr hsw hst => ?_)
    · cases x with
      | tmp t =>
        have hl : t ∈ o.looksAt ops := by
          unfold Oper.looksAt
          exact List.mem_append_left _ (List.mem_filterMap.2 ⟨.tmp t, hx, rfl⟩)
        exact jy_read hok hk hJ hX hXk ho hik hni hX' hl hv
      | const u => exact tvOf_rep hv
      | func f => simp only [ev, Option.some.injEq] at hv; subst hv; exact .fn f [] #[] rfl (by simp)
      | global g => cases hv
    · rw [hd]
      exact hnext d v w' hd hdN hst (jy_step hok hk hJ hX hXk ho hik hni hd hdN hσ hσi hr hsw hst)
  · have hw : Region.wanted o (yielded ops a.tmps) = false := by
      rcases hg with ⟨j, b, dj, h1, h2, h3⟩ | ⟨j, c, dj, h1, h2, h3⟩
      · cases b <;> simp [Region.wanted, h1, hguard j _ _ dj h1 h2 h3]
      · have hl : dj ∈ o.looksAt ops := by unfold Oper.looksAt; rw [h1]; simp [h2]
        simp [Region.wanted, h1, yielded_undef h2 (jy_read hok hk hJ hX hXk ho hik hni hX' hl h3).undef_inv]
    simp only [hw, Bool.false_eq_true, if_false]
    rw [hd]
    exact hnext d _ w hd hdN (step_refl _ _) (jy_step hok hk hJ hX hXk ho hik hni hd hdN hσ hσi (.tup [] #[] rfl (by simp)) hJ.mem (step_refl _ _))
/-- What holds when X of the first k operations has been carried out, the making of the variable among them or not. -/
def JZ (w0 : World) (N : Nat) (ops : Array Oper) (objs : Objs) (σ : Nat → Env) (k ia d : Nat) (zs : List TV) (X : Nat → Prop) (a : Act) (w : World) : Prop :=
  (¬ X ia ∧ JY w0 N ops objs σ k X a w) ∨ (X ia ∧ ∃ ss b, JY w0 N ops ((ss, b, .box zs) :: objs) σ k X a w ∧ Rep w ((ss, b, .box zs) :: objs) (.mp ss b 0) (a.tmps.getD d undef))
theorem JZ.congr {σ : Nat → Env} {k ia d : Nat} {zs : List TV} {X Y : Nat → Prop} {a : Act} {w : World} (h : JZ w0 N ops objs σ k ia d zs X a w) (hXY : ∀ i, Y i ↔ X i) : JZ w0 N ops objs σ k ia d zs Y a w := by
  have : Y = X := funext fun i => propext (hXY i)
  rw [this]; exact h
theorem jz_start (hok : drawOk ops = true) {k : Nat} (hk : k ≤ ops.size) (htl : tailOk ops k = true) {σ : Nat → Env} {ia d : Nat} {zs : List TV} (hia : ia < k) (hQ : ∀ ss b, AL P w0 N ops Q (ops.toList.drop k) ((d, .mp ss b 0) :: σ k) ((ss, b, .box zs) :: objs)) {fuel : Nat} {listed : Array Bool} {a : Act} {w : World} (hsz : listed.size = ops.size) (hun : unlisted listed ≤ fuel) (hXk : ∀ i, listed.getD i false = true → i < k)
    (hall : ∀ j, j < k → listed.getD j false = true) (hJ : JZ w0 N ops objs σ k ia d zs (fun i => listed.getD i false = true) a w) : wpAny P .any ops Q fuel listed a w := by
  rcases hJ with ⟨hn, _⟩ | ⟨_, ss, b, hJ, hr⟩
  · exact absurd (hall ia hia) hn
  · refine seq_start (σ := fun c => if c = k then (d, .mp ss b 0) :: σ k else σ c) hok hk htl (by rw [if_pos rfl]; exact hQ ss b) hsz hun hXk hall ⟨hJ.defers, hJ.size, hJ.mem, fun t c hc h1 h2 v hv => ?_⟩
    split at hv
    · rename_i hck
      subst hck
      rw [lk_cons] at hv
      split at hv
      · rename_i hdt
        subst hdt
        cases hv
        exact hr
      · exact hJ.cut t c hc h1 h2 v hv
    · exact hJ.cut t c hc h1 h2 v hv
theorem any_of_jx3 (hok : drawOk ops = true) {k : Nat} (hk : k ≤ ops.size) (htl : tailOk ops k = true) {σ : Nat → Env} {ia d : Nat} {T : TypeId} {zs : List TV} {oa : Oper} (hia : ia < k) (hoa : ops[ia]? = some oa) (hop : oa.op = .alloc T) (hda : oa.dst = some d) (hdN : d < N) (hz : zeroOk P T = some zs) (hga : oa.guard = none)
    (hother : ∀ j o, j < k → ops[j]? = some o → j ≠ ia → o.dst ≠ some d) (hσ : ∀ i o, i < k → ops[i]? = some o → ∀ objs, StepAt P w0 N ops objs o (σ i) (σ (i + 1))) (hσa : ∀ t, lk t (σ (ia + 1)) = lk t ((d, .top) :: σ ia)) (hQ : ∀ ss b, AL P w0 N ops Q (ops.toList.drop k) ((d, .mp ss b 0) :: σ k) ((ss, b, .box zs) :: objs)) :
    ∀ (fuel : Nat) (listed : Array Bool) (a : Act) (w : World), listed.size = ops.size → unlisted listed ≤ fuel → (∀ i, listed.getD i false = true → i < k) → Closed ops (fun i => listed.getD i false = true) → JZ w0 N ops objs σ k ia d zs (fun i => listed.getD i false = true) a w → wpAny P .any ops Q fuel listed a w := by
  intro fuel
  induction fuel with
  | zero =>
    intro listed a w hsz hun hXk hX hJ
    by_cases hall : ∀ j, j < k → listed.getD j false = true
    · exact jz_start hok hk htl hia hQ hsz hun hXk hall hJ
    · exfalso
      apply hall
      intro j hj
      cases hb : listed.getD j false with
      | true => rfl
      | false =>
        exfalso
        have hjl : j < listed.size := by omega
        have : listed[j] ∈ listed.toList.filter (! ·) := List.mem_filter.2 ⟨by simp, by
          simp only [Array.getD_eq_getD_getElem?, Array.getElem?_eq_getElem hjl, Option.getD_some] at hb; simp [hb]⟩
        have := List.length_pos_of_mem this
        unfold unlisted at hun; omega
  | succ fuel ih =>
    intro listed a w hsz hun hXk hX hJ
    by_cases hall : ∀ j, j < k → listed.getD j false = true
    · exact jz_start hok hk htl hia hQ hsz hun hXk hall hJ
    have hsome : ∃ j, j < k ∧ ¬ listed.getD j false = true := by
      refine Classical.byContradiction fun hn => hall fun j hj => Classical.byContradiction fun h => hn ⟨j, hj, h⟩
    refine ⟨fun hr => ?_, fun i hi => ?_⟩
    · exfalso
      have hall2 : ∀ j, j < ops.size → listed.getD j false = true := by
        intro j
        induction j using Nat.strongRecOn with
        | _ j ih =>
          intro hj
          cases hb : listed.getD j false with
          | true => rfl
          | false =>
            have hoj : ops[j]? = some ops[j] := by simp [hj]
            have hmem : j ∈ Region.ready .any ops listed := mem_ready.2 ⟨by
              have hjl : j < listed.size := by omega
              simp only [Array.getD_eq_getD_getElem?, Array.getElem?_eq_getElem hjl, Option.getD_some] at hb ⊢; exact hb, _, hoj, fun e he hbd => ih e.on ((drawOk_spec hok hoj).1 e he hbd) (Nat.lt_trans ((drawOk_spec hok hoj).1 e he hbd) hj)⟩
            rw [hr] at hmem; cases hmem
      obtain ⟨j, hj, hnj⟩ := hsome
      exact hnj (hall2 j (by omega))
    · obtain ⟨h0, o, ho, hed⟩ := mem_ready.1 hi
      have hisz : i < ops.size := (Array.getElem?_eq_some_iff.1 ho).1
      have hil : i < listed.size := by rw [hsz]; exact hisz
      have h0' : listed[i] = false := by simpa [Array.getD_eq_getD_getElem?, hil] using h0
      have hni : ¬ listed.getD i false = true := by simp [hil, h0']
      have hXeq : ∀ k, (listed.setIfInBounds i true).getD k false = true ↔ (k = i ∨ listed.getD k false = true) := fun k => by
        by_cases hk : k = i
        · subst hk; simp [hil]
        · rw [getD_set_ne false (Ne.symm hk)]; simp [hk]
      have hX' : Closed ops fun k => k = i ∨ listed.getD k false = true := fun j oj hj hx e he hb => by
        rcases hx with rfl | hx
        · rw [hj] at ho; cases ho; exact .inr (hed e he hb)
        · exact .inr (hX j oj hj hx e he hb)
      have hik : i < k := Nat.lt_of_not_le fun hge => by
        obtain ⟨j, hj, hnj⟩ := hsome
        have := closed_reach hok hX' i hisz (.inl rfl) j (by omega) (tailOk_spec htl hisz hge (by omega))
        rcases this with h | h
        · omega
        · exact hnj h
      have hXs : Closed ops fun k => (listed.setIfInBounds i true).getD k false = true := fun j oj hj hx e he hb => (hXeq _).2 (hX' j oj hj ((hXeq _).1 hx) e he hb)
      have hun' : unlisted (listed.setIfInBounds i true) ≤ fuel := by
        have key : ∀ (l : List Bool) (i : Nat), l[i]? = some false → ((l.set i true).filter (! ·)).length + 1 = (l.filter (! ·)).length := fun l => by
          induction l with
          | nil => intro i h; simp at h
          | cons x l ih =>
            intro i h
            cases i with
            | zero => simp at h; subst h; simp
            | succ i =>
              have := ih i (by simpa using h)
              cases x <;> simp [List.filter_cons] at this ⊢ <;> omega
        have := key listed.toList i (by simp [hil, h0'])
        unfold unlisted at hun ⊢
        simp only [Array.toList_setIfInBounds]
        omega
      have hnext : ∀ a' w', JZ w0 N ops objs σ k ia d zs (fun k => k = i ∨ listed.getD k false = true) a' w' → wpAny P .any ops Q fuel (listed.setIfInBounds i true) a' w' := fun a' w' hJ' =>
        ih _ a' w' (by simpa using hsz) hun' (fun j hj => ((hXeq j).1 hj).elim (fun e => e ▸ hik) (hXk j)) hXs (hJ'.congr hXeq)
      rcases hJ with ⟨hn, hJ⟩ | ⟨hy, ss, b, hJ, hrep⟩
      · by_cases hii : i = ia
        · subst hii
          rw [hoa] at ho
          cases ho
          unfold wpOp
          rw [hoa]
          have hw : Region.wanted oa (yielded ops a.tmps) = true := by simp [Region.wanted, hga]
          simp only [hw, if_true]
          refine .inl (alloc_wp hop hz hJ.mem fun ss b v w' hr hsw hst => ?_)
          rw [hda]
          refine hnext _ _ (.inr ⟨.inl rfl, ss, b, jy_step2 hok hk hJ hX hXk hoa hik hni hda hdN (fun i o h1 h2 => hσ i o h1 h2 objs) hσa (.top v) hsw hst, ?_⟩)
          show Rep w' _ _ ((a.tmps.setIfInBounds d v).getD d undef)
          rw [getD_set (by rw [hJ.size]; exact hdN), if_pos rfl]
          exact hr
        · refine jx_op hok hk hJ hX hXk ho hik hni hX' (fun i o h1 h2 => hσ i o h1 h2 objs) fun d' v w' _ _ hst hJ' => hnext _ _ (.inl ⟨fun h => ?_, hJ'⟩)
          rcases h with h | h
          · exact hii h.symm
          · exact hn h
      · have hii : i ≠ ia := fun h => hni (h ▸ hy)
        refine jx_op hok hk hJ hX hXk ho hik hni hX' (fun i o h1 h2 => hσ i o h1 h2 _) fun d' v w' hd' hd'N hst hJ' => hnext _ _ (.inr ⟨.inr hy, ss, b, hJ', ?_⟩)
        show Rep w' _ _ ((a.tmps.setIfInBounds d' v).getD d undef)
        rw [getD_set (by rw [hJ.size]; exact hd'N), if_neg (fun h => hother i o hik ho hii (by rw [hd', h]))]
        exact hrep.step hst

/-- A region that draws its order: quiet operations (l1), the making of a variable, then the rest in order. -/
theorem aw_draw3 (k : Nat) {id d : Nat} {l l1 l2 : List Oper} {oa : Oper} {T : TypeId} {zs : List TV} {env : Env} (hm : P.follows .mixedOrders = true) (hok : drawOk l.toArray = true) (htl : tailOk l.toArray (k + 1) = true) (hc : Cut k l l1 (oa :: l2)) (hop : oa.op = .alloc T) (hda : oa.dst = some d) (hga : oa.guard = none) (hdN : Nat.blt d N = true) (he : zT T = zs) (hz : zeroOk P T = some zs)
    (hno : (l1.all fun o => !(o.dst == some d)) = true) (h : DU P w0 N (fun env' => ∀ ss b, AL P w0 N l.toArray Q l2 ((d, .mp ss b 0) :: env') ((ss, b, .box zs) :: objs)) l1 env) : AW P w0 N (.region id l.toArray true) Q env objs := ⟨fun a w hs => by
  obtain ⟨e1, e2, hkl⟩ := hc.eq
  have hkl2 : k < l.length := Nat.lt_of_not_le fun hge => by rw [List.drop_of_length_le hge] at e2; cases e2
  have hd2 : l.drop (k + 1) = l2 := by
    rw [List.drop_eq_getElem_cons hkl2] at e2
    exact (List.cons.inj e2).2.symm
  have hoa : l[k]? = some oa := by
    rw [List.drop_eq_getElem_cons hkl2] at e2
    rw [List.getElem?_eq_getElem hkl2, (List.cons.inj e2).1]
  obtain ⟨σ0, h1, h2, h3⟩ := du_steps (ops := l.toArray) h
  have hl1 : l1.length = k := by rw [e1, List.length_take]; omega
  rw [hl1] at h2
  have hdN' : d < N := Nat.blt_eq ▸ hdN
  -- the chain, with the variable's slot unknown behind its making
  have hσ : ∃ σ : Nat → Env, (∀ c, c ≤ k → σ c = σ0 c) ∧ σ (k + 1) = (d, .top) :: σ0 k := ⟨fun c => if c ≤ k then σ0 c else (d, .top) :: σ0 k, fun c hc => by simp [hc], if_neg (by omega)⟩
  obtain ⟨σ, hs1, hs2⟩ := hσ
  have hst : ∀ i o, i < k + 1 → l[i]? = some o → ∀ objs, StepAt P w0 N l.toArray objs o (σ i) (σ (i + 1)) := fun i o hi ho objs => by
    by_cases hik : i < k
    · rw [hs1 i (by omega), hs1 (i + 1) (by omega)]
      exact h3 i o (by rw [e1, List.getElem?_take, if_pos hik]; exact ho) objs
    · obtain rfl : i = k := by omega
      rw [hoa] at ho; cases ho
      rw [hs1 i (Nat.le_refl _), hs2]
      exact ⟨d, .top, hda, hdN', fun _ => rfl, .inl ⟨.inl hga, y_alloc_top hop hz⟩⟩
  have hrep : ∀ i, (Array.replicate l.toArray.size false).getD i false = false := fun i => by
    rcases Nat.lt_or_ge i l.toArray.size with h | h
    · simp at h; simp [h]
    · simp at h; simp [Array.getD_eq_getD_getElem?, Array.getElem?_eq_none, h]
  refine wp_region_any hm (any_of_jx3 (objs := objs) hok (k := k + 1) (by simp; omega) htl (σ := σ) (ia := k) (d := d) (T := T) (zs := zs) (oa := oa) (Nat.lt_succ_self k) (by simpa using hoa) hop hda hdN' hz hga (fun j o hj ho hne hd => ?_) (fun i o hi ho => hst i o hi (by simpa using ho)) (fun t => by rw [hs2, hs1 k (Nat.le_refl _)]) (fun ss b => ?_) _ _ _ _ (by simp) (by simp [unlisted]) (fun i hi => by rw [hrep] at hi; cases hi) (fun j oj _ hx => nomatch (hrep j).symm.trans hx) (.inl ⟨(fun h => nomatch (hrep k).symm.trans h), hs.defers, hs.size, ?_, fun t c hc h4 h5 v hv => ?_⟩))
  · have hmem : o ∈ l1 := by
      have : l1[j]? = some o := by rw [e1, List.getElem?_take, if_pos (by omega)]; simpa using ho
      exact List.mem_of_getElem? this
    have := List.all_eq_true.1 hno o hmem
    rw [hd] at this
    simp at this
  · rw [hs2]
    have : (l.toArray.toList.drop (k + 1)) = l2 := by simpa using hd2
    rw [this]
    refine ⟨fun a w hs => (h2 ss b).run a w ⟨hs.defers, hs.size, hs.mem, fun t v hv => hs.env t v ?_⟩⟩
    rw [lk_cons] at hv ⊢
    split
    · rename_i hdt; rw [if_pos hdt] at hv; exact hv
    · rename_i hdt
      rw [if_neg hdt] at hv
      rw [lk_cons, if_neg hdt]; exact hv
  · exact hs.mem.grow ⟨hs.mem.below.os, hs.mem.below.tape, hs.mem.below.output, hs.mem.below.size, hs.mem.below.block⟩ (Nat.le_refl _) (fun _ _ => rfl)
  · have hk0 : ∀ m, m ≤ c → lk t (σ m) = lk t (σ 0) := fun m => by
      induction m with
      | zero => intro _; rfl
      | succ m ih =>
        intro hm2
        have hml : m < l.length := by omega
        obtain ⟨d, tv, e1, _, e2, _⟩ := hst m l[m] (by omega) (List.getElem?_eq_getElem hml) objs
        rw [e2, lk_cons, if_neg]
        · exact ih (by omega)
        · intro e
          have := h4 m (by omega) (by unfold Writes; simp [hml, e1, e])
          rw [hrep] at this; cases this
    rw [hk0 c (Nat.le_refl _), hs1 0 (Nat.zero_le _), h1 t] at hv
    have hst : Step w objs { w with drawn := w.drawn + 1 } objs := ⟨fun _ _ _ => rfl, fun _ _ h => h, fun _ _ _ rows _ _ h => ⟨⟨rows, h⟩, rfl⟩, Nat.le_refl _, fun h => h⟩
    exact (hs.env t v hv).step hst⟩
variable {K : Env → Prop} {rest : List Oper} {d T0 : Nat} {pos : String} {af : Array Edge}
theorem du_nil (h : K env) : DU P w0 N K [] env := .nil _ h
theorem u_move {x : Operand} {tv : TV} (hN : Nat.blt d N = true) (hx : ev env x = some tv) (h : DU P w0 N K rest ((d, tv) :: env)) : DU P w0 N K (⟨some d, .move x, T0, pos, af, none⟩ :: rest) env := .run _ _ _ _ _ rfl hN rfl (fun _ => y_move rfl hx) h
theorem u_nilCheck_cp {x : Operand} {f : Nat} {l : List TV} (hN : Nat.blt d N = true) (hx : ev env x = some (.cp f l)) (h : DU P w0 N K rest ((d, .cp f l) :: env)) : DU P w0 N K (⟨some d, .nilCheck x, T0, pos, af, none⟩ :: rest) env := .run _ _ _ _ _ rfl hN rfl (fun _ => y_nilCheck rfl hx (fun _ => .cp f l)) h
theorem u_load_cp {T : TypeId} {x : Operand} {c : TV} {rr : List TV} {f : Nat} {l : List TV} (hN : Nat.blt d N = true) (hA : agT T = false) (hT : isScal P T = true) (hx : ev env x = some (.cp f l)) (hl : l = c :: rr) (h : DU P w0 N K rest ((d, c) :: env)) : DU P w0 N K (⟨some d, .load T x, T0, pos, af, none⟩ :: rest) env := .run _ _ _ _ _ rfl hN rfl (fun _ => y_load rfl hT hx (fun _ => .cp f l) hl) h
theorem u_load_agg_cp {T : TypeId} {x : Operand} {out : List TV} {f : Nat} {l : List TV} (hN : Nat.blt d N = true) (hA : agT T = true) (hT : isAggB P T = true) (hi : (P.info? T).isSome = true) (hs : P.cellsOf T = szT T) (hx : ev env x = some (.cp f l)) (htk : Taken (szT T) (l) out) (h : DU P w0 N K rest ((d, .agg out) :: env)) : DU P w0 N K (⟨some d, .load T x, T0, pos, af, none⟩ :: rest) env := .run _ _ _ _ _ rfl hN rfl (fun _ => y_load_agg rfl hT hi hs hx (fun _ => .cp f l) htk) h
theorem u_fieldAddr {T : TypeId} {x : Operand} {tv tv2 : TV} {i : Nat} (hN : Nat.blt d N = true) (hx : ev env x = some tv) (hF : fieldB P T i = true) (ht : tvOff (ofT T i) tv = some tv2) (h : DU P w0 N K rest ((d, tv2) :: env)) : DU P w0 N K (⟨some d, .fieldAddr T x i, T0, pos, af, none⟩ :: rest) env := .run _ _ _ _ _ rfl hN rfl (fun _ => y_fieldAddr rfl hx hF ht) h
theorem u_indexAddr {T : TypeId} {x i : Operand} {f m : Nat} {rows : List (List TV)} {kk : IntKind} {n : Int} {j : Nat} {r : List TV} (hN : Nat.blt d N = true) (hx : ev env x = some (.sl f m rows)) (hi : ev env i = some (.int kk n)) (hT : P.underlying T = some (.slice (P.elem T))) (hI : (P.info? (P.elem T)).isSome = true) (hm : P.cellsOf (P.elem T) = m) (hm0 : Nat.blt 0 m = true) (hn : n = (j : Int)) (hr : rows[j]? = some r) (h : DU P w0 N K rest ((d, .cp f r) :: env)) : DU P w0 N K (⟨some d, .indexAddr T x i, T0, pos, af, none⟩ :: rest) env := .run _ _ _ _ _ rfl hN rfl (fun _ => y_indexAddr rfl hx hi hT hI hm hm0 hn hr) h
theorem u_len_sl {x : Operand} {t : TypeId} {f m n : Nat} {rows : List (List TV)} (hN : Nat.blt d N = true) (hx : ev env x = some (.sl f m rows)) (hT : P.underlying t = some (.slice (P.elem t))) (hn : rows.length = n) (h : DU P w0 N K rest ((d, .int .i64 (n : Int)) :: env)) : DU P w0 N K (⟨some d, .call { callee := .builtin .len, args := #[x], argTypes := #[t] }, T0, pos, af, none⟩ :: rest) env := .run _ _ _ _ _ rfl hN rfl (fun _ => y_len_sl rfl hx hT hn) h
theorem u_sub {t t2 : TypeId} {x y : Operand} {k : IntKind} {m n c : Int} (hN : Nat.blt d N = true) (hx : ev env x = some (.int k m)) (hy : ev env y = some (.int k n)) (hc : k.wrap (m - n) = c) (h : DU P w0 N K rest ((d, .int k c) :: env)) : DU P w0 N K (⟨some d, .binOp .sub t x y t2, T0, pos, af, none⟩ :: rest) env := .run _ _ _ _ _ rfl hN rfl (fun _ => y_sub rfl hx hy hc) h
end
end Go.Proofs.YtfchjaoeogolnaaGreatDoor
/- IsVerified: selectors as contracts; what is new memory of the depths. -/
namespace Go.Proofs.YtfchjaoeogolnaaGreatDoor
open Go Go.RowKit
def GL (w : World) : Prop := MaxL w
theorem GL_st : Stable GL := ⟨fun _ _ h hb => MaxL.below h hb⟩
theorem hcaS (s : ByteArray) (hs : s.size ≤ 1048576) : Ct Tryz.prog GL 109 [.str s] (fun _ => .int .i64 (nArgsL s.data.toList)) := ct_str_int fun w _ => specCountArgs_any s w hs
theorem hseS (s : ByteArray) (hs : s.size ≤ 1048576) : Ct Tryz.prog GL 108 [.str s] (fun _ => .bool (isSelL s.data.toList)) := ct_str_bool fun w _ => specIsSelector_any s w hs
theorem hcaI (s : ByteArray) (hs : s.size ≤ 1048576) : Ct Tryz.prog GL 80 [.str s] (fun _ => .int .i64 (nArgsL s.data.toList)) := ct_str_int fun w hG => countArgs_any s w hs hG
theorem hseI (s : ByteArray) (hs : s.size ≤ 1048576) : Ct Tryz.prog GL 79 [.str s] (fun _ => .bool (isSelL s.data.toList)) := ct_str_bool fun w hG => isSelector_any s w hs hG
theorem dO_new (r : Option (List Int)) : ∀ y : Nat × Nat, True → (∀ s b o, (s, b, o) ∈ dO r y → ObjNew (dO r y) o) ∧ NewOk (dO r y) (dR r y) := fun y _ =>
  ⟨fun s b o h => by
    simp only [dO, List.mem_singleton, Prod.mk.injEq] at h
    obtain ⟨_, _, rfl⟩ := h
    exact flat_new (intR_flat _), .tup _ fun t ht => by
    simp only [List.mem_cons, List.not_mem_nil, or_false] at ht
    rcases ht with rfl | rfl
    · exact .ms _ _ _ _ _ _ List.mem_cons_self
    · exact .flat _ rfl⟩
theorem instrs_tw (lo : Nat) (is : List TInstr) : instrR is = is.map (TInstr.tw lo) := rfl
end Go.Proofs.YtfchjaoeogolnaaGreatDoor
