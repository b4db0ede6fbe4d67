/- Part 4 of the proof: the texts EngO, EngR, EngS, EngR2, EngU, EngV, EngW, EngX. -/
import Derived.Test.YtdeokcbbjibkoaaGreatDoorPart3
import Derived.Laws.MakeOwn
/- The abstract walk, part 9: the rules with the operation written in the conclusion, by program. -/
namespace Go.Proofs.YtdeokcbbjibkoaaGreatDoor
open Go Go.RowKit
section
variable {P : Program} {w0 : World} {N : Nat} {Q : Exit → Act → World → Prop} {env : Env} {objs : Objs} {ops : Array Oper} {rest : List Oper} {d T0 : Nat} {pos : String} {af : Array Edge} {g : Option (Nat × Bool)}
theorem o_move {x : Operand} {tv : TV} (hN : Nat.blt d N = true) (hx : ev env x = some tv) (h : AL P w0 N ops Q rest ((d, tv) :: env) objs) : AO P w0 N ops Q ⟨some d, .move x, T0, pos, af, g⟩ rest env objs := ao_q rfl hN (y_move rfl hx) h
theorem o_assign {x : Operand} {tv : TV} (hN : Nat.blt d N = true) (hx : ev env x = some tv) (h : AL P w0 N ops Q rest ((d, tv) :: env) objs) : AO P w0 N ops Q ⟨some d, .assign x, T0, pos, af, g⟩ rest env objs := ao_q rfl hN (y_assign rfl hx) h
theorem o_pick_t {c x y : Operand} {tv cv : TV} (hN : Nat.blt d N = true) (hc : ev env c = some cv) (he : cv = .bool true) (hx : ev env x = some tv) (h : AL P w0 N ops Q rest ((d, tv) :: env) objs) : AO P w0 N ops Q ⟨some d, .pick c x y, T0, pos, af, g⟩ rest env objs := ao_q rfl hN (y_pick_t rfl hc he hx) h
theorem o_pick_f {c x y : Operand} {tv cv : TV} (hN : Nat.blt d N = true) (hc : ev env c = some cv) (he : cv = .bool false) (hx : ev env y = some tv) (h : AL P w0 N ops Q rest ((d, tv) :: env) objs) : AO P w0 N ops Q ⟨some d, .pick c x y, T0, pos, af, g⟩ rest env objs := ao_q rfl hN (y_pick_f rfl hc he hx) h
theorem o_eql {t t2 : TypeId} {x y : Operand} {k : IntKind} {m n : Int} (hN : Nat.blt d N = true) (hx : ev env x = some (.int k m)) (hy : ev env y = some (.int k n)) (h : AL P w0 N ops Q rest ((d, .bool (decide (m = n))) :: env) objs) : AO P w0 N ops Q ⟨some d, .binOp .eql t x y t2, T0, pos, af, g⟩ rest env objs := ao_q rfl hN (y_eql rfl hx hy) h
theorem o_neq {t t2 : TypeId} {x y : Operand} {k : IntKind} {m n : Int} (hN : Nat.blt d N = true) (hx : ev env x = some (.int k m)) (hy : ev env y = some (.int k n)) (h : AL P w0 N ops Q rest ((d, .bool (decide (m ≠ n))) :: env) objs) : AO P w0 N ops Q ⟨some d, .binOp .neq t x y t2, T0, pos, af, g⟩ rest env objs := ao_q rfl hN (y_neq rfl hx hy) h
theorem o_lss {t t2 : TypeId} {x y : Operand} {k : IntKind} {m n : Int} (hN : Nat.blt d N = true) (hx : ev env x = some (.int k m)) (hy : ev env y = some (.int k n)) (h : AL P w0 N ops Q rest ((d, .bool (decide (m < n))) :: env) objs) : AO P w0 N ops Q ⟨some d, .binOp .lss t x y t2, T0, pos, af, g⟩ rest env objs := ao_q rfl hN (y_lss rfl hx hy) h
theorem o_leq {t t2 : TypeId} {x y : Operand} {k : IntKind} {m n : Int} (hN : Nat.blt d N = true) (hx : ev env x = some (.int k m)) (hy : ev env y = some (.int k n)) (h : AL P w0 N ops Q rest ((d, .bool (decide (m ≤ n))) :: env) objs) : AO P w0 N ops Q ⟨some d, .binOp .leq t x y t2, T0, pos, af, g⟩ rest env objs := ao_q rfl hN (y_leq rfl hx hy) h
theorem o_gtr {t t2 : TypeId} {x y : Operand} {k : IntKind} {m n : Int} (hN : Nat.blt d N = true) (hx : ev env x = some (.int k m)) (hy : ev env y = some (.int k n)) (h : AL P w0 N ops Q rest ((d, .bool (decide (n < m))) :: env) objs) : AO P w0 N ops Q ⟨some d, .binOp .gtr t x y t2, T0, pos, af, g⟩ rest env objs := ao_q rfl hN (y_gtr rfl hx hy) h
theorem o_geq {t t2 : TypeId} {x y : Operand} {k : IntKind} {m n : Int} (hN : Nat.blt d N = true) (hx : ev env x = some (.int k m)) (hy : ev env y = some (.int k n)) (h : AL P w0 N ops Q rest ((d, .bool (decide (n ≤ m))) :: env) objs) : AO P w0 N ops Q ⟨some d, .binOp .geq t x y t2, T0, pos, af, g⟩ rest env objs := ao_q rfl hN (y_geq rfl hx hy) h
theorem o_add {t t2 : TypeId} {x y : Operand} {k : IntKind} {m n c : Int} (hN : Nat.blt d N = true) (hx : ev env x = some (.int k m)) (hy : ev env y = some (.int k n)) (hc : k.wrap (m + n) = c) (h : AL P w0 N ops Q rest ((d, .int k c) :: env) objs) : AO P w0 N ops Q ⟨some d, .binOp .add t x y t2, T0, pos, af, g⟩ rest env objs := ao_q rfl hN (y_add rfl hx hy hc) h
theorem o_sub {t t2 : TypeId} {x y : Operand} {k : IntKind} {m n c : Int} (hN : Nat.blt d N = true) (hx : ev env x = some (.int k m)) (hy : ev env y = some (.int k n)) (hc : k.wrap (m - n) = c) (h : AL P w0 N ops Q rest ((d, .int k c) :: env) objs) : AO P w0 N ops Q ⟨some d, .binOp .sub t x y t2, T0, pos, af, g⟩ rest env objs := ao_q rfl hN (y_sub rfl hx hy hc) h
theorem o_not_t {t : TypeId} {x : Operand} {v : TV} (hN : Nat.blt d N = true) (hx : ev env x = some v) (he : v = .bool true) (h : AL P w0 N ops Q rest ((d, .bool false) :: env) objs) : AO P w0 N ops Q ⟨some d, .unOp .not t x, T0, pos, af, g⟩ rest env objs := ao_q rfl hN (y_not_b (b := true) rfl (he ▸ hx)) h
theorem o_not_f {t : TypeId} {x : Operand} {v : TV} (hN : Nat.blt d N = true) (hx : ev env x = some v) (he : v = .bool false) (h : AL P w0 N ops Q rest ((d, .bool true) :: env) objs) : AO P w0 N ops Q ⟨some d, .unOp .not t x, T0, pos, af, g⟩ rest env objs := ao_q rfl hN (y_not_b (b := false) rfl (he ▸ hx)) h
theorem o_not_b {t : TypeId} {x : Operand} {b : Bool} {v : TV} (hN : Nat.blt d N = true) (hx : ev env x = some v) (he : v = .bool b) (h : AL P w0 N ops Q rest ((d, .bool (!b)) :: env) objs) : AO P w0 N ops Q ⟨some d, .unOp .not t x, T0, pos, af, g⟩ rest env objs := ao_q rfl hN (y_not_b rfl (he ▸ hx)) h
theorem o_eql_s {t t2 : TypeId} {x y : Operand} {s u : ByteArray} (hN : Nat.blt d N = true) (hx : ev env x = some (.str s)) (hy : ev env y = some (.str u)) (h : AL P w0 N ops Q rest ((d, .bool (decide (s = u))) :: env) objs) : AO P w0 N ops Q ⟨some d, .binOp .eql t x y t2, T0, pos, af, g⟩ rest env objs := ao_q rfl hN (y_eql_s rfl hx hy) h
theorem o_neq_s {t t2 : TypeId} {x y : Operand} {s u : ByteArray} (hN : Nat.blt d N = true) (hx : ev env x = some (.str s)) (hy : ev env y = some (.str u)) (h : AL P w0 N ops Q rest ((d, .bool (decide (s ≠ u))) :: env) objs) : AO P w0 N ops Q ⟨some d, .binOp .neq t x y t2, T0, pos, af, g⟩ rest env objs := ao_q rfl hN (y_neq_s rfl hx hy) h
theorem o_eql_b {t t2 : TypeId} {x y : Operand} {b c : Bool} (hN : Nat.blt d N = true) (hx : ev env x = some (.bool b)) (hy : ev env y = some (.bool c)) (hu : P.underlying t = some .bool) (h : AL P w0 N ops Q rest ((d, .bool (b == c)) :: env) objs) : AO P w0 N ops Q ⟨some d, .binOp .eql t x y t2, T0, pos, af, g⟩ rest env objs := ao_q rfl hN (y_eql_b rfl hx hy hu) h
theorem o_neq_b {t t2 : TypeId} {x y : Operand} {b c : Bool} (hN : Nat.blt d N = true) (hx : ev env x = some (.bool b)) (hy : ev env y = some (.bool c)) (hu : P.underlying t = some .bool) (h : AL P w0 N ops Q rest ((d, .bool (b != c)) :: env) objs) : AO P w0 N ops Q ⟨some d, .binOp .neq t x y t2, T0, pos, af, g⟩ rest env objs := ao_q rfl hN (y_neq_b rfl hx hy hu) h
theorem o_conv_int {src dst : TypeId} {x : Operand} {k k2 : IntKind} {m c : Int} (hN : Nat.blt d N = true) (hx : ev env x = some (.int k m)) (hk : kdT dst = some k2) (hs : (P.underlying src).isSome = true) (hd : P.underlying dst = some (.int k2)) (hc : k2.wrap m = c) (h : AL P w0 N ops Q rest ((d, .int k2 c) :: env) objs) : AO P w0 N ops Q ⟨some d, .convert src dst x, T0, pos, af, g⟩ rest env objs := ao_q rfl hN (y_conv_int rfl hx hk hs hd hc) h
theorem o_nilCheck_cp {x : Operand} {f : Nat} {l : List TV} (hN : Nat.blt d N = true) (hx : ev env x = some (.cp f l)) (h : AL P w0 N ops Q rest ((d, .cp f l) :: env) objs) : AO P w0 N ops Q ⟨some d, .nilCheck x, T0, pos, af, g⟩ rest env objs := ao_q rfl hN (y_nilCheck rfl hx (fun _ => .cp f l)) h
theorem o_load_cp {T : TypeId} {x : Operand} {c : TV} {rr : List TV} {f : Nat} {l : List TV} (hN : Nat.blt d N = true) (hA : agT T = false) (hT : isScal P T = true) (hx : ev env x = some (.cp f l)) (hl : l = c :: rr) (h : AL P w0 N ops Q rest ((d, c) :: env) objs) : AO P w0 N ops Q ⟨some d, .load T x, T0, pos, af, g⟩ rest env objs := ao_q rfl hN (y_load rfl hT hx (fun _ => .cp f l) hl) h
theorem o_load_agg_cp {T : TypeId} {x : Operand} {out : List TV} {f : Nat} {l : List TV} (hN : Nat.blt d N = true) (hA : agT T = true) (hT : isAggB P T = true) (hi : (P.info? T).isSome = true) (hs : P.cellsOf T = szT T) (hx : ev env x = some (.cp f l)) (htk : Taken (szT T) (l) out) (h : AL P w0 N ops Q rest ((d, .agg out) :: env) objs) : AO P w0 N ops Q ⟨some d, .load T x, T0, pos, af, g⟩ rest env objs := ao_q rfl hN (y_load_agg rfl hT hi hs hx (fun _ => .cp f l) htk) h
theorem o_nilCheck_mp {x : Operand} {s b off : Nat} {cells : List TV} (hN : Nat.blt d N = true) (hx : ev env x = some (.mp s b off)) (hm : (s, b, TObj.box cells) ∈ objs) (h : AL P w0 N ops Q rest ((d, .mp s b off) :: env) objs) : AO P w0 N ops Q ⟨some d, .nilCheck x, T0, pos, af, g⟩ rest env objs := ao_q rfl hN (y_nilCheck rfl hx (fun _ => .mp s b off cells hm)) h
theorem o_load_mp {T : TypeId} {x : Operand} {c : TV} {rr : List TV} {s b off : Nat} {cells : List TV} (hN : Nat.blt d N = true) (hA : agT T = false) (hT : isScal P T = true) (hx : ev env x = some (.mp s b off)) (hm : (s, b, TObj.box cells) ∈ objs) (hl : cells.drop off = c :: rr) (h : AL P w0 N ops Q rest ((d, c) :: env) objs) : AO P w0 N ops Q ⟨some d, .load T x, T0, pos, af, g⟩ rest env objs := ao_q rfl hN (y_load rfl hT hx (fun _ => .mp s b off cells hm) hl) h
theorem o_load_agg_mp {T : TypeId} {x : Operand} {out : List TV} {s b off : Nat} {cells : List TV} (hN : Nat.blt d N = true) (hA : agT T = true) (hT : isAggB P T = true) (hi : (P.info? T).isSome = true) (hs : P.cellsOf T = szT T) (hx : ev env x = some (.mp s b off)) (hm : (s, b, TObj.box cells) ∈ objs) (htk : Taken (szT T) (cells.drop off) out) (h : AL P w0 N ops Q rest ((d, .agg out) :: env) objs) : AO P w0 N ops Q ⟨some d, .load T x, T0, pos, af, g⟩ rest env objs := ao_q rfl hN (y_load_agg rfl hT hi hs hx (fun _ => .mp s b off cells hm) htk) h
theorem o_load_me {T : TypeId} {x : Operand} {c : TV} {rr : List TV} {s b m j off : Nat} {rows : List (List TV)} {r0 : List TV} (hN : Nat.blt d N = true) (hA : agT T = false) (hT : isScal P T = true) (hx : ev env x = some (.me s b m j off)) (hm : (s, b, TObj.row m rows) ∈ objs) (hr : rows[j]? = some r0) (hl : r0.drop off = c :: rr) (h : AL P w0 N ops Q rest ((d, c) :: env) objs) : AO P w0 N ops Q ⟨some d, .load T x, T0, pos, af, g⟩ rest env objs := ao_q rfl hN (y_load rfl hT hx (fun _ => .me s b m j off rows r0 hm hr) hl) h
theorem o_fieldAddr {T : TypeId} {x : Operand} {tv tv2 : TV} {i : Nat} (hN : Nat.blt d N = true) (hx : ev env x = some tv) (hF : fieldB P T i = true) (ht : tvOff (ofT T i) tv = some tv2) (h : AL P w0 N ops Q rest ((d, tv2) :: env) objs) : AO P w0 N ops Q ⟨some d, .fieldAddr T x i, T0, pos, af, g⟩ rest env objs := ao_q rfl hN (y_fieldAddr rfl hx hF ht) h
theorem o_indexAddr {T : TypeId} {x i : Operand} {f m : Nat} {rows : List (List TV)} {kk : IntKind} {n : Int} {j : Nat} {r : List TV} (hN : Nat.blt d N = true) (hx : ev env x = some (.sl f m rows)) (hi : ev env i = some (.int kk n)) (hT : P.underlying T = some (.slice (P.elem T))) (hI : (P.info? (P.elem T)).isSome = true) (hm : P.cellsOf (P.elem T) = m) (hm0 : Nat.blt 0 m = true) (hn : n = (j : Int)) (hr : rows[j]? = some r) (h : AL P w0 N ops Q rest ((d, .cp f r) :: env) objs) : AO P w0 N ops Q ⟨some d, .indexAddr T x i, T0, pos, af, g⟩ rest env objs := ao_q rfl hN (y_indexAddr rfl hx hi hT hI hm hm0 hn hr) h
theorem o_indexAddr_ms {T : TypeId} {x i : Operand} {s b off len m : Nat} {rows : List (List TV)} {kk : IntKind} {n : Int} {j jj : Nat} (hN : Nat.blt d N = true) (hx : ev env x = some (.ms s b off len)) (hi : ev env i = some (.int kk n)) (hobj : (s, b, TObj.row m rows) ∈ objs) (hT : P.underlying T = some (.slice (P.elem T))) (hI : (P.info? (P.elem T)).isSome = true) (hm : P.cellsOf (P.elem T) = m) (hn : n = (j : Int)) (hk : j < len) (hkk : off + j = jj) (h : AL P w0 N ops Q rest ((d, .me s b m jj 0) :: env) objs) : AO P w0 N ops Q ⟨some d, .indexAddr T x i, T0, pos, af, g⟩ rest env objs := ao_q rfl hN (hkk ▸ y_indexAddr_ms rfl hx hi hobj hT hI hm hn hk) h
theorem o_index_s {T : TypeId} {x i : Operand} {s : ByteArray} {kk : IntKind} {n : Int} {j : Nat} (hN : Nat.blt d N = true) (hx : ev env x = some (.str s)) (hi : ev env i = some (.int kk n)) (hT : P.underlying T = some .string) (hn : n = (j : Int)) (hk : j < s.size) (h : AL P w0 N ops Q rest ((d, .int .u8 (bat s j)) :: env) objs) : AO P w0 N ops Q ⟨some d, .index T x i, T0, pos, af, g⟩ rest env objs := ao_q rfl hN (y_index_s rfl hx hi hT hn hk) h
theorem o_len_s {x : Operand} {t : TypeId} {s : ByteArray} (hN : Nat.blt d N = true) (hx : ev env x = some (.str s)) (hT : P.underlying t = some .string) (h : AL P w0 N ops Q rest ((d, .int .i64 (s.size : Int)) :: env) objs) : AO P w0 N ops Q ⟨some d, .call { callee := .builtin .len, args := #[x], argTypes := #[t] }, T0, pos, af, g⟩ rest env objs := ao_q rfl hN (y_len_s rfl hx hT) h
theorem o_len_sl {x : Operand} {t : TypeId} {f m n : Nat} {rows : List (List TV)} (hN : Nat.blt d N = true) (hx : ev env x = some (.sl f m rows)) (hT : P.underlying t = some (.slice (P.elem t))) (hn : rows.length = n) (h : AL P w0 N ops Q rest ((d, .int .i64 (n : Int)) :: env) objs) : AO P w0 N ops Q ⟨some d, .call { callee := .builtin .len, args := #[x], argTypes := #[t] }, T0, pos, af, g⟩ rest env objs := ao_q rfl hN (y_len_sl rfl hx hT hn) h
theorem o_len_ms {x : Operand} {t : TypeId} {s b off len : Nat} (hN : Nat.blt d N = true) (hx : ev env x = some (.ms s b off len)) (hT : P.underlying t = some (.slice (P.elem t))) (h : AL P w0 N ops Q rest ((d, .int .i64 (len : Int)) :: env) objs) : AO P w0 N ops Q ⟨some d, .call { callee := .builtin .len, args := #[x], argTypes := #[t] }, T0, pos, af, g⟩ rest env objs := ao_q rfl hN (y_len_ms rfl hx hT) h
theorem o_len_nils {x : Operand} {t : TypeId} (hN : Nat.blt d N = true) (hx : ev env x = some .nils) (hT : P.underlying t = some (.slice (P.elem t))) (h : AL P w0 N ops Q rest ((d, .int .i64 0) :: env) objs) : AO P w0 N ops Q ⟨some d, .call { callee := .builtin .len, args := #[x], argTypes := #[t] }, T0, pos, af, g⟩ rest env objs := ao_q rfl hN (y_len_nils rfl hx hT) h
theorem o_extract {x : Operand} {i : Nat} {l : List TV} {u : TV} (hN : Nat.blt d N = true) (hx : ev env x = some (.tup l)) (ht : l[i]? = some u) (h : AL P w0 N ops Q rest ((d, u) :: env) objs) : AO P w0 N ops Q ⟨some d, .extract x i, T0, pos, af, g⟩ rest env objs := ao_q rfl hN (y_extract rfl hx ht) h
theorem o_box {T : TypeId} {x : Operand} {tv : TV} {l : List TV} (hN : Nat.blt d N = true) (hx : ev env x = some tv) (hl : tvCells tv = some l) (h : AL P w0 N ops Q rest ((d, .cp w0.heap.size l) :: env) objs) : AO P w0 N ops Q ⟨some d, .box T x, T0, pos, af, g⟩ rest env objs := ao_q rfl hN (y_box rfl hx hl) h
theorem o_lit {T : TypeId} {n m : Nat} {ps : List (Nat × Operand)} {rows : List (List TV)} (hN : Nat.blt d N = true) (hev : evL env ps 0 = some rows) (hT : P.underlying T = some (.slice (P.elem T))) (hI : (zeroOk P (P.elem T)).isSome = true) (hs : esT T = some m) (hm : P.cellsOf (P.elem T) = m) (hm0 : Nat.blt 0 m = true) (hn : rows.length = n) (hbig : Nat.ble (n * m) 16777216 = true) (hall : (rows.all fun r => Nat.beq r.length m) = true) (h : AL P w0 N ops Q rest ((d, .sl w0.heap.size m rows) :: env) objs) : AO P w0 N ops Q ⟨some d, .buildSlice T n ps.toArray, T0, pos, af, g⟩ rest env objs := ao_q rfl hN (y_lit rfl hT hI hm hm0 hev hn hbig hall) h
theorem o_call {G : World → Prop} {f : Nat} {xs : List Operand} {ts : Array TypeId} {args : List TV} {r : Nat → TV} (hN : Nat.blt d N = true) (hc : callB P f = true) (hargs : Args env objs xs args) (hG : G w0) (hst : Stable G) (hct : Ct P G f args r) (h : AL P w0 N ops Q rest ((d, r w0.heap.size) :: env) objs) : AO P w0 N ops Q ⟨some d, .call { callee := .value (.func f), args := xs.toArray, argTypes := ts }, T0, pos, af, g⟩ rest env objs := ao_q rfl hN (y_call rfl hc hargs hct hG hst) h
end
end Go.Proofs.YtdeokcbbjibkoaaGreatDoor
/- The abstract walk, part 10: regions whose order is open. One walk in the order of the text serves for every order. -/
namespace Go.Proofs.YtdeokcbbjibkoaaGreatDoor
open Go Go.RowKit

/-- Each binding edge leads back, and what 'before' says follows from the edges; operations that touch one slot, of which one writes it, are ordered. -/
def drawOk (ops : Array Oper) : Bool :=
  let B := Region.before ops
  (List.range ops.size).all fun j => match ops[j]? with
    | none => false
    | some oj => (oj.after.all fun e => !Region.binds .any e || Nat.blt e.on j) &&
      (List.range j).all fun i => match ops[i]? with
        | none => false
        | some oi =>
          (!(B.getD j 0).testBit i || oj.after.any fun e => Region.binds .any e && (Nat.beq e.on i || (Nat.blt i e.on && (B.getD e.on 0).testBit i))) &&
          (oi.apart ops oj || (B.getD j 0).testBit i)
section
variable {P : Program} {w0 : World} {N : Nat} {Q : Exit → Act → World → Prop} {objs : Objs} {ops : Array Oper}

theorem drawOk_spec (h : drawOk ops = true) {j : Nat} {oj : Oper} (hj : ops[j]? = some oj) : (∀ e ∈ oj.after, Region.binds .any e = true → e.on < j) ∧
    ∀ i oi, i < j → ops[i]? = some oi → (((Region.before ops).getD j 0).testBit i = true → ∃ e ∈ oj.after, Region.binds .any e = true ∧ (e.on = i ∨ (i < e.on ∧ ((Region.before ops).getD e.on 0).testBit i = true))) ∧ (oi.apart ops oj = true ∨ ((Region.before ops).getD j 0).testBit i = true) := by
  have hlt : j < ops.size := (Array.getElem?_eq_some_iff.1 hj).1
  unfold drawOk at h
  have h1 := List.all_eq_true.1 h j (List.mem_range.2 hlt)
  simp only [hj, Bool.and_eq_true] at h1
  obtain ⟨h2, h3⟩ := h1
  refine ⟨fun e he hb => ?_, fun i oi hij hi => ?_⟩
  · have := Array.all_eq_true_iff_forall_mem.1 h2 e he
    rw [hb] at this
    simpa [Nat.blt_eq] using this
  · have h4 := List.all_eq_true.1 h3 i (List.mem_range.2 hij)
    simp only [hi, Bool.and_eq_true, Bool.or_eq_true, Bool.not_eq_true'] at h4
    refine ⟨fun hb => ?_, h4.2⟩
    rcases h4.1 with h5 | h5
    · rw [h5] at hb; cases hb
    · obtain ⟨k, hk, h6⟩ := Array.any_eq_true.1 h5
      simp only [Bool.and_eq_true, Bool.or_eq_true] at h6
      exact ⟨_, Array.getElem_mem hk, h6.1, h6.2.imp Nat.eq_of_beq_eq_true fun h => ⟨by simpa [Nat.blt_eq] using h.1, h.2⟩⟩

/-- What is listed is closed under the edges. -/
def Closed (ops : Array Oper) (X : Nat → Prop) : Prop := ∀ j oj, ops[j]? = some oj → X j → ∀ e ∈ oj.after, Region.binds .any e = true → X e.on
theorem closed_reach (h : drawOk ops = true) {X : Nat → Prop} (hX : Closed ops X) : ∀ j, j < ops.size → X j → ∀ i, i < j → ((Region.before ops).getD j 0).testBit i = true → X i := by
  intro j
  induction j using Nat.strongRecOn with
  | _ j ih =>
    intro hj hx i hij hb
    have hoj : ops[j]? = some ops[j] := by simp [hj]
    have hoi : ops[i]? = some ops[i] := by simp [show i < ops.size by omega]
    obtain ⟨h1, h2⟩ := drawOk_spec h hoj
    obtain ⟨e, he, hb2, h3⟩ := (h2 i _ hij hoi).1 hb
    have hxe := hX j _ hoj hx e he hb2
    have hej := h1 e he hb2
    rcases h3 with rfl | ⟨h4, h3⟩
    · exact hxe
    · exact ih e.on hej (by omega) hxe i h4 h3

/-- The region walked in the order of the text. -/
def GRun (ops : Array Oper) (env : Env) (o : Oper) : Prop := o.guard = none ∨ ∃ j b d, o.guard = some (j, b) ∧ (ops[j]?).bind (·.dst) = some d ∧ lk d env = some (.bool b)
def GSkip (ops : Array Oper) (env : Env) (o : Oper) : Prop := (∃ j b d, o.guard = some (j, !b) ∧ (ops[j]?).bind (·.dst) = some d ∧ lk d env = some (.bool b)) ∨ ∃ j c d, o.guard = some (j, c) ∧ (ops[j]?).bind (·.dst) = some d ∧ lk d env = some (.tup [])
inductive DR (P : Program) (w0 : World) (N : Nat) (ops : Array Oper) (objs : Objs) (K : Env → Prop) : List Oper → Env → Prop
  | nil (env : Env) (h : K env) : DR P w0 N ops objs K [] env
  | run (o : Oper) (rest : List Oper) (env : Env) (d : Nat) (tv : TV) (hd : o.dst = some d) (hN : Nat.blt d N = true) (hg : GRun ops env o) (hy : Yields P w0 env objs o tv) (h : DR P w0 N ops objs K rest ((d, tv) :: env)) : DR P w0 N ops objs K (o :: rest) env
  | skip (o : Oper) (rest : List Oper) (env : Env) (d : Nat) (hd : o.dst = some d) (hN : Nat.blt d N = true) (hg : GSkip ops env o) (h : DR P w0 N ops objs K rest ((d, .tup []) :: env)) : DR P w0 N ops objs K (o :: rest) env
  | know (rest : List Oper) (env : Env) (t : Nat) (v v' : TV) (hv : lk t env = some v) (he : v = v') (h : DR P w0 N ops objs K rest ((t, v') :: env)) : DR P w0 N ops objs K rest env

/-- One operation's part in the walk. -/
def StepAt (P : Program) (w0 : World) (N : Nat) (ops : Array Oper) (objs : Objs) (o : Oper) (env env' : Env) : Prop :=
  ∃ d tv, o.dst = some d ∧ d < N ∧ (∀ t, lk t env' = lk t ((d, tv) :: env)) ∧ ((GRun ops env o ∧ Yields P w0 env objs o tv) ∨ (GSkip ops env o ∧ tv = .tup []))
theorem dr_steps {K : Env → Prop} {l : List Oper} {env : Env} (h : DR P w0 N ops objs K l env) : ∃ σ : Nat → Env, (∀ t, lk t (σ 0) = lk t env) ∧ K (σ l.length) ∧ ∀ k o, l[k]? = some o → StepAt P w0 N ops objs o (σ k) (σ (k + 1)) := by
  induction h with
  | nil env h => exact ⟨fun _ => env, fun _ => rfl, h, by simp⟩
  | run o rest env d tv hd hN hg hy h ih =>
    obtain ⟨σ, h1, h2, h3⟩ := ih
    refine ⟨fun k => match k with | 0 => env | k + 1 => σ k, fun _ => rfl, h2, fun k o' hk => ?_⟩
    cases k with
    | zero => simp at hk; subst hk; exact ⟨d, tv, hd, Nat.blt_eq ▸ hN, h1, .inl ⟨hg, hy⟩⟩
    | succ k => exact h3 k o' (by simpa using hk)
  | skip o rest env d hd hN hg h ih =>
    obtain ⟨σ, h1, h2, h3⟩ := ih
    refine ⟨fun k => match k with | 0 => env | k + 1 => σ k, fun _ => rfl, h2, fun k o' hk => ?_⟩
    cases k with
    | zero => simp at hk; subst hk; exact ⟨d, .tup [], hd, Nat.blt_eq ▸ hN, h1, .inr ⟨hg, rfl⟩⟩
    | succ k => exact h3 k o' (by simpa using hk)
  | know rest env t v v' hv he h ih =>
    obtain ⟨σ, h1, h2, h3⟩ := ih
    refine ⟨σ, fun x => ?_, h2, h3⟩
    rw [h1, lk_cons]
    split
    · rename_i e; subst e; rw [hv, he]
    · rfl

def Writes (ops : Array Oper) (i t : Nat) : Prop := (ops[i]?).bind (·.dst) = some t
/-- The state when X has been carried out. -/
structure JX (w0 : World) (N : Nat) (ops : Array Oper) (objs : Objs) (σ : Nat → Env) (X : Nat → Prop) (a : Act) (w : World) : Prop where
  defers : a.defers = []
  size : a.tmps.size = N
  mem : SimW w0 objs w
  cut : ∀ t k, k ≤ ops.size → (∀ i, i < k → Writes ops i t → X i) → (∀ i, k ≤ i → Writes ops i t → ¬ X i) → ∀ v, lk t (σ k) = some v → Rep w objs v (a.tmps.getD t undef)

theorem apart_or (hok : drawOk ops = true) {i j : Nat} {oi oj : Oper} (hi : ops[i]? = some oi) (hj : ops[j]? = some oj) (hij : i < j) (hna : ¬ oi.apart ops oj = true) {X : Nat → Prop} (hX : Closed ops X) (hx : X j) : X i := by
  have h := ((drawOk_spec hok hj).2 i oi hij hi).2
  exact closed_reach hok hX j (Array.getElem?_eq_some_iff.1 hj).1 hx i hij (h.resolve_left hna)
theorem not_apart_read {x y : Oper} {t : Nat} (hx : x.dst = some t) (hy : t ∈ y.looksAt ops) : ¬ x.apart ops y = true := fun h => by
  unfold Oper.apart at h
  rw [hx] at h
  simp only [Bool.and_eq_true, Bool.not_eq_true'] at h
  rw [List.contains_iff_mem.2 hy] at h
  simp at h
theorem not_apart_write {x y : Oper} {t : Nat} (hx : t ∈ x.looksAt ops) (hy : y.dst = some t) : ¬ x.apart ops y = true := fun h => by
  unfold Oper.apart at h
  rw [hy] at h
  simp only [Bool.and_eq_true, Bool.not_eq_true'] at h
  rw [List.contains_iff_mem.2 hx] at h
  simp at h
theorem not_apart_both {x y : Oper} {t : Nat} (hx : x.dst = some t) (hy : y.dst = some t) : ¬ x.apart ops y = true := fun h => by
  unfold Oper.apart at h
  rw [hx, hy] at h
  simp at h

/-- At an operation that comes up, its operands stand for what they stood for in the text's order. -/
theorem jx_read (hok : drawOk ops = true) {σ : Nat → Env} {X : Nat → Prop} {a : Act} {w : World} (hJ : JX w0 N ops objs σ X a w) (hX : Closed ops X) {i : Nat} {o : Oper} (hi : ops[i]? = some o) (hni : ¬ X i) (hX' : Closed ops fun k => k = i ∨ X k) {t : Nat} (ht : t ∈ o.looksAt ops) {v : TV} (hv : lk t (σ i) = some v) : Rep w objs v (a.tmps.getD t undef) := by
  refine hJ.cut t i (Nat.le_of_lt (Array.getElem?_eq_some_iff.1 hi).1) (fun k hk hw => ?_) (fun k hk hw hx => ?_) v hv
  · obtain ⟨ok, h1, h2⟩ := Option.bind_eq_some_iff.1 hw
    have := apart_or hok h1 hi hk (not_apart_read h2 ht) hX' (.inl rfl)
    rcases this with h | h
    · omega
    · exact h
  · obtain ⟨ok, h1, h2⟩ := Option.bind_eq_some_iff.1 hw
    rcases Nat.lt_or_ge i k with h | h
    · exact hni (apart_or hok hi h1 h (not_apart_write ht h2) hX hx)
    · exact hni ((Nat.le_antisymm h hk) ▸ hx)
/-- Behind it. -/
theorem jx_step (hok : drawOk ops = true) {σ : Nat → Env} {X : Nat → Prop} {a : Act} {w w' : World} (hJ : JX w0 N ops objs σ X a w) (hX : Closed ops X) {i d : Nat} {o : Oper} {tv : TV} {v : Value} (hi : ops[i]? = some o) (hni : ¬ X i) (hd : o.dst = some d) (hdN : d < N)
    (hσ : ∀ k o, ops[k]? = some o → ∃ d tv, o.dst = some d ∧ ∀ t, lk t (σ (k + 1)) = lk t ((d, tv) :: σ k)) (hσi : ∀ t, lk t (σ (i + 1)) = lk t ((d, tv) :: σ i)) (hr : Rep w' objs tv v) (hw : SimW w0 objs w') (hst : Step w objs w' objs) : JX w0 N ops objs σ (fun k => k = i ∨ X k) (a.put (some d) v) w' := by
  refine ⟨hJ.defers, by simp [Act.put, hJ.size], hw, fun t k hk h1 h2 u hu => ?_⟩
  show Rep w' objs u ((a.tmps.setIfInBounds d v).getD t undef)
  rw [getD_set (by rw [hJ.size]; exact hdN)]
  by_cases hdt : d = t
  · subst hdt
    rw [if_pos rfl]
    have hwi : Writes ops i d := by unfold Writes; rw [hi]; exact hd
    have hik : i < k := Nat.lt_of_not_le fun h => h2 i h hwi (.inl rfl)
    -- nobody else writes between
    have hlast : ∀ m, i + 1 ≤ m → m ≤ k → lk d (σ m) = some tv := fun m => by
      induction m with
      | zero => intro h; omega
      | succ m ih =>
        intro hm1 hm2
        rcases Nat.eq_or_lt_of_le hm1 with h | h
        · have : m = i := by omega
          subst this; rw [hσi, lk_cons, if_pos rfl]
        · have hm : m < ops.size := by omega
          have hom : ops[m]? = some ops[m] := by simp [hm]
          obtain ⟨dm, tm, e1, e2⟩ := hσ m _ hom
          rw [e2, lk_cons, if_neg]
          · exact ih (by omega) (by omega)
          · intro e
            subst e
            have hwm : Writes ops m dm := by unfold Writes; rw [hom]; exact e1
            rcases h1 m (by omega) hwm with h3 | h3
            · omega
            · exact hni (apart_or hok hi hom (by omega) (not_apart_both hd e1) hX h3)
    rw [hlast k hik (Nat.le_refl _)] at hu
    simp only [Option.some.injEq] at hu
    subst hu; exact hr
  · rw [if_neg hdt]
    refine (hJ.cut t k hk (fun m hm hwm => ?_) (fun m hm hwm hx => h2 m hm hwm (.inr hx)) u hu).step hst
    rcases h1 m hm hwm with h3 | h3
    · subst h3
      unfold Writes at hwm
      rw [hi] at hwm
      simp only [Option.bind_some, hd, Option.some.injEq] at hwm
      exact absurd hwm hdt
    · exact h3

def unlisted (listed : Array Bool) : Nat := (listed.toList.filter (! ·)).length
theorem any_of_jx (hok : drawOk ops = true) {σ : Nat → Env} (hσ : ∀ k o, ops[k]? = some o → StepAt P w0 N ops objs o (σ k) (σ (k + 1))) (hQ : AQ w0 N Q .normal (σ ops.size) objs) :
    ∀ (fuel : Nat) (listed : Array Bool) (a : Act) (w : World), listed.size = ops.size → unlisted listed ≤ fuel → Closed ops (fun i => listed.getD i false = true) → JX w0 N ops objs σ (fun i => listed.getD i false = true) a w → wpAny P .any ops Q fuel listed a w := by
  have hσ' : ∀ k o, ops[k]? = some o → ∃ d tv, o.dst = some d ∧ ∀ t, lk t (σ (k + 1)) = lk t ((d, tv) :: σ k) := fun k o hk => by
    obtain ⟨d, tv, h1, _, h2, _⟩ := hσ k o hk; exact ⟨d, tv, h1, h2⟩
  -- when nothing comes up, all has been carried out
  have hend : ∀ (listed : Array Bool) (a : Act) (w : World), listed.size = ops.size → JX w0 N ops objs σ (fun i => listed.getD i false = true) a w → Region.ready .any ops listed = [] → Q .normal a w := by
    intro listed a w hsz hJ hr
    have hall : ∀ j, j < ops.size → listed.getD j false = true := by
      intro j
      induction j using Nat.strongRecOn with
      | _ j ih =>
        intro hj
        cases hb : listed.getD j false with
        | true => rfl
        | false =>
          have hoj : ops[j]? = some ops[j] := by simp [hj]
          have hmem : j ∈ Region.ready .any ops listed := mem_ready.2 ⟨by
            have hjl : j < listed.size := by omega
            simp only [Array.getD_eq_getD_getElem?, Array.getElem?_eq_getElem hjl, Option.getD_some] at hb ⊢; exact hb, _, hoj, fun e he hbd => ih e.on ((drawOk_spec hok hoj).1 e he hbd) (Nat.lt_trans ((drawOk_spec hok hoj).1 e he hbd) hj)⟩
          rw [hr] at hmem; cases hmem
    refine hQ.run a w ⟨hJ.defers, hJ.size, hJ.mem, fun t v hv => hJ.cut t ops.size (Nat.le_refl _) (fun i hi _ => hall i hi) (fun i hi hw => ?_) v hv⟩
    unfold Writes at hw
    rw [Array.getElem?_eq_none hi] at hw
    cases hw
  intro fuel
  induction fuel with
  | zero =>
    intro listed a w hsz hun hX hJ
    have hr : Region.ready .any ops listed = [] := by
      cases hrd : Region.ready .any ops listed with
      | nil => rfl
      | cons j r =>
        exfalso
        have hj : j ∈ Region.ready .any ops listed := by rw [hrd]; exact List.mem_cons_self
        obtain ⟨h0, o, ho, _⟩ := mem_ready.1 hj
        have hjl : j < listed.size := by rw [hsz]; exact (Array.getElem?_eq_some_iff.1 ho).1
        have : listed[j] ∈ listed.toList.filter (! ·) := List.mem_filter.2 ⟨by simp, by
          simp only [Array.getD_eq_getD_getElem?, Array.getElem?_eq_getElem hjl, Option.getD_some] at h0; simp [h0]⟩
        have := List.length_pos_of_mem this
        unfold unlisted at hun; omega
    exact ⟨hr, hend listed a w hsz hJ hr⟩
  | succ fuel ih =>
    intro listed a w hsz hun hX hJ
    refine ⟨fun hr => hend listed a w hsz hJ hr, fun i hi => ?_⟩
    obtain ⟨h0, o, ho, hed⟩ := mem_ready.1 hi
    have hil : i < listed.size := by rw [hsz]; exact (Array.getElem?_eq_some_iff.1 ho).1
    have h0' : listed[i] = false := by simpa [Array.getD_eq_getD_getElem?, hil] using h0
    have hni : ¬ listed.getD i false = true := by simp [hil, h0']
    have hXeq : ∀ k, (listed.setIfInBounds i true).getD k false = true ↔ (k = i ∨ listed.getD k false = true) := fun k => by
      by_cases hk : k = i
      · subst hk; simp [hil]
      · rw [getD_set_ne false (Ne.symm hk)]; simp [hk]
    have hX' : Closed ops fun k => k = i ∨ listed.getD k false = true := fun j oj hj hx e he hb => by
      rcases hx with rfl | hx
      · rw [hj] at ho; cases ho; exact .inr (hed e he hb)
      · exact .inr (hX j oj hj hx e he hb)
    have hXs : Closed ops fun k => (listed.setIfInBounds i true).getD k false = true := fun j oj hj hx e he hb => (hXeq _).2 (hX' j oj hj ((hXeq _).1 hx) e he hb)
    have hun' : unlisted (listed.setIfInBounds i true) ≤ fuel := by
      have key : ∀ (l : List Bool) (i : Nat), l[i]? = some false → ((l.set i true).filter (! ·)).length + 1 = (l.filter (! ·)).length := fun l => by
        induction l with
        | nil => intro i h; simp at h
        | cons x l ih =>
          intro i h
          cases i with
          | zero => simp at h; subst h; simp
          | succ i =>
            have := ih i (by simpa using h)
            cases x <;> simp [List.filter_cons] at this ⊢ <;> omega
      have := key listed.toList i (by simp [hil, h0'])
      unfold unlisted at hun ⊢
      simp only [Array.toList_setIfInBounds]
      omega
    have hnext : ∀ a' w', JX w0 N ops objs σ (fun k => k = i ∨ listed.getD k false = true) a' w' → wpAny P .any ops Q fuel (listed.setIfInBounds i true) a' w' := fun a' w' hJ' =>
      ih _ a' w' (by simpa using hsz) hun' hXs ⟨hJ'.defers, hJ'.size, hJ'.mem, fun t k hk h1 h2 v hv => hJ'.cut t k hk (fun m hm hw => (hXeq m).1 (h1 m hm hw)) (fun m hm hw hx => h2 m hm hw ((hXeq m).2 hx)) v hv⟩
    obtain ⟨d, tv, hd, hdN, hσi, hcase⟩ := hσ i o ho
    have hguard : ∀ j b c dj, o.guard = some (j, b) → (ops[j]?).bind (·.dst) = some dj → lk dj (σ i) = some (.bool c) → yielded ops a.tmps j = some c := fun j b c dj h1 h2 h3 => by
      have hl : dj ∈ o.looksAt ops := by unfold Oper.looksAt; rw [h1]; simp [h2]
      exact yielded_eq h2 (jx_read hok hJ hX ho hni hX' hl h3).bool_inv
    unfold wpOp
    rw [ho]
    rcases hcase with ⟨hg, hy⟩ | ⟨hg, rfl⟩
    · have hw : Region.wanted o (yielded ops a.tmps) = true := by
        rcases hg with hg | ⟨j, b, dj, h1, h2, h3⟩
        · simp [Region.wanted, hg]
        · simp [Region.wanted, h1, hguard j b b dj h1 h2 h3]
      simp only [hw, if_true]
      refine .inl (hy a w _ Q hJ.mem (fun x hx v hv => ?_) fun v w' hr hsw hst => ?_)
      · cases x with
        | tmp t =>
          have hl : t ∈ o.looksAt ops := by
            unfold Oper.looksAt
            exact List.mem_append_left _ (List.mem_filterMap.2 ⟨.tmp t, hx, rfl⟩)
          exact jx_read hok hJ hX ho hni hX' hl hv
        | const u => exact tvOf_rep hv
        | func f => simp only [ev, Option.some.injEq] at hv; subst hv; exact .fn f [] #[] rfl (by simp)
        | global g => cases hv
      · rw [hd]
        exact hnext _ _ (jx_step hok hJ hX ho hni hd hdN hσ' hσi hr hsw hst)
    · have hw : Region.wanted o (yielded ops a.tmps) = false := by
        rcases hg with ⟨j, b, dj, h1, h2, h3⟩ | ⟨j, c, dj, h1, h2, h3⟩
        · cases b <;> simp [Region.wanted, h1, hguard j _ _ dj h1 h2 h3]
        · have hl : dj ∈ o.looksAt ops := by unfold Oper.looksAt; rw [h1]; simp [h2]
          simp [Region.wanted, h1, yielded_undef h2 (jx_read hok hJ hX ho hni hX' hl h3).undef_inv]
      simp only [hw, Bool.false_eq_true, if_false]
      rw [hd]
      exact hnext _ _ (jx_step hok hJ hX ho hni hd hdN hσ' hσi (.tup [] #[] rfl (by simp)) hJ.mem (step_refl _ _))

theorem aw_draw {id : Nat} {l : List Oper} {env : Env} (hm : P.follows .mixedOrders = true) (hok : drawOk l.toArray = true) (h : DR P w0 N l.toArray objs (fun env' => AQ w0 N Q .normal env' objs) l env) : AW P w0 N (.region id l.toArray true) Q env objs := ⟨fun a w hs => by
  obtain ⟨σ, h1, h2, h3⟩ := dr_steps h
  have hrep : ∀ i, (Array.replicate l.toArray.size false).getD i false = false := fun i => by
    rcases Nat.lt_or_ge i l.toArray.size with h | h
    · simp at h; simp [h]
    · simp at h; simp [Array.getD_eq_getD_getElem?, Array.getElem?_eq_none, h]
  refine wp_region_any hm (any_of_jx hok (σ := σ) (fun k o hk => h3 k o (by simpa using hk)) (by simpa using h2) _ _ _ _ (by simp) (by simp [unlisted]) (fun j oj _ hx => nomatch (hrep j).symm.trans hx) ⟨hs.defers, hs.size, ?_, fun t k hk h4 h5 v hv => ?_⟩)
  · exact hs.mem.grow ⟨hs.mem.below.os, hs.mem.below.tape, hs.mem.below.output, hs.mem.below.size, hs.mem.below.block⟩ (Nat.le_refl _) (fun _ _ => rfl)
  · -- no writer of t stands before the cut
    have hk0 : ∀ m, m ≤ k → lk t (σ m) = lk t (σ 0) := fun m => by
      induction m with
      | zero => intro _; rfl
      | succ m ih =>
        intro hm2
        have hml : m < l.length := by simp at hk; omega
        obtain ⟨d, tv, e1, _, e2, _⟩ := h3 m l[m] (List.getElem?_eq_getElem hml)
        rw [e2, lk_cons, if_neg]
        · exact ih (by omega)
        · intro e
          have := h4 m (by omega) (by unfold Writes; simp [hml, e1, e])
          rw [hrep] at this; cases this
    rw [hk0 k (Nat.le_refl _), h1 t] at hv
    have hst : Step w objs { w with drawn := w.drawn + 1 } objs := ⟨fun _ _ _ => rfl, fun _ _ h => h, fun _ _ _ rows _ _ h => ⟨⟨rows, h⟩, rfl⟩, Nat.le_refl _, fun h => h⟩
    exact (hs.env t v hv).step hst⟩
end
end Go.Proofs.YtdeokcbbjibkoaaGreatDoor
/- The abstract walk, part 11: rows of bytes, of numbers, of texts; a text out of bytes. -/
namespace Go.Proofs.YtdeokcbbjibkoaaGreatDoor
open Go Go.RowKit

def intR (l : List Int) : List (List TV) := l.map fun n => [TV.int .i64 n]
def strR (l : List ByteArray) : List (List TV) := l.map fun s => [TV.str s]
theorem intR_length (l : List Int) : (intR l).length = l.length := by simp [intR]
theorem intR_set (l : List Int) (k : Nat) (n : Int) : (intR l).set k [TV.int .i64 n] = intR (l.set k n) := by simp [intR, List.map_set]
theorem intR_flatten (l : List Int) : (intR l).flatten = l.map (TV.int .i64) := by
  induction l with
  | nil => rfl
  | cons x l ih => simp only [intR, List.map_cons, List.flatten_cons] at *; rw [ih]; rfl
theorem intR_flat (l : List Int) : ∀ t ∈ (intR l).flatten, t.flat = true := by
  rw [intR_flatten]; intro t ht; obtain ⟨n, _, rfl⟩ := List.mem_map.1 ht; rfl
section
variable {P : Program} {w0 : World} {N : Nat} {Q : Exit → Act → World → Prop} {env : Env} {objs : Objs} {o : Oper}
end
end Go.Proofs.YtdeokcbbjibkoaaGreatDoor
/- The abstract walk, part 11: regions whose order is open but for their end: what stands last depends on all that stands ahead of it. -/
namespace Go.Proofs.YtdeokcbbjibkoaaGreatDoor
open Go Go.RowKit
/-- From k on each operation comes behind all that are written ahead of it. -/
def tailOk (ops : Array Oper) (k : Nat) : Bool :=
  let B := Region.before ops
  (List.range ops.size).all fun j => Nat.blt j k || (List.range j).all fun i => (B.getD j 0).testBit i
section
variable {P : Program} {w0 : World} {N : Nat} {Q : Exit → Act → World → Prop} {objs : Objs} {ops : Array Oper} {env : Env}
theorem tailOk_spec {k : Nat} (h : tailOk ops k = true) {j i : Nat} (hj : j < ops.size) (hk : k ≤ j) (hi : i < j) : ((Region.before ops).getD j 0).testBit i = true := by
  unfold tailOk at h
  have h1 := List.all_eq_true.1 h j (List.mem_range.2 hj)
  simp only [Bool.or_eq_true] at h1
  rcases h1 with h1 | h1
  · rw [Nat.blt_eq] at h1; omega
  · exact List.all_eq_true.1 h1 i (List.mem_range.2 hi)

/-- The end, one operation behind the other. -/
theorem any_of_seq (hok : drawOk ops = true) {k : Nat} (htl : tailOk ops k = true) : ∀ (n m : Nat), m + n = ops.size → k ≤ m → ∀ (fuel : Nat) (listed : Array Bool) (a : Act) (w : World), listed.size = ops.size → n ≤ fuel → (∀ i, i < ops.size → (listed.getD i false = true ↔ i < m)) →
    wpList P ops Q (ops.toList.drop m) a w → wpAny P .any ops Q fuel listed a w := by
  intro n
  induction n with
  | zero =>
    intro m hm hkm fuel listed a w hsz hf hl h
    rw [List.drop_of_length_le (by simp; omega)] at h
    have hr : Region.ready .any ops listed = [] := by
      cases hrd : Region.ready .any ops listed with
      | nil => rfl
      | cons j r =>
        exfalso
        have hj : j ∈ Region.ready .any ops listed := by rw [hrd]; exact List.mem_cons_self
        obtain ⟨h0, o, ho, _⟩ := mem_ready.1 hj
        have hjl : j < ops.size := (Array.getElem?_eq_some_iff.1 ho).1
        have := (hl j hjl).2 (by omega)
        rw [Array.getD_eq_getD_getElem?, Array.getElem?_eq_getElem (by omega)] at this h0
        simp only [Option.getD_some] at this h0
        rw [this] at h0; cases h0
    have hq : Q .normal a w := h
    cases fuel with
    | zero => exact ⟨hr, hq⟩
    | succ fuel => exact ⟨fun _ => hq, fun i hi => by rw [hr] at hi; cases hi⟩
  | succ n ih =>
    intro m hm hkm fuel listed a w hsz hf hl h
    cases fuel with
    | zero => omega
    | succ fuel =>
    have hmlt : m < ops.size := by omega
    have hom : ops[m]? = some ops[m] := by simp [hmlt]
    have hX : ∀ i, i < ops.size → i < m → listed.getD i false = true := fun i hi him => (hl i hi).2 him
    have hready : m ∈ Region.ready .any ops listed := mem_ready.2 ⟨by
      have h1 : listed.getD m false ≠ true := fun h => by have := (hl m hmlt).1 h; omega
      rw [Array.getD_eq_getD_getElem?, Array.getElem?_eq_getElem (by omega)] at h1 ⊢
      simpa using h1, _, hom, fun e he hb => by
      have := (drawOk_spec hok hom).1 e he hb
      exact hX e.on (by omega) this⟩
    refine ⟨fun hr => (by rw [hr] at hready; cases hready), fun i hi => ?_⟩
    obtain ⟨h0, o, ho, hed⟩ := mem_ready.1 hi
    have hil : i < ops.size := (Array.getElem?_eq_some_iff.1 ho).1
    have hnl : ¬ listed.getD i false = true := by
      rw [Array.getD_eq_getD_getElem?, Array.getElem?_eq_getElem (by omega)] at h0 ⊢
      simp only [Option.getD_some] at h0 ⊢
      rw [h0]; simp
    have him : m ≤ i := Nat.le_of_not_lt fun hlt => hnl (hX i hil hlt)
    have hie : i = m := by
      rcases Nat.eq_or_lt_of_le him with e | hlt
      · exact e.symm
      · exfalso
        have hb := tailOk_spec htl hil (by omega) hlt
        obtain ⟨e, he, hb2, h3⟩ := ((drawOk_spec hok ho).2 m _ hlt hom).1 hb
        have hel := hed e he hb2
        have hes := (drawOk_spec hok ho).1 e he hb2
        have := (hl e.on (by omega)).1 hel
        omega
    subst hie
    rw [hom] at ho
    cases ho
    have hdrop : ops.toList.drop i = ops[i] :: ops.toList.drop (i + 1) := by
      rw [List.drop_eq_getElem_cons (by simpa using hmlt)]; simp
    rw [hdrop] at h
    have hnext : ∀ a w, wpList P ops Q (ops.toList.drop (i + 1)) a w → wpAny P .any ops Q fuel (listed.setIfInBounds i true) a w := fun a w hw => by
      refine ih (i + 1) (by omega) (by omega) fuel _ a w (by simpa using hsz) (by omega) (fun j hj => ?_) hw
      by_cases hji : j = i
      · subst hji; simp [Array.getD_eq_getD_getElem?, hsz, hj]
      · rw [getD_set_ne false (Ne.symm hji), hl j hj]; omega
    unfold wpOp
    rw [hom]
    dsimp only
    unfold wpList at h
    split at h
    · rename_i hw
      rw [if_pos hw]
      exact h.imp (Oper.wp_mono hnext) id
    · rename_i hw
      rw [if_neg hw]
      exact hnext _ _ h

/-- The state when X (of the first k) has been carried out. -/
structure JY (w0 : World) (N : Nat) (ops : Array Oper) (objs : Objs) (σ : Nat → Env) (k : Nat) (X : Nat → Prop) (a : Act) (w : World) : Prop where
  defers : a.defers = []
  size : a.tmps.size = N
  mem : SimW w0 objs w
  cut : ∀ t c, c ≤ k → (∀ i, i < c → Writes ops i t → X i) → (∀ i, c ≤ i → i < k → Writes ops i t → ¬ X i) → ∀ v, lk t (σ c) = some v → Rep w objs v (a.tmps.getD t undef)
theorem jy_read (hok : drawOk ops = true) {k : Nat} (hk : k ≤ ops.size) {σ : Nat → Env} {X : Nat → Prop} {a : Act} {w : World} (hJ : JY w0 N ops objs σ k X a w) (hX : Closed ops X) (hXk : ∀ i, X i → i < k) {i : Nat} {o : Oper} (hi : ops[i]? = some o) (hik : i < k) (hni : ¬ X i) (hX' : Closed ops fun k => k = i ∨ X k) {t : Nat} (ht : t ∈ o.looksAt ops) {v : TV} (hv : lk t (σ i) = some v) : Rep w objs v (a.tmps.getD t undef) := by
  refine hJ.cut t i (Nat.le_of_lt hik) (fun k hk hw => ?_) (fun k hk hkk hw hx => ?_) v hv
  · obtain ⟨ok, h1, h2⟩ := Option.bind_eq_some_iff.1 hw
    have := apart_or hok h1 hi hk (not_apart_read h2 ht) hX' (.inl rfl)
    rcases this with h | h
    · omega
    · exact h
  · obtain ⟨ok, h1, h2⟩ := Option.bind_eq_some_iff.1 hw
    rcases Nat.lt_or_ge i k with h | h
    · exact hni (apart_or hok hi h1 h (not_apart_write ht h2) hX hx)
    · exact hni ((Nat.le_antisymm h hk) ▸ hx)
theorem jy_step (hok : drawOk ops = true) {k : Nat} (hk : k ≤ ops.size) {σ : Nat → Env} {X : Nat → Prop} {a : Act} {w w' : World} (hJ : JY w0 N ops objs σ k X a w) (hX : Closed ops X) (hXk : ∀ i, X i → i < k) {i d : Nat} {o : Oper} {tv : TV} {v : Value} (hi : ops[i]? = some o) (hik : i < k) (hni : ¬ X i) (hd : o.dst = some d) (hdN : d < N)
    (hσ : ∀ i o, i < k → ops[i]? = some o → StepAt P w0 N ops objs o (σ i) (σ (i + 1))) (hσi : ∀ t, lk t (σ (i + 1)) = lk t ((d, tv) :: σ i)) (hr : Rep w' objs tv v) (hw : SimW w0 objs w') (hst : Step w objs w' objs) : JY w0 N ops objs σ k (fun k => k = i ∨ X k) (a.put (some d) v) w' := by
  refine ⟨hJ.defers, by simp [Act.put, hJ.size], hw, fun t c hc h1 h2 u hu => ?_⟩
  show Rep w' objs u ((a.tmps.setIfInBounds d v).getD t undef)
  rw [getD_set (by rw [hJ.size]; exact hdN)]
  by_cases hdt : d = t
  · subst hdt
    rw [if_pos rfl]
    have hwi : Writes ops i d := by unfold Writes; rw [hi]; exact hd
    have hic : i < c := Nat.lt_of_not_le fun h => h2 i h hik hwi (.inl rfl)
    have hlast : ∀ m, i + 1 ≤ m → m ≤ c → lk d (σ m) = some tv := fun m => by
      induction m with
      | zero => intro h; omega
      | succ m ih =>
        intro hm1 hm2
        rcases Nat.eq_or_lt_of_le hm1 with h | h
        · have : m = i := by omega
          subst this; rw [hσi, lk_cons, if_pos rfl]
        · have hm : m < ops.size := by omega
          have hom : ops[m]? = some ops[m] := by simp [hm]
          obtain ⟨dm, tm, e1, _, e2, _⟩ := hσ m _ (by omega) hom
          rw [e2, lk_cons, if_neg]
          · exact ih (by omega) (by omega)
          · intro e
            subst e
            have hwm : Writes ops m dm := by unfold Writes; rw [hom]; exact e1
            rcases h1 m (by omega) hwm with h3 | h3
            · omega
            · exact hni (apart_or hok hi hom (by omega) (not_apart_both hd e1) hX h3)
    rw [hlast c hic (Nat.le_refl _)] at hu
    simp only [Option.some.injEq] at hu
    subst hu; exact hr
  · rw [if_neg hdt]
    refine (hJ.cut t c hc (fun m hm hwm => ?_) (fun m hm hmk hwm hx => h2 m hm hmk hwm (.inr hx)) u hu).step hst
    rcases h1 m hm hwm with h3 | h3
    · subst h3
      unfold Writes at hwm
      rw [hi] at hwm
      simp only [Option.bind_some, hd, Option.some.injEq] at hwm
      exact absurd hwm hdt
    · exact h3
theorem seq_start (hok : drawOk ops = true) {k : Nat} (hk : k ≤ ops.size) (htl : tailOk ops k = true) {σ : Nat → Env} (hQ : AL P w0 N ops Q (ops.toList.drop k) (σ k) objs) {fuel : Nat} {listed : Array Bool} {a : Act} {w : World} (hsz : listed.size = ops.size) (hun : unlisted listed ≤ fuel) (hXk : ∀ i, listed.getD i false = true → i < k)
    (hall : ∀ j, j < k → listed.getD j false = true) (hJ : JY w0 N ops objs σ k (fun i => listed.getD i false = true) a w) : wpAny P .any ops Q fuel listed a w := by
  refine any_of_seq hok htl (ops.size - k) k (by omega) (Nat.le_refl _) fuel listed a w hsz ?_ (fun i hi => ⟨hXk i, hall i⟩) (hQ.run a w ⟨hJ.defers, hJ.size, hJ.mem, fun t v hv => hJ.cut t k (Nat.le_refl _) (fun i hi _ => hall i hi) (fun i hi hik => by omega) v hv⟩)
  unfold unlisted at hun
  rw [← List.take_append_drop k listed.toList, List.filter_append, List.length_append] at hun
  have hd : (listed.toList.drop k).filter (! ·) = listed.toList.drop k := by
    rw [List.filter_eq_self]
    intro x hx
    obtain ⟨j, hj, rfl⟩ := List.getElem_of_mem hx
    rw [List.getElem_drop]
    simp only [List.length_drop, Array.length_toList] at hj
    have hnl : ¬ listed.getD (k + j) false = true := fun h => by have := hXk _ h; omega
    rw [Array.getD_eq_getD_getElem?, Array.getElem?_eq_getElem (by omega)] at hnl
    simpa using hnl
  rw [hd] at hun
  simp only [List.length_drop, Array.length_toList] at hun
  omega
/-- All orders of the first part, then the rest as it is written. -/
theorem any_of_jx2 (hok : drawOk ops = true) {k : Nat} (hk : k ≤ ops.size) (htl : tailOk ops k = true) {σ : Nat → Env} (hσ : ∀ i o, i < k → ops[i]? = some o → StepAt P w0 N ops objs o (σ i) (σ (i + 1))) (hnw : ∀ i o d, k ≤ i → ops[i]? = some o → o.dst = some d → True) (hQ : AL P w0 N ops Q (ops.toList.drop k) (σ k) objs) :
    ∀ (fuel : Nat) (listed : Array Bool) (a : Act) (w : World), listed.size = ops.size → unlisted listed ≤ fuel → (∀ i, listed.getD i false = true → i < k) → Closed ops (fun i => listed.getD i false = true) → JY w0 N ops objs σ k (fun i => listed.getD i false = true) a w → wpAny P .any ops Q fuel listed a w := by
  intro fuel
  induction fuel with
  | zero =>
    intro listed a w hsz hun hXk hX hJ
    by_cases hall : ∀ j, j < k → listed.getD j false = true
    · exact seq_start hok hk htl hQ hsz hun hXk hall hJ
    · exfalso
      apply hall
      intro j hj
      cases hb : listed.getD j false with
      | true => rfl
      | false =>
        exfalso
        have hjl : j < listed.size := by omega
        have : listed[j] ∈ listed.toList.filter (! ·) := List.mem_filter.2 ⟨by simp, by
          simp only [Array.getD_eq_getD_getElem?, Array.getElem?_eq_getElem hjl, Option.getD_some] at hb; simp [hb]⟩
        have := List.length_pos_of_mem this
        unfold unlisted at hun; omega
  | succ fuel ih =>
    intro listed a w hsz hun hXk hX hJ
    by_cases hall : ∀ j, j < k → listed.getD j false = true
    · exact seq_start hok hk htl hQ hsz hun hXk hall hJ
    have hsome : ∃ j, j < k ∧ ¬ listed.getD j false = true := by
      refine Classical.byContradiction fun hn => hall fun j hj => Classical.byContradiction fun h => hn ⟨j, hj, h⟩
    refine ⟨fun hr => ?_, fun i hi => ?_⟩
    · exfalso
      have hall2 : ∀ j, j < ops.size → listed.getD j false = true := by
        intro j
        induction j using Nat.strongRecOn with
        | _ j ih =>
          intro hj
          cases hb : listed.getD j false with
          | true => rfl
          | false =>
            have hoj : ops[j]? = some ops[j] := by simp [hj]
            have hmem : j ∈ Region.ready .any ops listed := mem_ready.2 ⟨by
              have hjl : j < listed.size := by omega
              simp only [Array.getD_eq_getD_getElem?, Array.getElem?_eq_getElem hjl, Option.getD_some] at hb ⊢; exact hb, _, hoj, fun e he hbd => ih e.on ((drawOk_spec hok hoj).1 e he hbd) (Nat.lt_trans ((drawOk_spec hok hoj).1 e he hbd) hj)⟩
            rw [hr] at hmem; cases hmem
      obtain ⟨j, hj, hnj⟩ := hsome
      exact hnj (hall2 j (by omega))
    · obtain ⟨h0, o, ho, hed⟩ := mem_ready.1 hi
      have hisz : i < ops.size := (Array.getElem?_eq_some_iff.1 ho).1
      have hil : i < listed.size := by rw [hsz]; exact hisz
      have h0' : listed[i] = false := by simpa [Array.getD_eq_getD_getElem?, hil] using h0
      have hni : ¬ listed.getD i false = true := by simp [hil, h0']
      have hXeq : ∀ k, (listed.setIfInBounds i true).getD k false = true ↔ (k = i ∨ listed.getD k false = true) := fun k => by
        by_cases hk : k = i
        · subst hk; simp [hil]
        · rw [getD_set_ne false (Ne.symm hk)]; simp [hk]
      have hX' : Closed ops fun k => k = i ∨ listed.getD k false = true := fun j oj hj hx e he hb => by
        rcases hx with rfl | hx
        · rw [hj] at ho; cases ho; exact .inr (hed e he hb)
        · exact .inr (hX j oj hj hx e he hb)
      have hik : i < k := Nat.lt_of_not_le fun hge => by
        obtain ⟨j, hj, hnj⟩ := hsome
        have := closed_reach hok hX' i hisz (.inl rfl) j (by omega) (tailOk_spec htl hisz hge (by omega))
        rcases this with h | h
        · omega
        · exact hnj h
      have hXs : Closed ops fun k => (listed.setIfInBounds i true).getD k false = true := fun j oj hj hx e he hb => (hXeq _).2 (hX' j oj hj ((hXeq _).1 hx) e he hb)
      have hun' : unlisted (listed.setIfInBounds i true) ≤ fuel := by
        have key : ∀ (l : List Bool) (i : Nat), l[i]? = some false → ((l.set i true).filter (! ·)).length + 1 = (l.filter (! ·)).length := fun l => by
          induction l with
          | nil => intro i h; simp at h
          | cons x l ih =>
            intro i h
            cases i with
            | zero => simp at h; subst h; simp
            | succ i =>
              have := ih i (by simpa using h)
              cases x <;> simp [List.filter_cons] at this ⊢ <;> omega
        have := key listed.toList i (by simp [hil, h0'])
        unfold unlisted at hun ⊢
        simp only [Array.toList_setIfInBounds]
        omega
      have hnext : ∀ a' w', JY w0 N ops objs σ k (fun k => k = i ∨ listed.getD k false = true) a' w' → wpAny P .any ops Q fuel (listed.setIfInBounds i true) a' w' := fun a' w' hJ' =>
        ih _ a' w' (by simpa using hsz) hun' (fun j hj => ((hXeq j).1 hj).elim (fun e => e ▸ hik) (hXk j)) hXs ⟨hJ'.defers, hJ'.size, hJ'.mem, fun t k hk h1 h2 v hv => hJ'.cut t k hk (fun m hm hw => (hXeq m).1 (h1 m hm hw)) (fun m hm hmk hw hx => h2 m hm hmk hw ((hXeq m).2 hx)) v hv⟩
      obtain ⟨d, tv, hd, hdN, hσi, hcase⟩ := hσ i o hik ho
      have hguard : ∀ j b c dj, o.guard = some (j, b) → (ops[j]?).bind (·.dst) = some dj → lk dj (σ i) = some (.bool c) → yielded ops a.tmps j = some c := fun j b c dj h1 h2 h3 => by
        have hl : dj ∈ o.looksAt ops := by unfold Oper.looksAt; rw [h1]; simp [h2]
        exact yielded_eq h2 (jy_read hok hk hJ hX hXk ho hik hni hX' hl h3).bool_inv
      unfold wpOp
      rw [ho]
      rcases hcase with ⟨hg, hy⟩ | ⟨hg, rfl⟩
      · have hw : Region.wanted o (yielded ops a.tmps) = true := by
          rcases hg with hg | ⟨j, b, dj, h1, h2, h3⟩
          · simp [Region.wanted, hg]
          · simp [Region.wanted, h1, hguard j b b dj h1 h2 h3]
        simp only [hw, if_true]
        refine .inl (hy a w _ Q hJ.mem (fun x hx v hv => ?_) fun v w' hr hsw hst => ?_)
        · cases x with
          | tmp t =>
            have hl : t ∈ o.looksAt ops := by
              unfold Oper.looksAt
              exact List.mem_append_left _ (List.mem_filterMap.2 ⟨.tmp t, hx, rfl⟩)
            exact jy_read hok hk hJ hX hXk ho hik hni hX' hl hv
          | const u => exact tvOf_rep hv
          | func f => simp only [ev, Option.some.injEq] at hv; subst hv; exact .fn f [] #[] rfl (by simp)
          | global g => cases hv
        · rw [hd]
          exact hnext _ _ (jy_step hok hk hJ hX hXk ho hik hni hd hdN hσ hσi hr hsw hst)
      · have hw : Region.wanted o (yielded ops a.tmps) = false := by
          rcases hg with ⟨j, b, dj, h1, h2, h3⟩ | ⟨j, c, dj, h1, h2, h3⟩
          · cases b <;> simp [Region.wanted, h1, hguard j _ _ dj h1 h2 h3]
          · have hl : dj ∈ o.looksAt ops := by unfold Oper.looksAt; rw [h1]; simp [h2]
            simp [Region.wanted, h1, yielded_undef h2 (jy_read hok hk hJ hX hXk ho hik hni hX' hl h3).undef_inv]
        simp only [hw, Bool.false_eq_true, if_false]
        rw [hd]
        exact hnext _ _ (jy_step hok hk hJ hX hXk ho hik hni hd hdN hσ hσi (.tup [] #[] rfl (by simp)) hJ.mem (step_refl _ _))

inductive Cut : Nat → List Oper → List Oper → List Oper → Prop
  | zero (l : List Oper) : Cut 0 l [] l
  | succ (n : Nat) (x : Oper) (l l1 l2 : List Oper) (h : Cut n l l1 l2) : Cut (n + 1) (x :: l) (x :: l1) l2
theorem Cut.eq {n : Nat} {l l1 l2 : List Oper} (h : Cut n l l1 l2) : l1 = l.take n ∧ l2 = l.drop n ∧ n ≤ l.length := by
  induction h with
  | zero l => simp
  | succ n x l l1 l2 h ih => obtain ⟨h1, h2, h3⟩ := ih; subst h1; subst h2; simp; exact h3
theorem aw_draw2 (k : Nat) {id : Nat} {l l1 l2 : List Oper} {env : Env} (hm : P.follows .mixedOrders = true) (hok : drawOk l.toArray = true) (htl : tailOk l.toArray k = true) (hc : Cut k l l1 l2) (h : DR P w0 N l.toArray objs (fun env' => AL P w0 N l.toArray Q l2 env' objs) l1 env) : AW P w0 N (.region id l.toArray true) Q env objs := ⟨fun a w hs => by
  obtain ⟨e1, e2, hkl⟩ := hc.eq
  subst e1; subst e2
  obtain ⟨σ, h1, h2, h3⟩ := dr_steps h
  rw [List.length_take, Nat.min_eq_left hkl] at h2
  have hrep : ∀ i, (Array.replicate l.toArray.size false).getD i false = false := fun i => by
    rcases Nat.lt_or_ge i l.toArray.size with h | h
    · simp at h; simp [h]
    · simp at h; simp [Array.getD_eq_getD_getElem?, Array.getElem?_eq_none, h]
  have h3' : ∀ i o, i < k → l[i]? = some o → StepAt P w0 N l.toArray objs o (σ i) (σ (i + 1)) := fun i o hi ho => h3 i o (by rw [List.getElem?_take, if_pos hi]; exact ho)
  refine wp_region_any hm (any_of_jx2 hok (k := k) (by simpa using hkl) htl (σ := σ) (fun i o hi hk => h3' i o hi (by simpa using hk)) (fun _ _ _ _ _ _ => trivial) (by simpa using h2) _ _ _ _ (by simp) (by simp [unlisted]) (fun i hi => by rw [hrep] at hi; cases hi) (fun j oj _ hx => nomatch (hrep j).symm.trans hx) ⟨hs.defers, hs.size, ?_, fun t c hc h4 h5 v hv => ?_⟩)
  · exact hs.mem.grow ⟨hs.mem.below.os, hs.mem.below.tape, hs.mem.below.output, hs.mem.below.size, hs.mem.below.block⟩ (Nat.le_refl _) (fun _ _ => rfl)
  · have hk0 : ∀ m, m ≤ c → lk t (σ m) = lk t (σ 0) := fun m => by
      induction m with
      | zero => intro _; rfl
      | succ m ih =>
        intro hm2
        have hml : m < l.length := by omega
        obtain ⟨d, tv, e1, _, e2, _⟩ := h3' m l[m] (by omega) (List.getElem?_eq_getElem hml)
        rw [e2, lk_cons, if_neg]
        · exact ih (by omega)
        · intro e
          have := h4 m (by omega) (by unfold Writes; simp [hml, e1, e])
          rw [hrep] at this; cases this
    rw [hk0 c (Nat.le_refl _), h1 t] at hv
    have hst : Step w objs { w with drawn := w.drawn + 1 } objs := ⟨fun _ _ _ => rfl, fun _ _ h => h, fun _ _ _ rows _ _ h => ⟨⟨rows, h⟩, rfl⟩, Nat.le_refl _, fun h => h⟩
    exact (hs.env t v hv).step hst⟩
end
end Go.Proofs.YtdeokcbbjibkoaaGreatDoor
/- The abstract walk, part 12: the rules for a region whose order is open, and those that make or write memory, by program. -/
namespace Go.Proofs.YtdeokcbbjibkoaaGreatDoor
open Go Go.RowKit
section
variable {P : Program} {w0 : World} {N : Nat} {Q : Exit → Act → World → Prop} {env : Env} {objs : Objs} {ops : Array Oper} {rest : List Oper} {d T0 : Nat} {pos : String} {af : Array Edge} {g : Option (Nat × Bool)} {K : Env → Prop}
theorem dr_nil (h : AQ w0 N Q .normal env objs) : DR P w0 N ops objs (fun env2 => AQ w0 N Q .normal env2 objs) [] env := .nil env h
theorem dr_nil2 {l2 : List Oper} {ops2 : Array Oper} (h : AL P w0 N ops2 Q l2 env objs) : DR P w0 N ops objs (fun env2 => AL P w0 N ops2 Q l2 env2 objs) [] env := .nil env h
/-- The next operation of an open region is carried out. -/
structure DO (P : Program) (w0 : World) (N : Nat) (ops : Array Oper) (objs : Objs) (K : Env → Prop) (o : Oper) (rest : List Oper) (env : Env) : Prop where
  run : GRun ops env o → DR P w0 N ops objs K (o :: rest) env
theorem dr_none {o : Oper} (hg : o.guard = none) (h : DO P w0 N ops objs K o rest env) : DR P w0 N ops objs K (o :: rest) env := h.run (.inl hg)
theorem dr_run {o : Oper} {j dj : Nat} {b : Bool} {v : TV} (hg : o.guard = some (j, b)) (hj : (ops[j]?).bind (·.dst) = some dj) (hv : lk dj env = some v) (he : v = .bool b) (h : DO P w0 N ops objs K o rest env) : DR P w0 N ops objs K (o :: rest) env := h.run (.inr ⟨j, b, dj, hg, hj, by rw [hv, he]⟩)
theorem dr_skip {o : Oper} {d dj j : Nat} {b c : Bool} {v : TV} (hg : o.guard = some (j, c)) (hj : (ops[j]?).bind (·.dst) = some dj) (hb : lk dj env = some v) (hv : v = .bool b) (hc : c = !b) (hd : o.dst = some d) (hN : Nat.blt d N = true) (h : DR P w0 N ops objs K rest ((d, .tup []) :: env)) : DR P w0 N ops objs K (o :: rest) env := .skip _ _ _ _ hd hN (.inl ⟨j, b, dj, by rw [hg, hc], hj, by rw [hb, hv]⟩) h
theorem dr_skip2 {o : Oper} {d dj j : Nat} {c : Bool} {v : TV} (hg : o.guard = some (j, c)) (hj : (ops[j]?).bind (·.dst) = some dj) (hb : lk dj env = some v) (hv : v = .tup []) (hd : o.dst = some d) (hN : Nat.blt d N = true) (h : DR P w0 N ops objs K rest ((d, .tup []) :: env)) : DR P w0 N ops objs K (o :: rest) env := .skip _ _ _ _ hd hN (.inr ⟨j, c, dj, hg, hj, by rw [hb, hv]⟩) h
theorem dr_gsplit {o : Oper} {j dj : Nat} {b : Bool} {p : Prop} {i : Decidable p} {v : TV} (_hg : o.guard = some (j, b)) (_hj : (ops[j]?).bind (·.dst) = some dj) (hv : lk dj env = some v) (he : v = .bool (@decide p i)) (ht : p → DR P w0 N ops objs K (o :: rest) ((dj, .bool true) :: env)) (hf : ¬ p → DR P w0 N ops objs K (o :: rest) ((dj, .bool false) :: env)) : DR P w0 N ops objs K (o :: rest) env := by
  by_cases h : p
  · exact .know _ _ dj v _ hv (by rw [he]; simp [h]) (ht h)
  · exact .know _ _ dj v _ hv (by rw [he]; simp [h]) (hf h)
theorem dr_gt {o : Oper} {j dj : Nat} {b : Bool} {p : Prop} {i : Decidable p} {v : TV} (hg : o.guard = some (j, b)) (hj : (ops[j]?).bind (·.dst) = some dj) (hv : lk dj env = some v) (he : v = .bool (@decide p i)) (hp : p) (ht : DR P w0 N ops objs K (o :: rest) ((dj, .bool true) :: env)) : DR P w0 N ops objs K (o :: rest) env := dr_gsplit hg hj hv he (fun _ => ht) (fun h => absurd hp h)
theorem dr_gf {o : Oper} {j dj : Nat} {b : Bool} {p : Prop} {i : Decidable p} {v : TV} (hg : o.guard = some (j, b)) (hj : (ops[j]?).bind (·.dst) = some dj) (hv : lk dj env = some v) (he : v = .bool (@decide p i)) (hp : ¬ p) (hf : DR P w0 N ops objs K (o :: rest) ((dj, .bool false) :: env)) : DR P w0 N ops objs K (o :: rest) env := dr_gsplit hg hj hv he (fun h => absurd h hp) (fun _ => hf)
theorem dr_gsplit_b {o : Oper} {j dj : Nat} {b c : Bool} {v : TV} (_hg : o.guard = some (j, b)) (_hj : (ops[j]?).bind (·.dst) = some dj) (hv : lk dj env = some v) (he : v = .bool c) (ht : c = true → DR P w0 N ops objs K (o :: rest) ((dj, .bool true) :: env)) (hf : c = false → DR P w0 N ops objs K (o :: rest) ((dj, .bool false) :: env)) : DR P w0 N ops objs K (o :: rest) env := by
  cases c
  · exact .know _ _ dj v _ hv he (hf rfl)
  · exact .know _ _ dj v _ hv he (ht rfl)
theorem d_move {x : Operand} {tv : TV} (hN : Nat.blt d N = true) (hx : ev env x = some tv) (h : DR P w0 N ops objs K rest ((d, tv) :: env)) : DO P w0 N ops objs K ⟨some d, .move x, T0, pos, af, g⟩ rest env := ⟨fun hgr => .run _ _ _ _ _ rfl hN hgr (y_move rfl hx) h⟩
theorem d_assign {x : Operand} {tv : TV} (hN : Nat.blt d N = true) (hx : ev env x = some tv) (h : DR P w0 N ops objs K rest ((d, tv) :: env)) : DO P w0 N ops objs K ⟨some d, .assign x, T0, pos, af, g⟩ rest env := ⟨fun hgr => .run _ _ _ _ _ rfl hN hgr (y_assign rfl hx) h⟩
theorem d_pick_t {c x y : Operand} {tv cv : TV} (hN : Nat.blt d N = true) (hc : ev env c = some cv) (he : cv = .bool true) (hx : ev env x = some tv) (h : DR P w0 N ops objs K rest ((d, tv) :: env)) : DO P w0 N ops objs K ⟨some d, .pick c x y, T0, pos, af, g⟩ rest env := ⟨fun hgr => .run _ _ _ _ _ rfl hN hgr (y_pick_t rfl hc he hx) h⟩
theorem d_pick_f {c x y : Operand} {tv cv : TV} (hN : Nat.blt d N = true) (hc : ev env c = some cv) (he : cv = .bool false) (hx : ev env y = some tv) (h : DR P w0 N ops objs K rest ((d, tv) :: env)) : DO P w0 N ops objs K ⟨some d, .pick c x y, T0, pos, af, g⟩ rest env := ⟨fun hgr => .run _ _ _ _ _ rfl hN hgr (y_pick_f rfl hc he hx) h⟩
theorem d_eql {t t2 : TypeId} {x y : Operand} {k : IntKind} {m n : Int} (hN : Nat.blt d N = true) (hx : ev env x = some (.int k m)) (hy : ev env y = some (.int k n)) (h : DR P w0 N ops objs K rest ((d, .bool (decide (m = n))) :: env)) : DO P w0 N ops objs K ⟨some d, .binOp .eql t x y t2, T0, pos, af, g⟩ rest env := ⟨fun hgr => .run _ _ _ _ _ rfl hN hgr (y_eql rfl hx hy) h⟩
theorem d_neq {t t2 : TypeId} {x y : Operand} {k : IntKind} {m n : Int} (hN : Nat.blt d N = true) (hx : ev env x = some (.int k m)) (hy : ev env y = some (.int k n)) (h : DR P w0 N ops objs K rest ((d, .bool (decide (m ≠ n))) :: env)) : DO P w0 N ops objs K ⟨some d, .binOp .neq t x y t2, T0, pos, af, g⟩ rest env := ⟨fun hgr => .run _ _ _ _ _ rfl hN hgr (y_neq rfl hx hy) h⟩
theorem d_leq {t t2 : TypeId} {x y : Operand} {k : IntKind} {m n : Int} (hN : Nat.blt d N = true) (hx : ev env x = some (.int k m)) (hy : ev env y = some (.int k n)) (h : DR P w0 N ops objs K rest ((d, .bool (decide (m ≤ n))) :: env)) : DO P w0 N ops objs K ⟨some d, .binOp .leq t x y t2, T0, pos, af, g⟩ rest env := ⟨fun hgr => .run _ _ _ _ _ rfl hN hgr (y_leq rfl hx hy) h⟩
theorem d_gtr {t t2 : TypeId} {x y : Operand} {k : IntKind} {m n : Int} (hN : Nat.blt d N = true) (hx : ev env x = some (.int k m)) (hy : ev env y = some (.int k n)) (h : DR P w0 N ops objs K rest ((d, .bool (decide (n < m))) :: env)) : DO P w0 N ops objs K ⟨some d, .binOp .gtr t x y t2, T0, pos, af, g⟩ rest env := ⟨fun hgr => .run _ _ _ _ _ rfl hN hgr (y_gtr rfl hx hy) h⟩
theorem d_geq {t t2 : TypeId} {x y : Operand} {k : IntKind} {m n : Int} (hN : Nat.blt d N = true) (hx : ev env x = some (.int k m)) (hy : ev env y = some (.int k n)) (h : DR P w0 N ops objs K rest ((d, .bool (decide (n ≤ m))) :: env)) : DO P w0 N ops objs K ⟨some d, .binOp .geq t x y t2, T0, pos, af, g⟩ rest env := ⟨fun hgr => .run _ _ _ _ _ rfl hN hgr (y_geq rfl hx hy) h⟩
theorem d_sub {t t2 : TypeId} {x y : Operand} {k : IntKind} {m n c : Int} (hN : Nat.blt d N = true) (hx : ev env x = some (.int k m)) (hy : ev env y = some (.int k n)) (hc : k.wrap (m - n) = c) (h : DR P w0 N ops objs K rest ((d, .int k c) :: env)) : DO P w0 N ops objs K ⟨some d, .binOp .sub t x y t2, T0, pos, af, g⟩ rest env := ⟨fun hgr => .run _ _ _ _ _ rfl hN hgr (y_sub rfl hx hy hc) h⟩
theorem d_not_t {t : TypeId} {x : Operand} {v : TV} (hN : Nat.blt d N = true) (hx : ev env x = some v) (he : v = .bool true) (h : DR P w0 N ops objs K rest ((d, .bool false) :: env)) : DO P w0 N ops objs K ⟨some d, .unOp .not t x, T0, pos, af, g⟩ rest env := ⟨fun hgr => .run _ _ _ _ _ rfl hN hgr (y_not_b (b := true) rfl (he ▸ hx)) h⟩
theorem d_not_f {t : TypeId} {x : Operand} {v : TV} (hN : Nat.blt d N = true) (hx : ev env x = some v) (he : v = .bool false) (h : DR P w0 N ops objs K rest ((d, .bool true) :: env)) : DO P w0 N ops objs K ⟨some d, .unOp .not t x, T0, pos, af, g⟩ rest env := ⟨fun hgr => .run _ _ _ _ _ rfl hN hgr (y_not_b (b := false) rfl (he ▸ hx)) h⟩
theorem d_eql_s {t t2 : TypeId} {x y : Operand} {s u : ByteArray} (hN : Nat.blt d N = true) (hx : ev env x = some (.str s)) (hy : ev env y = some (.str u)) (h : DR P w0 N ops objs K rest ((d, .bool (decide (s = u))) :: env)) : DO P w0 N ops objs K ⟨some d, .binOp .eql t x y t2, T0, pos, af, g⟩ rest env := ⟨fun hgr => .run _ _ _ _ _ rfl hN hgr (y_eql_s rfl hx hy) h⟩
theorem d_neq_s {t t2 : TypeId} {x y : Operand} {s u : ByteArray} (hN : Nat.blt d N = true) (hx : ev env x = some (.str s)) (hy : ev env y = some (.str u)) (h : DR P w0 N ops objs K rest ((d, .bool (decide (s ≠ u))) :: env)) : DO P w0 N ops objs K ⟨some d, .binOp .neq t x y t2, T0, pos, af, g⟩ rest env := ⟨fun hgr => .run _ _ _ _ _ rfl hN hgr (y_neq_s rfl hx hy) h⟩
theorem d_eql_b {t t2 : TypeId} {x y : Operand} {b c : Bool} (hN : Nat.blt d N = true) (hx : ev env x = some (.bool b)) (hy : ev env y = some (.bool c)) (hu : P.underlying t = some .bool) (h : DR P w0 N ops objs K rest ((d, .bool (b == c)) :: env)) : DO P w0 N ops objs K ⟨some d, .binOp .eql t x y t2, T0, pos, af, g⟩ rest env := ⟨fun hgr => .run _ _ _ _ _ rfl hN hgr (y_eql_b rfl hx hy hu) h⟩
theorem d_neq_b {t t2 : TypeId} {x y : Operand} {b c : Bool} (hN : Nat.blt d N = true) (hx : ev env x = some (.bool b)) (hy : ev env y = some (.bool c)) (hu : P.underlying t = some .bool) (h : DR P w0 N ops objs K rest ((d, .bool (b != c)) :: env)) : DO P w0 N ops objs K ⟨some d, .binOp .neq t x y t2, T0, pos, af, g⟩ rest env := ⟨fun hgr => .run _ _ _ _ _ rfl hN hgr (y_neq_b rfl hx hy hu) h⟩
theorem d_nilCheck_cp {x : Operand} {f : Nat} {l : List TV} (hN : Nat.blt d N = true) (hx : ev env x = some (.cp f l)) (h : DR P w0 N ops objs K rest ((d, .cp f l) :: env)) : DO P w0 N ops objs K ⟨some d, .nilCheck x, T0, pos, af, g⟩ rest env := ⟨fun hgr => .run _ _ _ _ _ rfl hN hgr (y_nilCheck rfl hx (fun _ => .cp f l)) h⟩
theorem d_load_cp {T : TypeId} {x : Operand} {c : TV} {rr : List TV} {f : Nat} {l : List TV} (hN : Nat.blt d N = true) (hA : agT T = false) (hT : isScal P T = true) (hx : ev env x = some (.cp f l)) (hl : l = c :: rr) (h : DR P w0 N ops objs K rest ((d, c) :: env)) : DO P w0 N ops objs K ⟨some d, .load T x, T0, pos, af, g⟩ rest env := ⟨fun hgr => .run _ _ _ _ _ rfl hN hgr (y_load rfl hT hx (fun _ => .cp f l) hl) h⟩
theorem d_load_agg_cp {T : TypeId} {x : Operand} {out : List TV} {f : Nat} {l : List TV} (hN : Nat.blt d N = true) (hA : agT T = true) (hT : isAggB P T = true) (hi : (P.info? T).isSome = true) (hs : P.cellsOf T = szT T) (hx : ev env x = some (.cp f l)) (htk : Taken (szT T) (l) out) (h : DR P w0 N ops objs K rest ((d, .agg out) :: env)) : DO P w0 N ops objs K ⟨some d, .load T x, T0, pos, af, g⟩ rest env := ⟨fun hgr => .run _ _ _ _ _ rfl hN hgr (y_load_agg rfl hT hi hs hx (fun _ => .cp f l) htk) h⟩
theorem d_nilCheck_mp {x : Operand} {s b off : Nat} {cells : List TV} (hN : Nat.blt d N = true) (hx : ev env x = some (.mp s b off)) (hm : (s, b, TObj.box cells) ∈ objs) (h : DR P w0 N ops objs K rest ((d, .mp s b off) :: env)) : DO P w0 N ops objs K ⟨some d, .nilCheck x, T0, pos, af, g⟩ rest env := ⟨fun hgr => .run _ _ _ _ _ rfl hN hgr (y_nilCheck rfl hx (fun _ => .mp s b off cells hm)) h⟩
theorem d_load_mp {T : TypeId} {x : Operand} {c : TV} {rr : List TV} {s b off : Nat} {cells : List TV} (hN : Nat.blt d N = true) (hA : agT T = false) (hT : isScal P T = true) (hx : ev env x = some (.mp s b off)) (hm : (s, b, TObj.box cells) ∈ objs) (hl : cells.drop off = c :: rr) (h : DR P w0 N ops objs K rest ((d, c) :: env)) : DO P w0 N ops objs K ⟨some d, .load T x, T0, pos, af, g⟩ rest env := ⟨fun hgr => .run _ _ _ _ _ rfl hN hgr (y_load rfl hT hx (fun _ => .mp s b off cells hm) hl) h⟩
theorem d_load_agg_mp {T : TypeId} {x : Operand} {out : List TV} {s b off : Nat} {cells : List TV} (hN : Nat.blt d N = true) (hA : agT T = true) (hT : isAggB P T = true) (hi : (P.info? T).isSome = true) (hs : P.cellsOf T = szT T) (hx : ev env x = some (.mp s b off)) (hm : (s, b, TObj.box cells) ∈ objs) (htk : Taken (szT T) (cells.drop off) out) (h : DR P w0 N ops objs K rest ((d, .agg out) :: env)) : DO P w0 N ops objs K ⟨some d, .load T x, T0, pos, af, g⟩ rest env := ⟨fun hgr => .run _ _ _ _ _ rfl hN hgr (y_load_agg rfl hT hi hs hx (fun _ => .mp s b off cells hm) htk) h⟩
theorem d_load_me {T : TypeId} {x : Operand} {c : TV} {rr : List TV} {s b m j off : Nat} {rows : List (List TV)} {r0 : List TV} (hN : Nat.blt d N = true) (hA : agT T = false) (hT : isScal P T = true) (hx : ev env x = some (.me s b m j off)) (hm : (s, b, TObj.row m rows) ∈ objs) (hr : rows[j]? = some r0) (hl : r0.drop off = c :: rr) (h : DR P w0 N ops objs K rest ((d, c) :: env)) : DO P w0 N ops objs K ⟨some d, .load T x, T0, pos, af, g⟩ rest env := ⟨fun hgr => .run _ _ _ _ _ rfl hN hgr (y_load rfl hT hx (fun _ => .me s b m j off rows r0 hm hr) hl) h⟩
theorem d_fieldAddr {T : TypeId} {x : Operand} {tv tv2 : TV} {i : Nat} (hN : Nat.blt d N = true) (hx : ev env x = some tv) (hF : fieldB P T i = true) (ht : tvOff (ofT T i) tv = some tv2) (h : DR P w0 N ops objs K rest ((d, tv2) :: env)) : DO P w0 N ops objs K ⟨some d, .fieldAddr T x i, T0, pos, af, g⟩ rest env := ⟨fun hgr => .run _ _ _ _ _ rfl hN hgr (y_fieldAddr rfl hx hF ht) h⟩
theorem d_indexAddr {T : TypeId} {x i : Operand} {f m : Nat} {rows : List (List TV)} {kk : IntKind} {n : Int} {j : Nat} {r : List TV} (hN : Nat.blt d N = true) (hx : ev env x = some (.sl f m rows)) (hi : ev env i = some (.int kk n)) (hT : P.underlying T = some (.slice (P.elem T))) (hI : (P.info? (P.elem T)).isSome = true) (hm : P.cellsOf (P.elem T) = m) (hm0 : Nat.blt 0 m = true) (hn : n = (j : Int)) (hr : rows[j]? = some r) (h : DR P w0 N ops objs K rest ((d, .cp f r) :: env)) : DO P w0 N ops objs K ⟨some d, .indexAddr T x i, T0, pos, af, g⟩ rest env := ⟨fun hgr => .run _ _ _ _ _ rfl hN hgr (y_indexAddr rfl hx hi hT hI hm hm0 hn hr) h⟩
theorem d_indexAddr_ms {T : TypeId} {x i : Operand} {s b off len m : Nat} {rows : List (List TV)} {kk : IntKind} {n : Int} {j jj : Nat} (hN : Nat.blt d N = true) (hx : ev env x = some (.ms s b off len)) (hi : ev env i = some (.int kk n)) (hobj : (s, b, TObj.row m rows) ∈ objs) (hT : P.underlying T = some (.slice (P.elem T))) (hI : (P.info? (P.elem T)).isSome = true) (hm : P.cellsOf (P.elem T) = m) (hn : n = (j : Int)) (hk : j < len) (hkk : off + j = jj) (h : DR P w0 N ops objs K rest ((d, .me s b m jj 0) :: env)) : DO P w0 N ops objs K ⟨some d, .indexAddr T x i, T0, pos, af, g⟩ rest env := ⟨fun hgr => .run _ _ _ _ _ rfl hN hgr (hkk ▸ y_indexAddr_ms rfl hx hi hobj hT hI hm hn hk) h⟩
theorem d_len_sl {x : Operand} {t : TypeId} {f m n : Nat} {rows : List (List TV)} (hN : Nat.blt d N = true) (hx : ev env x = some (.sl f m rows)) (hT : P.underlying t = some (.slice (P.elem t))) (hn : rows.length = n) (h : DR P w0 N ops objs K rest ((d, .int .i64 (n : Int)) :: env)) : DO P w0 N ops objs K ⟨some d, .call { callee := .builtin .len, args := #[x], argTypes := #[t] }, T0, pos, af, g⟩ rest env := ⟨fun hgr => .run _ _ _ _ _ rfl hN hgr (y_len_sl rfl hx hT hn) h⟩
theorem d_len_ms {x : Operand} {t : TypeId} {s b off len : Nat} (hN : Nat.blt d N = true) (hx : ev env x = some (.ms s b off len)) (hT : P.underlying t = some (.slice (P.elem t))) (h : DR P w0 N ops objs K rest ((d, .int .i64 (len : Int)) :: env)) : DO P w0 N ops objs K ⟨some d, .call { callee := .builtin .len, args := #[x], argTypes := #[t] }, T0, pos, af, g⟩ rest env := ⟨fun hgr => .run _ _ _ _ _ rfl hN hgr (y_len_ms rfl hx hT) h⟩
theorem d_lit {T : TypeId} {n m : Nat} {ps : List (Nat × Operand)} {rows : List (List TV)} (hN : Nat.blt d N = true) (hev : evL env ps 0 = some rows) (hT : P.underlying T = some (.slice (P.elem T))) (hI : (zeroOk P (P.elem T)).isSome = true) (hs : esT T = some m) (hm : P.cellsOf (P.elem T) = m) (hm0 : Nat.blt 0 m = true) (hn : rows.length = n) (hbig : Nat.ble (n * m) 16777216 = true) (hall : (rows.all fun r => Nat.beq r.length m) = true) (h : DR P w0 N ops objs K rest ((d, .sl w0.heap.size m rows) :: env)) : DO P w0 N ops objs K ⟨some d, .buildSlice T n ps.toArray, T0, pos, af, g⟩ rest env := ⟨fun hgr => .run _ _ _ _ _ rfl hN hgr (y_lit rfl hT hI hm hm0 hev hn hbig hall) h⟩
theorem d_call {G : World → Prop} {f : Nat} {xs : List Operand} {ts : Array TypeId} {args : List TV} {r : Nat → TV} (hN : Nat.blt d N = true) (hc : callB P f = true) (hargs : Args env objs xs args) (hG : G w0) (hst : Stable G) (hct : Ct P G f args r) (h : DR P w0 N ops objs K rest ((d, r w0.heap.size) :: env)) : DO P w0 N ops objs K ⟨some d, .call { callee := .value (.func f), args := xs.toArray, argTypes := ts }, T0, pos, af, g⟩ rest env := ⟨fun hgr => .run _ _ _ _ _ rfl hN hgr (y_call rfl hc hargs hct hG hst) h⟩
theorem o_alloc {T : TypeId} {zs : List TV} (hN : Nat.blt d N = true) (he : zT T = zs) (hz : zeroOk P T = some zs) (h : ∀ ss b, AL P w0 N ops Q rest ((d, .mp ss b 0) :: env) ((ss, b, .box zs) :: objs)) : AO P w0 N ops Q ⟨some d, .alloc T, T0, pos, af, g⟩ rest env objs := ao_alloc rfl rfl hN hz h
theorem o_own {T : TypeId} {n m : Nat} {ps : List (Nat × Operand)} {rows : List (List TV)} (hN : Nat.blt d N = true) (hev : evL env ps 0 = some rows) (hT : P.underlying T = some (.slice (P.elem T))) (hI : (zeroOk P (P.elem T)).isSome = true) (hs : esT T = some m) (hm : P.cellsOf (P.elem T) = m) (hm0 : Nat.blt 0 m = true) (hn : rows.length = n) (hbig : Nat.ble (n * m) 16777216 = true) (hall : (rows.all fun r => Nat.beq r.length m) = true) (h : ∀ ss b, AL P w0 N ops Q rest ((d, .ms ss b 0 n) :: env) ((ss, b, .row m rows) :: objs)) : AO P w0 N ops Q ⟨some d, .buildSlice T n ps.toArray, T0, pos, af, g⟩ rest env objs := ao_lit rfl rfl hN hT hI hm hm0 hev hn hbig hall h
theorem o_store_mp {T : TypeId} {x v : Operand} {s b off : Nat} {tv : TV} {cells vs cells2 : List TV} {objs2 : Objs} (hx : ev env x = some (.mp s b off)) (hv : ev env v = some tv) (hc : tvCells tv = some vs) (hi : (P.info? T).isSome = true) (hm : (s, b, TObj.box cells) ∈ objs) (hsp : Splice cells off vs cells2) (hu : Upd (s, b, .box cells) (s, b, .box cells2) objs objs2) (hsz : P.cellsOf T = vs.length) (h : AL P w0 N ops Q rest env objs2) : AO P w0 N ops Q ⟨none, .store T x v, T0, pos, af, g⟩ rest env objs := ao_store_mp rfl rfl hx hv hc hi hsz hu hsp h
theorem o_store_me {T : TypeId} {x v : Operand} {s b m j off : Nat} {tv : TV} {vs r r2 : List TV} {rows rows2 : List (List TV)} {objs2 : Objs} (hx : ev env x = some (.me s b m j off)) (hv : ev env v = some tv) (hc : tvCells tv = some vs) (hi : (P.info? T).isSome = true) (hm : (s, b, TObj.row m rows) ∈ objs) (hr : rows[j]? = some r) (hsp : Splice r off vs r2) (hsz : P.cellsOf T = vs.length) (hrows : rows.set j r2 = rows2) (hu : Upd (s, b, .row m rows) (s, b, .row m rows2) objs objs2) (h : AL P w0 N ops Q rest env objs2) : AO P w0 N ops Q ⟨none, .store T x v, T0, pos, af, g⟩ rest env objs := ao_store_me rfl rfl hx hv hc hi hsz hu hr hsp hrows h
theorem o_append {objsOf : Nat → Objs} {T s b len n m : Nat} {x y : Operand} {f : Nat} {rows rows2 news : List (List TV)} (hN : Nat.blt d N = true) (hx : ev env x = some (.ms s b 0 len)) (hy : ev env y = some (.sl f m news)) (hT : appOk P T m = true) (hm : (s, b, TObj.row m rows) ∈ objs) (hl : rows.length = len) (hn : news.length = n) (hbig : len + n ≤ 1000000000) (hrows : rows ++ news = rows2) (hu : ∀ b2, Upd (s, b, .row m rows) (s, b2, .row m rows2) objs (objsOf b2)) (h : ∀ b2, AL P w0 N ops Q rest ((d, .ms s b2 0 (len + n)) :: env) (objsOf b2)) : AO P w0 N ops Q ⟨some d, .call { callee := .builtin .append, args := #[x, y], argTypes := #[T, T] }, T0, pos, af, g⟩ rest env objs := ao_append rfl rfl hN hx hy hT (by omega) hn hbig (by rw [← hl, List.take_length]; exact hrows) hu h
end
end Go.Proofs.YtdeokcbbjibkoaaGreatDoor
/- The abstract walk, part 13: a struct written out. -/
namespace Go.Proofs.YtdeokcbbjibkoaaGreatDoor
open Go Go.RowKit
section
variable {P : Program} {w0 : World} {N : Nat} {Q : Exit → Act → World → Prop} {env : Env} {objs : Objs} {o : Oper}
def placesOf (P : Program) (T : Nat) : Option (List (Nat × Nat)) := match P.underlying T with
  | some (.struct fields) => fields.toList.mapM fun f => (P.info? f.type).map fun i => (f.offset, i.size)
  | _ => none
inductive TB (P : Program) (env : Env) (T : Nat) : List (Nat × Operand) → List TV → List TV → Prop
  | nil (l : List TV) : TB P env T [] l l
  | cons (i : Nat) (x : Operand) (r : List (Nat × Operand)) (l l1 l2 : List TV) (tv : TV) (vs : List TV) (hx : ev env x = some tv) (hc : tvCells tv = some vs) (hs : Splice l (ofT T i) vs l1) (hF : (placesOf P T).bind (·[i]?) = some (ofT T i, vs.length)) (hr : TB P env T r l1 l2) : TB P env T ((i, x) :: r) l l2
theorem tb_fill {w : World} {T : Nat} (a : Act) {places : List (Nat × Nat)} (hp : placesOf P T = some places) {ps : List (Nat × Operand)} {l l2 : List TV} (h : TB P env T ps l l2) : ∀ (cs : Array Value), cs.size = l.length → (∀ (i : Nat) (t : TV) (u : Value), l[i]? = some t → cs[i]? = some u → Rep w objs t u) → (∀ t ∈ l, t.isCell = true) →
    (∀ p ∈ ps, ∀ v, ev env p.2 = some v → Rep w objs v (a.eval p.2)) → ∃ r, Instr.fill (places.toArray[·]?) cs (ps.map fun p => (p.1, a.eval p.2)) = some r ∧ r.size = l2.length ∧ (∀ (i : Nat) (t : TV) (u : Value), l2[i]? = some t → r[i]? = some u → Rep w objs t u) ∧ ∀ t ∈ l2, t.isCell = true := by
  induction h with
  | nil l => exact fun cs h1 h2 h3 _ => ⟨cs, rfl, h1, h2, h3⟩
  | cons i x r l l1 l2 tv vs hx hc hs hF hr ih =>
    intro cs h1 h2 h3 hop
    obtain ⟨g1, g2, g3⟩ := rep_cells (show Rep w objs tv (a.eval x) from hop (i, x) (by simp) tv hx) hc
    obtain ⟨p1, p2, p3⟩ := hs.spec
    rw [hp] at hF
    simp only [Option.bind_some] at hF
    obtain ⟨f1, f2⟩ := Great.foldl_set (ofT T i) (a.eval x).cells.toList 0 cs
    have hsame : (a.eval x).cells.zipIdx.foldl (fun cs (c, j) => cs.setIfInBounds (ofT T i + j) c) cs = ((a.eval x).cells.toList.zipIdx 0).foldl (fun cs (x : Value × Nat) => cs.setIfInBounds (ofT T i + x.2) x.1) cs := by
      rw [← Array.foldl_toList, Array.toList_zipIdx]
    obtain ⟨r', e1, e2, e3⟩ := ih (((a.eval x).cells.toList.zipIdx 0).foldl (fun cs (x : Value × Nat) => cs.setIfInBounds (ofT T i + x.2) x.1) cs) (by rw [f1, h1, p2]) (fun k t u ht hu => by
      rw [f2] at hu
      rw [p3] at ht
      by_cases hin : ofT T i ≤ k ∧ k < ofT T i + vs.length
      · rw [if_pos hin] at ht
        rw [if_pos ⟨by omega, by simp; omega, by omega⟩] at hu
        exact g2 _ t u ht (by simpa using hu)
      · rw [if_neg hin] at ht
        rw [if_neg (by simp; omega)] at hu
        exact h2 k t u ht hu) (fun t ht => by
      obtain ⟨k, hk, rfl⟩ := List.getElem_of_mem ht
      have h5 := p3 k
      rw [List.getElem?_eq_getElem hk] at h5
      split at h5
      · exact g3 _ (List.mem_of_getElem? h5.symm)
      · exact h3 _ (List.mem_of_getElem? h5.symm)) (fun p hp => hop p (by simp [hp]))
    refine ⟨r', ?_, e2, e3⟩
    simp only [List.map_cons, Instr.fill]
    have hpl : places.toArray[i]? = some (ofT T i, vs.length) := by simpa using hF
    rw [hpl]
    simp only
    rw [if_neg (by simp; omega), hsame]
    exact e1
theorem y_build {T : TypeId} {ps : List (Nat × Operand)} {l : List TV} (ho : o.op = .build T ps.toArray) (hz : zeroOk P T = some (zT T)) (hp : (placesOf P T).isSome = true) (hb : TB P env T ps (zT T) l) : Yields P w0 env objs o (.agg l) := yields_same fun a w hw hop => by
  obtain ⟨places, hp⟩ := Option.isSome_iff_exists.1 hp
  have hz0 := hz
  unfold zeroOk at hz
  cases hi : P.info? T with
  | none => rw [hi] at hz; cases hz
  | some it =>
  rw [hi] at hz
  simp only [Option.bind_some] at hz
  cases hzz : it.zero with
  | none => rw [hzz] at hz; cases hz
  | some z =>
  rw [hzz] at hz
  simp only [Option.bind_some] at hz
  have htv := tvL_rep (w := w) (objs := objs) hz
  obtain ⟨r, e1, e2, e3, e4⟩ := tb_fill (w := w) (objs := objs) a hp hb z.cells (by simpa using htv.1.1.symm) (fun i t u ht hu => htv.2 i t u ht (by simpa using hu)) htv.1.2 (fun p hpm v hv => hop p.2 (by
    simp only [ho, Op.operands, List.toList_toArray]; exact List.mem_map.2 ⟨p, hpm, rfl⟩) v hv)
  refine ⟨.agg r, ?_, .agg l r e4 e2.symm e3⟩
  simp only [execOp, ho]
  refine exec_v (run_build w T _ r ?_)
  unfold placesOf at hp
  unfold Program.built
  cases hu : P.underlying T with
  | none => rw [hu] at hp; cases hp
  | some d =>
    rw [hu] at hp
    cases d <;> first | (cases hp; done) | skip
    simp only [hi, hzz, hp]
    simp only [List.map_toArray]
    exact e1
variable {ops : Array Oper} {rest : List Oper} {d T0 : Nat} {pos : String} {af : Array Edge} {g : Option (Nat × Bool)}
theorem o_build {T : TypeId} {ps : List (Nat × Operand)} {zs l : List TV} (hN : Nat.blt d N = true) (he : zT T = zs) (hb : TB P env T ps zs l) (hz : zeroOk P T = some (zT T)) (hp : (placesOf P T).isSome = true) (h : AL P w0 N ops Q rest ((d, .agg l) :: env) objs) : AO P w0 N ops Q ⟨some d, .build T ps.toArray, T0, pos, af, g⟩ rest env objs := ao_q rfl hN (y_build rfl hz hp (by rw [he]; exact hb)) h
end
end Go.Proofs.YtdeokcbbjibkoaaGreatDoor
/- The abstract walk, part 14: the rest of an owned row, make. -/
namespace Go.Proofs.YtdeokcbbjibkoaaGreatDoor
open Go Go.RowKit
section
variable {P : Program} {w0 : World} {N : Nat} {Q : Exit → Act → World → Prop} {env : Env} {objs : Objs} {o : Oper}
theorem y_slice_ms {T : TypeId} {x lo : Operand} {s b off len m : Nat} {rows : List (List TV)} {k1 : IntKind} {n : Int} {i : Nat} (ho : o.op = .slice T x (some lo) none none) (hx : ev env x = some (.ms s b off len)) (hlo : ev env lo = some (.int k1 n))
    (hobj : (s, b, TObj.row m rows) ∈ objs) (hT : P.underlying T = some (.slice (P.elem T))) (hI : (P.info? (P.elem T)).isSome = true) (hm : P.cellsOf (P.elem T) = m) (hn : n = (i : Int)) (hi : i ≤ len) :
    Yields P w0 env objs o (.ms s b (off + i) (len - i)) := yields_same fun a w hw hop => by
  have h0 := hop x (slice_opnd ho) _ hx
  have h1 := (hop lo (by simp [ho, Op.operands]) _ hlo).int_inv
  have huniq : ∀ m' rows', (s, b, TObj.row m' rows') ∈ objs → m' = m := fun m' rows' h' => by
    have key : ∀ (l : Objs), List.Pairwise (fun (x y : Nat × Nat × TObj) => x.1 ≠ y.1 ∧ (x.2.1 ≠ y.2.1 ∨ x.2.1 = 0)) l → (s, b, TObj.row m rows) ∈ l → (s, b, TObj.row m' rows') ∈ l → m' = m := fun l => by
      induction l with
      | nil => intro _ h; simp at h
      | cons z l ih =>
        intro hp h1 h2
        obtain ⟨g1, g2⟩ := List.pairwise_cons.1 hp
        rcases List.mem_cons.1 h1 with e1 | h1'
        · rcases List.mem_cons.1 h2 with e2 | h2'
          · rw [← e1] at e2
            simp only [Prod.mk.injEq, TObj.row.injEq] at e2
            exact e2.2.2.1
          · exact absurd (by rw [← e1]) (g1 _ h2').1
        · rcases List.mem_cons.1 h2 with e2 | h2'
          · exact absurd (by rw [← e2]) (g1 _ h1').1
          · exact ih g2 h1' h2'
    exact key objs hw.sites hobj h'
  generalize hv : a.eval x = v at h0
  cases h0 with
  | ms s b off len v h =>
    have hor := h.or
    obtain ⟨⟨hb, hmk, _⟩, _⟩ := h
    cases hie : P.info? (P.elem T) with
    | none => rw [hie] at hI; cases hI
    | some ie =>
    rcases hor m rows hobj with ⟨e0, e1, e2, e3⟩ | ⟨hb0, q, c, e, nn, h2, h3, h4, h5, h6⟩
    · subst e0; subst e1; subst e2; subst e3
      obtain rfl : i = 0 := by omega
      refine ⟨.slice none 0 0, ?_, .ms s 0 0 0 _ (.mk ⟨hb, hmk, none, 0, by simp⟩ (fun _ _ _ => .inl ⟨rfl, rfl, rfl, rfl⟩) (fun _ => ⟨rfl, rfl, rfl⟩))⟩
      simp only [execOp, ho, h1, hv, Option.map_some, Option.map_none]
      refine exec_v ?_
      rw [run_sliceAt_slice w T _ _ _ _ hT, run_slice_l w T none 0 0 hT k1 n (by omega) (by omega), run_sizeOf w hie]
      subst hn
      simp [Result.andThen_ok, sliced]
    · subst h2
      refine ⟨.slice (if c = i then some ⟨b, q, none⟩ else some ⟨b, q + i * m, none⟩) (len - i) (c - i), ?_, .ms s b (off + i) (len - i) _ (.mk ⟨hb, hmk, _, _, rfl⟩ (fun m' rows' hm' => .inr ⟨hb0, if c = i then q else q + i * m, c - i, e, nn, ?_, by omega, h4, ?_, fun hor => ?_⟩) (fun h0 => absurd h0 hb0))⟩
      · simp only [execOp, ho, h1, hv, Option.map_some, Option.map_none]
        refine exec_v ?_
        rw [run_sliceAt_slice w T _ _ _ _ hT, run_slice_l w T _ len c hT k1 n (by omega) (by omega), run_sizeOf w hie, hm]
        subst hn
        simp [Result.andThen_ok, sliced, Addr.add_lit]
      · split <;> rfl
      · obtain rfl := huniq m' rows' hm'
        rw [h5]; congr 1; omega
      · obtain rfl := huniq m' rows' hm'
        by_cases hc : c = i
        · rw [if_pos hc]
          have : off = 0 := by omega
          have h7 := h6 (.inr this)
          rw [h7]; congr 1; omega
        · rw [if_neg hc]
          have h7 := h6 (.inl (by omega))
          rw [h7, Nat.add_mul]
theorem o_slice_ms {ops : Array Oper} {rest : List Oper} {d T0 : Nat} {pos : String} {af : Array Edge} {g : Option (Nat × Bool)} {T : TypeId} {x lo : Operand} {s b off len m : Nat} {rows : List (List TV)} {k1 : IntKind} {n : Int} {i : Nat} (hN : Nat.blt d N = true) (hx : ev env x = some (.ms s b off len)) (hlo : ev env lo = some (.int k1 n))
    (hobj : (s, b, TObj.row m rows) ∈ objs) (hT : P.underlying T = some (.slice (P.elem T))) (hI : (P.info? (P.elem T)).isSome = true) (hm : P.cellsOf (P.elem T) = m) (hn : n = (i : Int)) (hi : i ≤ len) (h : AL P w0 N ops Q rest ((d, .ms s b (off + i) (len - i)) :: env) objs) :
    AO P w0 N ops Q ⟨some d, .slice T x (some lo) none none, T0, pos, af, g⟩ rest env objs := ao_q rfl hN (y_slice_ms rfl hx hlo hobj hT hI hm hn hi) h
theorem flat_rep {zs : List TV} {m : Nat} (hm : zs.length = m) (hm0 : 0 < m) : ∀ (n j : Nat) (t : TV), (List.replicate n zs).flatten[j]? = some t → j < n * m ∧ zs[j % m]? = some t
  | 0, j, t, h => by simp at h
  | n + 1, j, t, h => by
    rw [List.replicate_succ, List.flatten_cons] at h
    by_cases hj : j < m
    · rw [List.getElem?_append_left (by omega)] at h
      rw [Nat.mod_eq_of_lt hj]
      refine ⟨?_, h⟩
      rw [Nat.succ_mul]; omega
    · rw [List.getElem?_append_right (by omega), hm] at h
      obtain ⟨h1, h2⟩ := flat_rep hm hm0 n (j - m) t h
      refine ⟨by rw [Nat.succ_mul]; omega, ?_⟩
      rw [Nat.mod_eq_sub_mod (by omega)]; exact h2
def makeB (P : Program) (T m : Nat) : Bool := match P.info? (P.elem T) with
  | some i => Nat.beq i.size m && Nat.ble i.bytes 1024
  | none => false
theorem ao_make {ops : Array Oper} {rest : List Oper} {d : Nat} {T : TypeId} {x : Operand} {k : IntKind} {mi : Int} {n m : Nat} {zs : List TV} (ho : o.op = .makeSlice T x x) (hd : o.dst = some d) (hN : Nat.blt d N = true) (hx : ev env x = some (.int k mi)) (hn : mi = (n : Int))
    (hT : P.underlying T = some (.slice (P.elem T))) (hz : zeroOk P (P.elem T) = some zs) (hm : zs.length = m) (hm0 : Nat.blt 0 m = true) (hB : makeB P T m = true) (hbig : n ≤ 1000000000)
    (h : ∀ ss b, AL P w0 N ops Q rest ((d, .ms ss b 0 n) :: env) ((ss, b, .row m (List.replicate n zs)) :: objs)) : AO P w0 N ops Q o rest env objs := ⟨fun a w K hs hK => by
    obtain ⟨ss, hf⟩ := site_new objs
    have hm0' : 0 < m := Nat.blt_eq ▸ hm0
    have hv := (ev_sim hs hx).int_inv
    unfold zeroOk at hz
    cases hie : P.info? (P.elem T) with
    | none => rw [hie] at hz; cases hz
    | some i =>
    rw [hie] at hz
    simp only [Option.bind_some] at hz
    cases hzz : i.zero with
    | none => rw [hzz] at hz; cases hz
    | some z =>
    rw [hzz] at hz
    simp only [Option.bind_some] at hz
    have hB' : i.size = m ∧ i.bytes ≤ 1024 := by
      unfold makeB at hB
      rw [hie] at hB
      simp only [Bool.and_eq_true] at hB
      exact ⟨Nat.eq_of_beq_eq_true hB.1, Nat.le_of_ble_eq_true hB.2⟩
    have hrep := fun (w : World) (objs : Objs) => tvL_rep (w := w) (objs := objs) hz
    have hzl : z.cells.size = m := by
      have := (hrep w []).1.1
      rw [← hm, this]; simp
    have hbytes : (i.bytes : Int) * (n : Int) ≤ 281474976710656 := by
      have h1 : i.bytes * n ≤ 1024 * 1000000000 := Nat.mul_le_mul hB'.2 hbig
      have h2 : ((i.bytes * n : Nat) : Int) ≤ ((1024 * 1000000000 : Nat) : Int) := Int.ofNat_le.2 h1
      rw [Int.natCast_mul] at h2
      omega
    have hst := fun cs => step_new hs.mem cs (P.elem T) ss (.row m (List.replicate n zs))
    have hrun : (execOp a.eval o).run P w = .ok (.value (.slice (some ⟨w.heap.size, 0, none⟩) n n)) (w.alloc (.cells (madeCells z.cells (n * m)) (P.elem T))) := by
      simp only [execOp, ho, hv, hn]
      refine exec_v ?_
      rw [run_make w T (P.elem T) i z hT hie hzz k k (n : Int) (n : Int) (by omega) (by omega) hbytes (by omega), hB'.1]
      simp
    unfold Oper.wp
    rw [hrun]
    refine hK _ _ ?_
    rw [hd]
    have hb0 : w.heap.size ≠ 0 := Nat.ne_of_gt (Nat.lt_of_lt_of_le hs.mem.pos hs.mem.below.size)
    have hcs : (madeCells z.cells (n * m)).size = n * m := size_madeCells _ _
    refine (h ss w.heap.size).run _ _ (hs.putNew hN (.ms _ _ _ _ _ (.mk ⟨by simp, noMark_new hs.mem #[] 0 ss _, _, _, rfl⟩ (fun m' rows' hm' => .inr ⟨hb0, 0, n, P.elem T, n * m, rfl, Nat.le_refl _, by unfold World.shape?; rw [heap_alloc_new]; simp [hcs], ?_, fun _ => by simp⟩) (fun h0 => absurd h0 hb0))) (hs.mem.newObj hf ⟨⟨hm0', fun t ht => ?_⟩, fun r hr => by rw [List.eq_of_mem_replicate hr]; exact hm, .inr ⟨hs.mem.below.size, madeCells z.cells (n * m), P.elem T, n, heap_alloc_new w _, hcs, by simp, by simp only [maxLen]; omega, fun j t hj => ?_⟩⟩) (hst _))
    · rcases List.mem_cons.1 hm' with he | hm'
      · simp only [Prod.mk.injEq, TObj.row.injEq] at he; rw [he.2.2.1]; simp
      · exact absurd (objs_lt hs.mem hm') (Nat.lt_irrefl _)
    · obtain ⟨r, hr, htr⟩ := List.mem_flatten.1 ht
      rw [List.eq_of_mem_replicate hr] at htr
      exact (hrep w []).1.2 t htr
    · obtain ⟨h1, h2⟩ := flat_rep hm hm0' n j t hj
      have hjm : j % m < z.cells.size := by rw [hzl]; exact Nat.mod_lt _ hm0'
      refine ⟨z.cells[j % m], ?_, (hrep _ _).2 (j % m) t _ h2 (by simp [hjm])⟩
      unfold madeCells
      rw [Array.getElem?_map, Array.getElem?_range]
      simp [h1, hzl]
      exact getElem!_pos z.cells (j % m) hjm⟩
theorem o_make {ops : Array Oper} {rest : List Oper} {d T0 : Nat} {pos : String} {af : Array Edge} {g : Option (Nat × Bool)} {T : TypeId} {x : Operand} {k : IntKind} {mi : Int} {n m : Nat} {zs : List TV} (hN : Nat.blt d N = true) (hx : ev env x = some (.int k mi)) (he : ezT T = zs) (hn : mi = (n : Int))
    (hT : P.underlying T = some (.slice (P.elem T))) (hz : zeroOk P (P.elem T) = some zs) (hm : zs.length = m) (hm0 : Nat.blt 0 m = true) (hB : makeB P T m = true) (hbig : n ≤ 1000000000)
    (h : ∀ ss b, AL P w0 N ops Q rest ((d, .ms ss b 0 n) :: env) ((ss, b, .row m (List.replicate n zs)) :: objs)) : AO P w0 N ops Q ⟨some d, .makeSlice T x x, T0, pos, af, g⟩ rest env objs := ao_make rfl rfl hN hx hn hT hz hm hm0 hB hbig h
end
end Go.Proofs.YtdeokcbbjibkoaaGreatDoor
/- The abstract walk, part 15: a state that says less, a loop whose fixed slots are named, a nil slice that is to grow. -/
namespace Go.Proofs.YtdeokcbbjibkoaaGreatDoor
open Go Go.RowKit
section
variable {P : Program} {w0 : World} {N : Nat} {Q : Exit → Act → World → Prop} {env : Env} {objs objs' : Objs}
theorem Sim.pick {a : Act} {w : World} (h : Sim w0 N env objs a w) (k : Pick objs' objs) : Sim w0 N env objs' a w := h.weak ⟨fun _ _ h => h, k⟩
/-- Where the walk is to stand still. -/
structure Held (p : Prop) : Prop where
  go : p
theorem aw_hold_r {id : Nat} {ops : Array Oper} {b : Bool} {y : Code} (h : Held (AW P w0 N (.seq (.region id ops b) y) Q env objs)) : AW P w0 N (.seq (.region id ops b) y) Q env objs := h.go
theorem al_app0 {ops : Array Oper} {rest : List Oper} {l : Objs} (h : AL P w0 N ops Q rest env l) : AL P w0 N ops Q rest env ([] ++ l) := h
theorem al_app1 {ops : Array Oper} {rest : List Oper} {x : Nat × Nat × TObj} {l : Objs} (h : AL P w0 N ops Q rest env (x :: l)) : AL P w0 N ops Q rest env ([x] ++ l) := h
theorem al_app2 {ops : Array Oper} {rest : List Oper} {x y : Nat × Nat × TObj} {l : Objs} (h : AL P w0 N ops Q rest env (x :: y :: l)) : AL P w0 N ops Q rest env ([x, y] ++ l) := h
theorem o_append_q {objsOf : Nat → List (List TV) → Objs} {ops : Array Oper} {rest : List Oper} {d T0 : Nat} {pos : String} {af : Array Edge} {g : Option (Nat × Bool)} {T s b off len n m : Nat} {x y : Operand} {f : Nat} {rows live news : List (List TV)} (hN : Nat.blt d N = true) (hx : ev env x = some (.ms s b off len)) (hy : ev env y = some (.sl f m news)) (hT : appOk P T m = true) (hm : (s, b, TObj.row m rows) ∈ objs)
    (hlive : (rows.drop off).take len = live) (hl : off + len ≤ rows.length) (hn : news.length = n) (hbig : len + n ≤ 1000000000) (hu : ∀ b2 pre, Upd (s, b, .row m rows) (s, b2, .row m (pre ++ (live ++ news))) objs (objsOf b2 pre)) (h : ∀ b2 pre, AL P w0 N ops Q rest ((d, .ms s b2 pre.length (len + n)) :: env) (objsOf b2 pre)) :
    AO P w0 N ops Q ⟨some d, .call { callee := .builtin .append, args := #[x, y], argTypes := #[T, T] }, T0, pos, af, g⟩ rest env objs := ao_append_q rfl rfl hN hx hy hT hl hn hbig hlive hu fun b2 pre _ => h b2 pre
/-- The slots that are kept. -/
inductive Kept (env : Env) : List Nat → Env → Prop
  | nil : Kept env [] []
  | cons (t : Nat) (v : TV) (l : List Nat) (e : Env) (h : lk t env = some v) (hr : Kept env l e) : Kept env (t :: l) ((t, v) :: e)
theorem Kept.weak {l : List Nat} {e : Env} (h : Kept env l e) : ∀ t v, lk t e = some v → lk t env = some v := by
  induction h with
  | nil => exact Weak.envNil
  | cons t v l e h hr ih => exact Weak.envCons h ih
theorem lk_app {t : Nat} : ∀ {e1 e2 : Env} {v : TV}, lk t (e1 ++ e2) = some v → lk t e1 = some v ∨ lk t e2 = some v
  | [], _, _, h => .inr h
  | (s, u) :: r, e2, v, h => by
    rw [List.cons_append, lk_cons] at h
    rw [lk_cons]
    split at h
    · rename_i e; rw [if_pos e]; exact .inl h
    · rename_i e; rw [if_neg e]; exact lk_app h
theorem Weak.of (new : Env) {e1 : Env} (h1 : ∀ t v, lk t new = some v → lk t env = some v) (h2 : ∀ t v, lk t e1 = some v → lk t env = some v) (hp : Pick objs' objs) : Weak env objs (new ++ e1) objs' :=
  ⟨fun t v h => (lk_app h).elim (h1 t v) (h2 t v), hp⟩
/-- A loop: the slots of 'keep' stay, those of 'new' are as the state says. -/
theorem aw_loopk {X : Type} {body : Code} (keep : List Nat) (new : X → Env) (O : X → Objs) (I : X → Prop) (μ : X → Nat) (x0 : X) (h0 : I x0) {e1 : Env} (hk : Kept env keep e1) (hw : ∀ t v, lk t (new x0) = some v → lk t env = some v) (hp : Pick (O x0) objs)
    (round : ∀ x, I x → AW P w0 N body (Exit.then (AInv w0 N (fun x => new x ++ e1) O I μ (μ x)) Q) (new x ++ e1) (O x)) : AW P w0 N (.loop body) Q env objs :=
  aw_loop (fun x => new x ++ e1) O I μ x0 h0 (.of _ hw hk.weak hp) round
theorem aw_hold_b {id : Nat} {c : Code} (h : Held (AW P w0 N (.block id c) Q env objs)) : AW P w0 N (.block id c) Q env objs := h.go
/-- Ways that meet again behind x. -/
theorem aw_join {X : Type} {x z : Code} (keep : List Nat) (new : X → Env) (O : X → Objs) (I : X → Prop) {e1 : Env} (hk : Kept env keep e1) (h1 : AW P w0 N x (Exit.then (AMid w0 N (fun x => new x ++ e1) O I) Q) env objs) (h2 : ∀ y, I y → AW P w0 N z Q (new y ++ e1) (O y)) : AW P w0 N x (Exit.then (z.wp P Q) Q) env objs := ⟨fun a w hs => by
  refine wp_mono (h1.run a w hs) fun e a' w' hq => ?_
  cases e with
  | normal =>
    obtain ⟨y, hy, hs'⟩ := hq
    exact (h2 y hy).run a' w' hs'
  | exit id => exact hq
  | goto l => exact hq
  | ret => exact hq
  | panic c => exact hq
  | outgrown => exact hq⟩

theorem lk_ms {t : Nat} {env : Env} {s b off m n : Nat} (h : lk t env = some (.ms s b off m)) (e : m = n) : lk t env = some (.ms s b off n) := e ▸ h
theorem lk_ms2 {t : Nat} {env : Env} {s b off m off' n : Nat} (h : lk t env = some (.ms s b off m)) (e0 : off = off') (e : m = n) : lk t env = some (.ms s b off' n) := e0 ▸ e ▸ h
inductive DelS (s b : Nat) (o : TObj) : Objs → Objs → Prop
  | head (l : Objs) : DelS s b o ((s, b, o) :: l) l
  | tail (s' b' : Nat) (o' : TObj) (l l' : Objs) (h : DelS s b o l l') : DelS s b o ((s', b', o') :: l) ((s', b', o') :: l')
theorem DelS.del {s b : Nat} {o : TObj} {l l' : Objs} (h : DelS s b o l l') : Del (s, b, o) l l' := by
  induction h with
  | head l => exact .head l
  | tail s' b' o' l l' h ih => exact .tail _ _ _ ih
theorem Pick.consE {s b : Nat} {o o' : TObj} {l l1 objs : Objs} (hd : DelS s b o' objs l1) (h : o = o') (k : Pick l l1) : Pick ((s, b, o) :: l) objs := h ▸ .cons hd.del k

/-- A nil slice is a row of nothing that the call owns. -/
theorem step_nil (w : World) (ss m : Nat) (hm : 0 < m) : Step w objs w ((ss, 0, .row m []) :: objs) :=
  ⟨fun _ _ _ => rfl, fun b _ ha => ⟨ha.1, by
    obtain ⟨h0, s, o, hm⟩ := ha
    rcases List.mem_cons.1 hm with he | hm
    · simp only [Prod.mk.injEq] at he; omega
    · exact ⟨s, o, hm⟩⟩, fun s b m' rows _ hb hm' => by
    rcases List.mem_cons.1 hm' with he | hm'
    · simp only [Prod.mk.injEq] at he; omega
    · exact ⟨⟨rows, hm'⟩, rfl⟩, Nat.le_refl _, fun hk => by
    rcases List.mem_cons.1 hk with he | hk
    · simp only [marker, Prod.mk.injEq, TObj.row.injEq] at he; omega
    · exact hk⟩
theorem SimW.nil {w : World} (hw : SimW w0 objs w) {ss m : Nat} (hm : 0 < m) (hs : ∀ x ∈ objs, x.1 ≠ ss) : SimW w0 ((ss, 0, .row m []) :: objs) w :=
  ⟨hw.below, hw.pos, fun s b o h => by
    rcases List.mem_cons.1 h with he | h
    · simp only [Prod.mk.injEq] at he
      obtain ⟨rfl, rfl, rfl⟩ := he
      exact ⟨⟨hm, by simp⟩, by simp, .inl ⟨rfl, rfl⟩⟩
    · exact (hw.obj s b o h).step (step_nil w ss m hm) rfl, List.pairwise_cons.2 ⟨fun y hy => ⟨(hs y hy).symm, .inr rfl⟩, hw.sites⟩⟩
theorem Sim.nil {a : Act} {w : World} (h : Sim w0 N env objs a w) {t : Nat} (m : Nat) (hm : 0 < m) (ht : lk t env = some .nils) : ∃ ss, Sim w0 N ((t, .ms ss 0 0 0) :: env) ((ss, 0, .row m []) :: objs) a w := by
  obtain ⟨ss, hss⟩ := site_new objs
  have hpos : 0 < w.heap.size := Nat.lt_of_lt_of_le h.mem.pos h.mem.below.size
  have hw := h.mem.nil hm hss
  refine ⟨ss, h.defers, h.size, hw, fun t' v hv => ?_⟩
  rw [lk_cons] at hv
  split at hv
  · rename_i e
    subst e
    simp only [Option.some.injEq] at hv
    subst hv
    have h1 := h.env _ _ ht
    generalize a.tmps.getD t undef = u at h1
    cases h1
    exact .ms ss 0 0 0 _ (.mk ⟨hpos, hw.noMark, none, 0, rfl⟩ (fun _ _ _ => .inl ⟨rfl, rfl, rfl, rfl⟩) fun _ => ⟨rfl, rfl, rfl⟩)
  · exact (h.env t' v hv).step (step_nil w ss m hm)
theorem aq_nils {x : Exit} (t m : Nat) (hm : 0 < m) (ht : lk t env = some .nils) (h : ∀ ss, AQ w0 N Q x ((t, .ms ss 0 0 0) :: env) ((ss, 0, .row m []) :: objs)) : AQ w0 N Q x env objs := ⟨fun a w hs => by
  obtain ⟨ss, h1⟩ := hs.nil m hm ht
  exact (h ss).run a w h1⟩
end
end Go.Proofs.YtdeokcbbjibkoaaGreatDoor
