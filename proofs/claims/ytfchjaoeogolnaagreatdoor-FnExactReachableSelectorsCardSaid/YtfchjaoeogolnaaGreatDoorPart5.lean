/- Part 5 of the proof: the texts EngU, EngV, EngW, EngX, EngY, EngZ, TvA. -/
import Derived.Test.YtfchjaoeogolnaaGreatDoorPart4
import Derived.Laws.MakeOwn
import Derived.Test.YtfchjaoeogolnaaGreatDoorPart2
/- The abstract walk, part 12: the rules for a region whose order is open, and those that make or write memory, by program. -/
namespace Go.Proofs.YtfchjaoeogolnaaGreatDoor
open Go Go.RowKit
section
variable {P : Program} {w0 : World} {N : Nat} {Q : Exit → Act → World → Prop} {env : Env} {objs : Objs} {ops : Array Oper} {rest : List Oper} {d T0 : Nat} {pos : String} {af : Array Edge} {g : Option (Nat × Bool)} {K : Env → Prop}
theorem dr_nil (h : AQ w0 N Q .normal env objs) : DR P w0 N ops objs (fun env2 => AQ w0 N Q .normal env2 objs) [] env := .nil env h
theorem dr_nil2 {l2 : List Oper} {ops2 : Array Oper} (h : AL P w0 N ops2 Q l2 env objs) : DR P w0 N ops objs (fun env2 => AL P w0 N ops2 Q l2 env2 objs) [] env := .nil env h
/-- The next operation of an open region is carried out. -/
structure DO (P : Program) (w0 : World) (N : Nat) (ops : Array Oper) (objs : Objs) (K : Env → Prop) (o : Oper) (rest : List Oper) (env : Env) : Prop where
  run : GRun ops env o → DR P w0 N ops objs K (o :: rest) env
theorem dr_none {o : Oper} (hg : o.guard = none) (h : DO P w0 N ops objs K o rest env) : DR P w0 N ops objs K (o :: rest) env := h.run (.inl hg)
theorem dr_run {o : Oper} {j dj : Nat} {b : Bool} {v : TV} (hg : o.guard = some (j, b)) (hj : (ops[j]?).bind (·.dst) = some dj) (hv : lk dj env = some v) (he : v = .bool b) (h : DO P w0 N ops objs K o rest env) : DR P w0 N ops objs K (o :: rest) env := h.run (.inr ⟨j, b, dj, hg, hj, by rw [hv, he]⟩)
theorem dr_skip {o : Oper} {d dj j : Nat} {b c : Bool} {v : TV} (hg : o.guard = some (j, c)) (hj : (ops[j]?).bind (·.dst) = some dj) (hb : lk dj env = some v) (hv : v = .bool b) (hc : c = !b) (hd : o.dst = some d) (hN : Nat.blt d N = true) (h : DR P w0 N ops objs K rest ((d, .tup []) :: env)) : DR P w0 N ops objs K (o :: rest) env := .skip _ _ _ _ hd hN (.inl ⟨j, b, dj, by rw [hg, hc], hj, by rw [hb, hv]⟩) h
theorem dr_skip2 {o : Oper} {d dj j : Nat} {c : Bool} {v : TV} (hg : o.guard = some (j, c)) (hj : (ops[j]?).bind (·.dst) = some dj) (hb : lk dj env = some v) (hv : v = .tup []) (hd : o.dst = some d) (hN : Nat.blt d N = true) (h : DR P w0 N ops objs K rest ((d, .tup []) :: env)) : DR P w0 N ops objs K (o :: rest) env := .skip _ _ _ _ hd hN (.inr ⟨j, c, dj, hg, hj, by rw [hb, hv]⟩) h
theorem dr_gsplit {o : Oper} {j dj : Nat} {b : Bool} {p : Prop} {i : Decidable p} {v : TV} (_hg : o.guard = some (j, b)) (_hj : (ops[j]?).bind (·.dst) = some dj) (hv : lk dj env = some v) (he : v = .bool (@decide p i)) (ht : p → DR P w0 N ops objs K (o :: rest) ((dj, .bool true) :: env)) (hf : ¬ p → DR P w0 N ops objs K (o :: rest) ((dj, .bool false) :: env)) : DR P w0 N ops objs K (o :: rest) env := by
  by_cases h : p
  · exact .know _ _ dj v _ hv (by rw [he]; simp [h]) (ht h)
  · exact .know _ _ dj v _ hv (by rw [he]; simp [h]) (hf h)
theorem dr_gt {o : Oper} {j dj : Nat} {b : Bool} {p : Prop} {i : Decidable p} {v : TV} (hg : o.guard = some (j, b)) (hj : (ops[j]?).bind (·.dst) = some dj) (hv : lk dj env = some v) (he : v = .bool (@decide p i)) (hp : p) (ht : DR P w0 N ops objs K (o :: rest) ((dj, .bool true) :: env)) : DR P w0 N ops objs K (o :: rest) env := dr_gsplit hg hj hv he (fun _ => ht) (fun h => absurd hp h)
theorem dr_gf {o : Oper} {j dj : Nat} {b : Bool} {p : Prop} {i : Decidable p} {v : TV} (hg : o.guard = some (j, b)) (hj : (ops[j]?).bind (·.dst) = some dj) (hv : lk dj env = some v) (he : v = .bool (@decide p i)) (hp : ¬ p) (hf : DR P w0 N ops objs K (o :: rest) ((dj, .bool false) :: env)) : DR P w0 N ops objs K (o :: rest) env := dr_gsplit hg hj hv he (fun h => absurd h hp) (fun _ => hf)
theorem dr_gsplit_b {o : Oper} {j dj : Nat} {b c : Bool} {v : TV} (_hg : o.guard = some (j, b)) (_hj : (ops[j]?).bind (·.dst) = some dj) (hv : lk dj env = some v) (he : v = .bool c) (ht : c = true → DR P w0 N ops objs K (o :: rest) ((dj, .bool true) :: env)) (hf : c = false → DR P w0 N ops objs K (o :: rest) ((dj, .bool false) :: env)) : DR P w0 N ops objs K (o :: rest) env := by
  cases c
  · exact .know _ _ dj v _ hv he (hf rfl)
  · exact .know _ _ dj v _ hv he (ht rfl)
theorem d_move {x : Operand} {tv : TV} (hN : Nat.blt d N = true) (hx : ev env x = some tv) (h : DR P w0 N ops objs K rest ((d, tv) :: env)) : DO P w0 N ops objs K ⟨some d, .move x, T0, pos, af, g⟩ rest env := ⟨fun hgr => .run _ _ _ _ _ rfl hN hgr (y_move rfl hx) h⟩
theorem d_assign {x : Operand} {tv : TV} (hN : Nat.blt d N = true) (hx : ev env x = some tv) (h : DR P w0 N ops objs K rest ((d, tv) :: env)) : DO P w0 N ops objs K ⟨some d, .assign x, T0, pos, af, g⟩ rest env := ⟨fun hgr => .run _ _ _ _ _ rfl hN hgr (y_assign rfl hx) h⟩
theorem d_pick_t {c x y : Operand} {tv cv : TV} (hN : Nat.blt d N = true) (hc : ev env c = some cv) (he : cv = .bool true) (hx : ev env x = some tv) (h : DR P w0 N ops objs K rest ((d, tv) :: env)) : DO P w0 N ops objs K ⟨some d, .pick c x y, T0, pos, af, g⟩ rest env := ⟨fun hgr => .run _ _ _ _ _ rfl hN hgr (y_pick_t rfl hc he hx) h⟩
theorem d_pick_f {c x y : Operand} {tv cv : TV} (hN : Nat.blt d N = true) (hc : ev env c = some cv) (he : cv = .bool false) (hx : ev env y = some tv) (h : DR P w0 N ops objs K rest ((d, tv) :: env)) : DO P w0 N ops objs K ⟨some d, .pick c x y, T0, pos, af, g⟩ rest env := ⟨fun hgr => .run _ _ _ _ _ rfl hN hgr (y_pick_f rfl hc he hx) h⟩
theorem d_eql {t t2 : TypeId} {x y : Operand} {k : IntKind} {m n : Int} (hN : Nat.blt d N = true) (hx : ev env x = some (.int k m)) (hy : ev env y = some (.int k n)) (h : DR P w0 N ops objs K rest ((d, .bool (decide (m = n))) :: env)) : DO P w0 N ops objs K ⟨some d, .binOp .eql t x y t2, T0, pos, af, g⟩ rest env := ⟨fun hgr => .run _ _ _ _ _ rfl hN hgr (y_eql rfl hx hy) h⟩
theorem d_neq {t t2 : TypeId} {x y : Operand} {k : IntKind} {m n : Int} (hN : Nat.blt d N = true) (hx : ev env x = some (.int k m)) (hy : ev env y = some (.int k n)) (h : DR P w0 N ops objs K rest ((d, .bool (decide (m ≠ n))) :: env)) : DO P w0 N ops objs K ⟨some d, .binOp .neq t x y t2, T0, pos, af, g⟩ rest env := ⟨fun hgr => .run _ _ _ _ _ rfl hN hgr (y_neq rfl hx hy) h⟩
theorem d_leq {t t2 : TypeId} {x y : Operand} {k : IntKind} {m n : Int} (hN : Nat.blt d N = true) (hx : ev env x = some (.int k m)) (hy : ev env y = some (.int k n)) (h : DR P w0 N ops objs K rest ((d, .bool (decide (m ≤ n))) :: env)) : DO P w0 N ops objs K ⟨some d, .binOp .leq t x y t2, T0, pos, af, g⟩ rest env := ⟨fun hgr => .run _ _ _ _ _ rfl hN hgr (y_leq rfl hx hy) h⟩
theorem d_gtr {t t2 : TypeId} {x y : Operand} {k : IntKind} {m n : Int} (hN : Nat.blt d N = true) (hx : ev env x = some (.int k m)) (hy : ev env y = some (.int k n)) (h : DR P w0 N ops objs K rest ((d, .bool (decide (n < m))) :: env)) : DO P w0 N ops objs K ⟨some d, .binOp .gtr t x y t2, T0, pos, af, g⟩ rest env := ⟨fun hgr => .run _ _ _ _ _ rfl hN hgr (y_gtr rfl hx hy) h⟩
theorem d_geq {t t2 : TypeId} {x y : Operand} {k : IntKind} {m n : Int} (hN : Nat.blt d N = true) (hx : ev env x = some (.int k m)) (hy : ev env y = some (.int k n)) (h : DR P w0 N ops objs K rest ((d, .bool (decide (n ≤ m))) :: env)) : DO P w0 N ops objs K ⟨some d, .binOp .geq t x y t2, T0, pos, af, g⟩ rest env := ⟨fun hgr => .run _ _ _ _ _ rfl hN hgr (y_geq rfl hx hy) h⟩
theorem d_sub {t t2 : TypeId} {x y : Operand} {k : IntKind} {m n c : Int} (hN : Nat.blt d N = true) (hx : ev env x = some (.int k m)) (hy : ev env y = some (.int k n)) (hc : k.wrap (m - n) = c) (h : DR P w0 N ops objs K rest ((d, .int k c) :: env)) : DO P w0 N ops objs K ⟨some d, .binOp .sub t x y t2, T0, pos, af, g⟩ rest env := ⟨fun hgr => .run _ _ _ _ _ rfl hN hgr (y_sub rfl hx hy hc) h⟩
theorem d_not_t {t : TypeId} {x : Operand} {v : TV} (hN : Nat.blt d N = true) (hx : ev env x = some v) (he : v = .bool true) (h : DR P w0 N ops objs K rest ((d, .bool false) :: env)) : DO P w0 N ops objs K ⟨some d, .unOp .not t x, T0, pos, af, g⟩ rest env := ⟨fun hgr => .run _ _ _ _ _ rfl hN hgr (y_not_b (b := true) rfl (he ▸ hx)) h⟩
theorem d_not_f {t : TypeId} {x : Operand} {v : TV} (hN : Nat.blt d N = true) (hx : ev env x = some v) (he : v = .bool false) (h : DR P w0 N ops objs K rest ((d, .bool true) :: env)) : DO P w0 N ops objs K ⟨some d, .unOp .not t x, T0, pos, af, g⟩ rest env := ⟨fun hgr => .run _ _ _ _ _ rfl hN hgr (y_not_b (b := false) rfl (he ▸ hx)) h⟩
theorem d_eql_s {t t2 : TypeId} {x y : Operand} {s u : ByteArray} (hN : Nat.blt d N = true) (hx : ev env x = some (.str s)) (hy : ev env y = some (.str u)) (h : DR P w0 N ops objs K rest ((d, .bool (decide (s = u))) :: env)) : DO P w0 N ops objs K ⟨some d, .binOp .eql t x y t2, T0, pos, af, g⟩ rest env := ⟨fun hgr => .run _ _ _ _ _ rfl hN hgr (y_eql_s rfl hx hy) h⟩
theorem d_neq_s {t t2 : TypeId} {x y : Operand} {s u : ByteArray} (hN : Nat.blt d N = true) (hx : ev env x = some (.str s)) (hy : ev env y = some (.str u)) (h : DR P w0 N ops objs K rest ((d, .bool (decide (s ≠ u))) :: env)) : DO P w0 N ops objs K ⟨some d, .binOp .neq t x y t2, T0, pos, af, g⟩ rest env := ⟨fun hgr => .run _ _ _ _ _ rfl hN hgr (y_neq_s rfl hx hy) h⟩
theorem d_eql_b {t t2 : TypeId} {x y : Operand} {b c : Bool} (hN : Nat.blt d N = true) (hx : ev env x = some (.bool b)) (hy : ev env y = some (.bool c)) (hu : P.underlying t = some .bool) (h : DR P w0 N ops objs K rest ((d, .bool (b == c)) :: env)) : DO P w0 N ops objs K ⟨some d, .binOp .eql t x y t2, T0, pos, af, g⟩ rest env := ⟨fun hgr => .run _ _ _ _ _ rfl hN hgr (y_eql_b rfl hx hy hu) h⟩
theorem d_neq_b {t t2 : TypeId} {x y : Operand} {b c : Bool} (hN : Nat.blt d N = true) (hx : ev env x = some (.bool b)) (hy : ev env y = some (.bool c)) (hu : P.underlying t = some .bool) (h : DR P w0 N ops objs K rest ((d, .bool (b != c)) :: env)) : DO P w0 N ops objs K ⟨some d, .binOp .neq t x y t2, T0, pos, af, g⟩ rest env := ⟨fun hgr => .run _ _ _ _ _ rfl hN hgr (y_neq_b rfl hx hy hu) h⟩
theorem d_nilCheck_cp {x : Operand} {f : Nat} {l : List TV} (hN : Nat.blt d N = true) (hx : ev env x = some (.cp f l)) (h : DR P w0 N ops objs K rest ((d, .cp f l) :: env)) : DO P w0 N ops objs K ⟨some d, .nilCheck x, T0, pos, af, g⟩ rest env := ⟨fun hgr => .run _ _ _ _ _ rfl hN hgr (y_nilCheck rfl hx (fun _ => .cp f l)) h⟩
theorem d_load_cp {T : TypeId} {x : Operand} {c : TV} {rr : List TV} {f : Nat} {l : List TV} (hN : Nat.blt d N = true) (hA : agT T = false) (hT : isScal P T = true) (hx : ev env x = some (.cp f l)) (hl : l = c :: rr) (h : DR P w0 N ops objs K rest ((d, c) :: env)) : DO P w0 N ops objs K ⟨some d, .load T x, T0, pos, af, g⟩ rest env := ⟨fun hgr => .run _ _ _ _ _ rfl hN hgr (y_load rfl hT hx (fun _ => .cp f l) hl) h⟩
theorem d_load_agg_cp {T : TypeId} {x : Operand} {out : List TV} {f : Nat} {l : List TV} (hN : Nat.blt d N = true) (hA : agT T = true) (hT : isAggB P T = true) (hi : (P.info? T).isSome = true) (hs : P.cellsOf T = szT T) (hx : ev env x = some (.cp f l)) (htk : Taken (szT T) (l) out) (h : DR P w0 N ops objs K rest ((d, .agg out) :: env)) : DO P w0 N ops objs K ⟨some d, .load T x, T0, pos, af, g⟩ rest env := ⟨fun hgr => .run _ _ _ _ _ rfl hN hgr (y_load_agg rfl hT hi hs hx (fun _ => .cp f l) htk) h⟩
theorem d_nilCheck_mp {x : Operand} {s b off : Nat} {cells : List TV} (hN : Nat.blt d N = true) (hx : ev env x = some (.mp s b off)) (hm : (s, b, TObj.box cells) ∈ objs) (h : DR P w0 N ops objs K rest ((d, .mp s b off) :: env)) : DO P w0 N ops objs K ⟨some d, .nilCheck x, T0, pos, af, g⟩ rest env := ⟨fun hgr => .run _ _ _ _ _ rfl hN hgr (y_nilCheck rfl hx (fun _ => .mp s b off cells hm)) h⟩
theorem d_load_mp {T : TypeId} {x : Operand} {c : TV} {rr : List TV} {s b off : Nat} {cells : List TV} (hN : Nat.blt d N = true) (hA : agT T = false) (hT : isScal P T = true) (hx : ev env x = some (.mp s b off)) (hm : (s, b, TObj.box cells) ∈ objs) (hl : cells.drop off = c :: rr) (h : DR P w0 N ops objs K rest ((d, c) :: env)) : DO P w0 N ops objs K ⟨some d, .load T x, T0, pos, af, g⟩ rest env := ⟨fun hgr => .run _ _ _ _ _ rfl hN hgr (y_load rfl hT hx (fun _ => .mp s b off cells hm) hl) h⟩
theorem d_load_agg_mp {T : TypeId} {x : Operand} {out : List TV} {s b off : Nat} {cells : List TV} (hN : Nat.blt d N = true) (hA : agT T = true) (hT : isAggB P T = true) (hi : (P.info? T).isSome = true) (hs : P.cellsOf T = szT T) (hx : ev env x = some (.mp s b off)) (hm : (s, b, TObj.box cells) ∈ objs) (htk : Taken (szT T) (cells.drop off) out) (h : DR P w0 N ops objs K rest ((d, .agg out) :: env)) : DO P w0 N ops objs K ⟨some d, .load T x, T0, pos, af, g⟩ rest env := ⟨fun hgr => .run _ _ _ _ _ rfl hN hgr (y_load_agg rfl hT hi hs hx (fun _ => .mp s b off cells hm) htk) h⟩
theorem d_load_me {T : TypeId} {x : Operand} {c : TV} {rr : List TV} {s b m j off : Nat} {rows : List (List TV)} {r0 : List TV} (hN : Nat.blt d N = true) (hA : agT T = false) (hT : isScal P T = true) (hx : ev env x = some (.me s b m j off)) (hm : (s, b, TObj.row m rows) ∈ objs) (hr : rows[j]? = some r0) (hl : r0.drop off = c :: rr) (h : DR P w0 N ops objs K rest ((d, c) :: env)) : DO P w0 N ops objs K ⟨some d, .load T x, T0, pos, af, g⟩ rest env := ⟨fun hgr => .run _ _ _ _ _ rfl hN hgr (y_load rfl hT hx (fun _ => .me s b m j off rows r0 hm hr) hl) h⟩
theorem d_fieldAddr {T : TypeId} {x : Operand} {tv tv2 : TV} {i : Nat} (hN : Nat.blt d N = true) (hx : ev env x = some tv) (hF : fieldB P T i = true) (ht : tvOff (ofT T i) tv = some tv2) (h : DR P w0 N ops objs K rest ((d, tv2) :: env)) : DO P w0 N ops objs K ⟨some d, .fieldAddr T x i, T0, pos, af, g⟩ rest env := ⟨fun hgr => .run _ _ _ _ _ rfl hN hgr (y_fieldAddr rfl hx hF ht) h⟩
theorem d_indexAddr {T : TypeId} {x i : Operand} {f m : Nat} {rows : List (List TV)} {kk : IntKind} {n : Int} {j : Nat} {r : List TV} (hN : Nat.blt d N = true) (hx : ev env x = some (.sl f m rows)) (hi : ev env i = some (.int kk n)) (hT : P.underlying T = some (.slice (P.elem T))) (hI : (P.info? (P.elem T)).isSome = true) (hm : P.cellsOf (P.elem T) = m) (hm0 : Nat.blt 0 m = true) (hn : n = (j : Int)) (hr : rows[j]? = some r) (h : DR P w0 N ops objs K rest ((d, .cp f r) :: env)) : DO P w0 N ops objs K ⟨some d, .indexAddr T x i, T0, pos, af, g⟩ rest env := ⟨fun hgr => .run _ _ _ _ _ rfl hN hgr (y_indexAddr rfl hx hi hT hI hm hm0 hn hr) h⟩
theorem d_indexAddr_ms {T : TypeId} {x i : Operand} {s b off len m : Nat} {rows : List (List TV)} {kk : IntKind} {n : Int} {j jj : Nat} (hN : Nat.blt d N = true) (hx : ev env x = some (.ms s b off len)) (hi : ev env i = some (.int kk n)) (hobj : (s, b, TObj.row m rows) ∈ objs) (hT : P.underlying T = some (.slice (P.elem T))) (hI : (P.info? (P.elem T)).isSome = true) (hm : P.cellsOf (P.elem T) = m) (hn : n = (j : Int)) (hk : j < len) (hkk : off + j = jj) (h : DR P w0 N ops objs K rest ((d, .me s b m jj 0) :: env)) : DO P w0 N ops objs K ⟨some d, .indexAddr T x i, T0, pos, af, g⟩ rest env := ⟨fun hgr => .run _ _ _ _ _ rfl hN hgr (hkk ▸ y_indexAddr_ms rfl hx hi hobj hT hI hm hn hk) h⟩
theorem d_len_sl {x : Operand} {t : TypeId} {f m n : Nat} {rows : List (List TV)} (hN : Nat.blt d N = true) (hx : ev env x = some (.sl f m rows)) (hT : P.underlying t = some (.slice (P.elem t))) (hn : rows.length = n) (h : DR P w0 N ops objs K rest ((d, .int .i64 (n : Int)) :: env)) : DO P w0 N ops objs K ⟨some d, .call { callee := .builtin .len, args := #[x], argTypes := #[t] }, T0, pos, af, g⟩ rest env := ⟨fun hgr => .run _ _ _ _ _ rfl hN hgr (y_len_sl rfl hx hT hn) h⟩
theorem d_len_ms {x : Operand} {t : TypeId} {s b off len : Nat} (hN : Nat.blt d N = true) (hx : ev env x = some (.ms s b off len)) (hT : P.underlying t = some (.slice (P.elem t))) (h : DR P w0 N ops objs K rest ((d, .int .i64 (len : Int)) :: env)) : DO P w0 N ops objs K ⟨some d, .call { callee := .builtin .len, args := #[x], argTypes := #[t] }, T0, pos, af, g⟩ rest env := ⟨fun hgr => .run _ _ _ _ _ rfl hN hgr (y_len_ms rfl hx hT) h⟩
theorem d_lit {T : TypeId} {n m : Nat} {ps : List (Nat × Operand)} {rows : List (List TV)} (hN : Nat.blt d N = true) (hev : evL env ps 0 = some rows) (hT : P.underlying T = some (.slice (P.elem T))) (hI : (zeroOk P (P.elem T)).isSome = true) (hs : esT T = some m) (hm : P.cellsOf (P.elem T) = m) (hm0 : Nat.blt 0 m = true) (hn : rows.length = n) (hbig : Nat.ble (n * m) 16777216 = true) (hall : (rows.all fun r => Nat.beq r.length m) = true) (h : DR P w0 N ops objs K rest ((d, .sl w0.heap.size m rows) :: env)) : DO P w0 N ops objs K ⟨some d, .buildSlice T n ps.toArray, T0, pos, af, g⟩ rest env := ⟨fun hgr => .run _ _ _ _ _ rfl hN hgr (y_lit rfl hT hI hm hm0 hev hn hbig hall) h⟩
theorem d_call {G : World → Prop} {f : Nat} {xs : List Operand} {ts : Array TypeId} {args : List TV} {r : Nat → TV} (hN : Nat.blt d N = true) (hc : callB P f = true) (hargs : Args env objs xs args) (hG : G w0) (hst : Stable G) (hct : Ct P G f args r) (h : DR P w0 N ops objs K rest ((d, r w0.heap.size) :: env)) : DO P w0 N ops objs K ⟨some d, .call { callee := .value (.func f), args := xs.toArray, argTypes := ts }, T0, pos, af, g⟩ rest env := ⟨fun hgr => .run _ _ _ _ _ rfl hN hgr (y_call rfl hc hargs hct hG hst) h⟩
theorem o_alloc {T : TypeId} {zs : List TV} (hN : Nat.blt d N = true) (he : zT T = zs) (hz : zeroOk P T = some zs) (h : ∀ ss b, AL P w0 N ops Q rest ((d, .mp ss b 0) :: env) ((ss, b, .box zs) :: objs)) : AO P w0 N ops Q ⟨some d, .alloc T, T0, pos, af, g⟩ rest env objs := ao_alloc rfl rfl hN hz h
theorem o_own {T : TypeId} {n m : Nat} {ps : List (Nat × Operand)} {rows : List (List TV)} (hN : Nat.blt d N = true) (hev : evL env ps 0 = some rows) (hT : P.underlying T = some (.slice (P.elem T))) (hI : (zeroOk P (P.elem T)).isSome = true) (hs : esT T = some m) (hm : P.cellsOf (P.elem T) = m) (hm0 : Nat.blt 0 m = true) (hn : rows.length = n) (hbig : Nat.ble (n * m) 16777216 = true) (hall : (rows.all fun r => Nat.beq r.length m) = true) (h : ∀ ss b, AL P w0 N ops Q rest ((d, .ms ss b 0 n) :: env) ((ss, b, .row m rows) :: objs)) : AO P w0 N ops Q ⟨some d, .buildSlice T n ps.toArray, T0, pos, af, g⟩ rest env objs := ao_lit rfl rfl hN hT hI hm hm0 hev hn hbig hall h
theorem o_store_mp {T : TypeId} {x v : Operand} {s b off : Nat} {tv : TV} {cells vs cells2 : List TV} {objs2 : Objs} (hx : ev env x = some (.mp s b off)) (hv : ev env v = some tv) (hc : tvCells tv = some vs) (hi : (P.info? T).isSome = true) (hm : (s, b, TObj.box cells) ∈ objs) (hsp : Splice cells off vs cells2) (hu : Upd (s, b, .box cells) (s, b, .box cells2) objs objs2) (hsz : P.cellsOf T = vs.length) (h : AL P w0 N ops Q rest env objs2) : AO P w0 N ops Q ⟨none, .store T x v, T0, pos, af, g⟩ rest env objs := ao_store_mp rfl rfl hx hv hc hi hsz hu hsp h
theorem o_store_me {T : TypeId} {x v : Operand} {s b m j off : Nat} {tv : TV} {vs r r2 : List TV} {rows rows2 : List (List TV)} {objs2 : Objs} (hx : ev env x = some (.me s b m j off)) (hv : ev env v = some tv) (hc : tvCells tv = some vs) (hi : (P.info? T).isSome = true) (hm : (s, b, TObj.row m rows) ∈ objs) (hr : rows[j]? = some r) (hsp : Splice r off vs r2) (hsz : P.cellsOf T = vs.length) (hrows : rows.set j r2 = rows2) (hu : Upd (s, b, .row m rows) (s, b, .row m rows2) objs objs2) (h : AL P w0 N ops Q rest env objs2) : AO P w0 N ops Q ⟨none, .store T x v, T0, pos, af, g⟩ rest env objs := ao_store_me rfl rfl hx hv hc hi hsz hu hr hsp hrows h
theorem o_append {objsOf : Nat → Objs} {T s b len n m : Nat} {x y : Operand} {f : Nat} {rows rows2 news : List (List TV)} (hN : Nat.blt d N = true) (hx : ev env x = some (.ms s b 0 len)) (hy : ev env y = some (.sl f m news)) (hT : appOk P T m = true) (hm : (s, b, TObj.row m rows) ∈ objs) (hl : rows.length = len) (hn : news.length = n) (hbig : len + n ≤ 1000000000) (hrows : rows ++ news = rows2) (hu : ∀ b2, Upd (s, b, .row m rows) (s, b2, .row m rows2) objs (objsOf b2)) (h : ∀ b2, AL P w0 N ops Q rest ((d, .ms s b2 0 (len + n)) :: env) (objsOf b2)) : AO P w0 N ops Q ⟨some d, .call { callee := .builtin .append, args := #[x, y], argTypes := #[T, T] }, T0, pos, af, g⟩ rest env objs := ao_append rfl rfl hN hx hy hT (by omega) hn hbig (by rw [← hl, List.take_length]; exact hrows) hu h
end
end Go.Proofs.YtfchjaoeogolnaaGreatDoor
/- The abstract walk, part 13: a struct written out. -/
namespace Go.Proofs.YtfchjaoeogolnaaGreatDoor
open Go Go.RowKit
section
variable {P : Program} {w0 : World} {N : Nat} {Q : Exit → Act → World → Prop} {env : Env} {objs : Objs} {o : Oper}
def placesOf (P : Program) (T : Nat) : Option (List (Nat × Nat)) := match P.underlying T with
  | some (.struct fields) => fields.toList.mapM fun f => (P.info? f.type).map fun i => (f.offset, i.size)
  | _ => none
inductive TB (P : Program) (env : Env) (T : Nat) : List (Nat × Operand) → List TV → List TV → Prop
  | nil (l : List TV) : TB P env T [] l l
  | cons (i : Nat) (x : Operand) (r : List (Nat × Operand)) (l l1 l2 : List TV) (tv : TV) (vs : List TV) (hx : ev env x = some tv) (hc : tvCells tv = some vs) (hs : Splice l (ofT T i) vs l1) (hF : (placesOf P T).bind (·[i]?) = some (ofT T i, vs.length)) (hr : TB P env T r l1 l2) : TB P env T ((i, x) :: r) l l2
theorem tb_fill {w : World} {T : Nat} (a : Act) {places : List (Nat × Nat)} (hp : placesOf P T = some places) {ps : List (Nat × Operand)} {l l2 : List TV} (h : TB P env T ps l l2) : ∀ (cs : Array Value), cs.size = l.length → (∀ (i : Nat) (t : TV) (u : Value), l[i]? = some t → cs[i]? = some u → Rep w objs t u) → (∀ t ∈ l, t.isCell = true) →
    (∀ p ∈ ps, ∀ v, ev env p.2 = some v → Rep w objs v (a.eval p.2)) → ∃ r, Instr.fill (places.toArray[·]?) cs (ps.map fun p => (p.1, a.eval p.2)) = some r ∧ r.size = l2.length ∧ (∀ (i : Nat) (t : TV) (u : Value), l2[i]? = some t → r[i]? = some u → Rep w objs t u) ∧ ∀ t ∈ l2, t.isCell = true := by
  induction h with
  | nil l => exact fun cs h1 h2 h3 _ => ⟨cs, rfl, h1, h2, h3⟩
  | cons i x r l l1 l2 tv vs hx hc hs hF hr ih =>
    intro cs h1 h2 h3 hop
    obtain ⟨g1, g2, g3⟩ := rep_cells (show Rep w objs tv (a.eval x) from hop (i, x) (by simp) tv hx) hc
    obtain ⟨p1, p2, p3⟩ := hs.spec
    rw [hp] at hF
    simp only [Option.bind_some] at hF
    obtain ⟨f1, f2⟩ := Great.foldl_set (ofT T i) (a.eval x).cells.toList 0 cs
    have hsame : (a.eval x).cells.zipIdx.foldl (fun cs (c, j) => cs.setIfInBounds (ofT T i + j) c) cs = ((a.eval x).cells.toList.zipIdx 0).foldl (fun cs (x : Value × Nat) => cs.setIfInBounds (ofT T i + x.2) x.1) cs := by
      rw [← Array.foldl_toList, Array.toList_zipIdx]
    obtain ⟨r', e1, e2, e3⟩ := ih (((a.eval x).cells.toList.zipIdx 0).foldl (fun cs (x : Value × Nat) => cs.setIfInBounds (ofT T i + x.2) x.1) cs) (by rw [f1, h1, p2]) (fun k t u ht hu => by
      rw [f2] at hu
      rw [p3] at ht
      by_cases hin : ofT T i ≤ k ∧ k < ofT T i + vs.length
      · rw [if_pos hin] at ht
        rw [if_pos ⟨by omega, by simp; omega, by omega⟩] at hu
        exact g2 _ t u ht (by simpa using hu)
      · rw [if_neg hin] at ht
        rw [if_neg (by simp; omega)] at hu
        exact h2 k t u ht hu) (fun t ht => by
      obtain ⟨k, hk, rfl⟩ := List.getElem_of_mem ht
      have h5 := p3 k
      rw [List.getElem?_eq_getElem hk] at h5
      split at h5
      · exact g3 _ (List.mem_of_getElem? h5.symm)
      · exact h3 _ (List.mem_of_getElem? h5.symm)) (fun p hp => hop p (by simp [hp]))
    refine ⟨r', ?_, e2, e3⟩
    simp only [List.map_cons, Instr.fill]
    have hpl : places.toArray[i]? = some (ofT T i, vs.length) := by simpa using hF
    rw [hpl]
    simp only
    rw [if_neg (by simp; omega), hsame]
    exact e1
theorem y_build {T : TypeId} {ps : List (Nat × Operand)} {l : List TV} (ho : o.op = .build T ps.toArray) (hz : zeroOk P T = some (zT T)) (hp : (placesOf P T).isSome = true) (hb : TB P env T ps (zT T) l) : Yields P w0 env objs o (.agg l) := yields_same fun a w hw hop => by
  obtain ⟨places, hp⟩ := Option.isSome_iff_exists.1 hp
  have hz0 := hz
  unfold zeroOk at hz
  cases hi : P.info? T with
  | none => rw [hi] at hz; cases hz
  | some it =>
  rw [hi] at hz
  simp only [Option.bind_some] at hz
  cases hzz : it.zero with
  | none => rw [hzz] at hz; cases hz
  | some z =>
  rw [hzz] at hz
  simp only [Option.bind_some] at hz
  have htv := tvL_rep (w := w) (objs := objs) hz
  obtain ⟨r, e1, e2, e3, e4⟩ := tb_fill (w := w) (objs := objs) a hp hb z.cells (by simpa using htv.1.1.symm) (fun i t u ht hu => htv.2 i t u ht (by simpa using hu)) htv.1.2 (fun p hpm v hv => hop p.2 (by
    simp only [ho, Op.operands, List.toList_toArray]; exact List.mem_map.2 ⟨p, hpm, rfl⟩) v hv)
  refine ⟨.agg r, ?_, .agg l r e4 e2.symm e3⟩
  simp only [execOp, ho]
  refine exec_v (run_build w T _ r ?_)
  unfold placesOf at hp
  unfold Program.built
  cases hu : P.underlying T with
  | none => rw [hu] at hp; cases hp
  | some d =>
    rw [hu] at hp
    cases d <;> first | (cases hp; done) | skip
    simp only [hi, hzz, hp]
    simp only [List.map_toArray]
    exact e1
variable {ops : Array Oper} {rest : List Oper} {d T0 : Nat} {pos : String} {af : Array Edge} {g : Option (Nat × Bool)}
theorem o_build {T : TypeId} {ps : List (Nat × Operand)} {zs l : List TV} (hN : Nat.blt d N = true) (he : zT T = zs) (hb : TB P env T ps zs l) (hz : zeroOk P T = some (zT T)) (hp : (placesOf P T).isSome = true) (h : AL P w0 N ops Q rest ((d, .agg l) :: env) objs) : AO P w0 N ops Q ⟨some d, .build T ps.toArray, T0, pos, af, g⟩ rest env objs := ao_q rfl hN (y_build rfl hz hp (by rw [he]; exact hb)) h
end
end Go.Proofs.YtfchjaoeogolnaaGreatDoor
/- The abstract walk, part 14: the rest of an owned row, make. -/
namespace Go.Proofs.YtfchjaoeogolnaaGreatDoor
open Go Go.RowKit
section
variable {P : Program} {w0 : World} {N : Nat} {Q : Exit → Act → World → Prop} {env : Env} {objs : Objs} {o : Oper}
theorem y_slice_ms {T : TypeId} {x lo : Operand} {s b off len m : Nat} {rows : List (List TV)} {k1 : IntKind} {n : Int} {i : Nat} (ho : o.op = .slice T x (some lo) none none) (hx : ev env x = some (.ms s b off len)) (hlo : ev env lo = some (.int k1 n))
    (hobj : (s, b, TObj.row m rows) ∈ objs) (hT : P.underlying T = some (.slice (P.elem T))) (hI : (P.info? (P.elem T)).isSome = true) (hm : P.cellsOf (P.elem T) = m) (hn : n = (i : Int)) (hi : i ≤ len) :
    Yields P w0 env objs o (.ms s b (off + i) (len - i)) := yields_same fun a w hw hop => by
  have h0 := hop x (slice_opnd ho) _ hx
  have h1 := (hop lo (by simp [ho, Op.operands]) _ hlo).int_inv
  have huniq : ∀ m' rows', (s, b, TObj.row m' rows') ∈ objs → m' = m := fun m' rows' h' => by
    have key : ∀ (l : Objs), List.Pairwise (fun (x y : Nat × Nat × TObj) => x.1 ≠ y.1 ∧ (x.2.1 ≠ y.2.1 ∨ x.2.1 = 0)) l → (s, b, TObj.row m rows) ∈ l → (s, b, TObj.row m' rows') ∈ l → m' = m := fun l => by
      induction l with
      | nil => intro _ h; simp at h
      | cons z l ih =>
        intro hp h1 h2
        obtain ⟨g1, g2⟩ := List.pairwise_cons.1 hp
        rcases List.mem_cons.1 h1 with e1 | h1'
        · rcases List.mem_cons.1 h2 with e2 | h2'
          · rw [← e1] at e2
            simp only [Prod.mk.injEq, TObj.row.injEq] at e2
            exact e2.2.2.1
          · exact absurd (by rw [← e1]) (g1 _ h2').1
        · rcases List.mem_cons.1 h2 with e2 | h2'
          · exact absurd (by rw [← e2]) (g1 _ h1').1
          · exact ih g2 h1' h2'
    exact key objs hw.sites hobj h'
  generalize hv : a.eval x = v at h0
  cases h0 with
  | ms s b off len v h =>
    have hor := h.or
    obtain ⟨⟨hb, hmk, _⟩, _⟩ := h
    cases hie : P.info? (P.elem T) with
    | none => rw [hie] at hI; cases hI
    | some ie =>
    rcases hor m rows hobj with ⟨e0, e1, e2, e3⟩ | ⟨hb0, q, c, e, nn, h2, h3, h4, h5, h6⟩
    · subst e0; subst e1; subst e2; subst e3
      obtain rfl : i = 0 := by omega
      refine ⟨.slice none 0 0, ?_, .ms s 0 0 0 _ (.mk ⟨hb, hmk, none, 0, by simp⟩ (fun _ _ _ => .inl ⟨rfl, rfl, rfl, rfl⟩) (fun _ => ⟨rfl, rfl, rfl⟩))⟩
      simp only [execOp, ho, h1, hv, Option.map_some, Option.map_none]
      refine exec_v ?_
      rw [run_sliceAt_slice w T _ _ _ _ hT, run_slice_l w T none 0 0 hT k1 n (by omega) (by omega), run_sizeOf w hie]
      subst hn
      simp [Result.andThen_ok, sliced]
    · subst h2
      refine ⟨.slice (if c = i then some ⟨b, q, none⟩ else some ⟨b, q + i * m, none⟩) (len - i) (c - i), ?_, .ms s b (off + i) (len - i) _ (.mk ⟨hb, hmk, _, _, rfl⟩ (fun m' rows' hm' => .inr ⟨hb0, if c = i then q else q + i * m, c - i, e, nn, ?_, by omega, h4, ?_, fun hor => ?_⟩) (fun h0 => absurd h0 hb0))⟩
      · simp only [execOp, ho, h1, hv, Option.map_some, Option.map_none]
        refine exec_v ?_
        rw [run_sliceAt_slice w T _ _ _ _ hT, run_slice_l w T _ len c hT k1 n (by omega) (by omega), run_sizeOf w hie, hm]
        subst hn
        simp [Result.andThen_ok, sliced, Addr.add_lit]
      · split <;> rfl
      · obtain rfl := huniq m' rows' hm'
        rw [h5]; congr 1; omega
      · obtain rfl := huniq m' rows' hm'
        by_cases hc : c = i
        · rw [if_pos hc]
          have : off = 0 := by omega
          have h7 := h6 (.inr this)
          rw [h7]; congr 1; omega
        · rw [if_neg hc]
          have h7 := h6 (.inl (by omega))
          rw [h7, Nat.add_mul]
theorem o_slice_ms {ops : Array Oper} {rest : List Oper} {d T0 : Nat} {pos : String} {af : Array Edge} {g : Option (Nat × Bool)} {T : TypeId} {x lo : Operand} {s b off len m : Nat} {rows : List (List TV)} {k1 : IntKind} {n : Int} {i : Nat} (hN : Nat.blt d N = true) (hx : ev env x = some (.ms s b off len)) (hlo : ev env lo = some (.int k1 n))
    (hobj : (s, b, TObj.row m rows) ∈ objs) (hT : P.underlying T = some (.slice (P.elem T))) (hI : (P.info? (P.elem T)).isSome = true) (hm : P.cellsOf (P.elem T) = m) (hn : n = (i : Int)) (hi : i ≤ len) (h : AL P w0 N ops Q rest ((d, .ms s b (off + i) (len - i)) :: env) objs) :
    AO P w0 N ops Q ⟨some d, .slice T x (some lo) none none, T0, pos, af, g⟩ rest env objs := ao_q rfl hN (y_slice_ms rfl hx hlo hobj hT hI hm hn hi) h
theorem flat_rep {zs : List TV} {m : Nat} (hm : zs.length = m) (hm0 : 0 < m) : ∀ (n j : Nat) (t : TV), (List.replicate n zs).flatten[j]? = some t → j < n * m ∧ zs[j % m]? = some t
  | 0, j, t, h => by simp at h
  | n + 1, j, t, h => by
    rw [List.replicate_succ, List.flatten_cons] at h
    by_cases hj : j < m
    · rw [List.getElem?_append_left (by omega)] at h
      rw [Nat.mod_eq_of_lt hj]
      refine ⟨?_, h⟩
      rw [Nat.succ_mul]; omega
    · rw [List.getElem?_append_right (by omega), hm] at h
      obtain ⟨h1, h2⟩ := flat_rep hm hm0 n (j - m) t h
      refine ⟨by rw [Nat.succ_mul]; omega, ?_⟩
      rw [Nat.mod_eq_sub_mod (by omega)]; exact h2
def makeB (P : Program) (T m : Nat) : Bool := match P.info? (P.elem T) with
  | some i => Nat.beq i.size m && Nat.ble i.bytes 1024
  | none => false
theorem ao_make {ops : Array Oper} {rest : List Oper} {d : Nat} {T : TypeId} {x : Operand} {k : IntKind} {mi : Int} {n m : Nat} {zs : List TV} (ho : o.op = .makeSlice T x x) (hd : o.dst = some d) (hN : Nat.blt d N = true) (hx : ev env x = some (.int k mi)) (hn : mi = (n : Int))
    (hT : P.underlying T = some (.slice (P.elem T))) (hz : zeroOk P (P.elem T) = some zs) (hm : zs.length = m) (hm0 : Nat.blt 0 m = true) (hB : makeB P T m = true) (hbig : n ≤ 1000000000)
    (h : ∀ ss b, AL P w0 N ops Q rest ((d, .ms ss b 0 n) :: env) ((ss, b, .row m (List.replicate n zs)) :: objs)) : AO P w0 N ops Q o rest env objs := ⟨fun a w K hs hK => by
    obtain ⟨ss, hf⟩ := site_new objs
    have hm0' : 0 < m := Nat.blt_eq ▸ hm0
    have hv := (ev_sim hs hx).int_inv
    unfold zeroOk at hz
    cases hie : P.info? (P.elem T) with
    | none => rw [hie] at hz; cases hz
    | some i =>
    rw [hie] at hz
    simp only [Option.bind_some] at hz
    cases hzz : i.zero with
    | none => rw [hzz] at hz; cases hz
    | some z =>
    rw [hzz] at hz
    simp only [Option.bind_some] at hz
    have hB' : i.size = m ∧ i.bytes ≤ 1024 := by
      unfold makeB at hB
      rw [hie] at hB
      simp only [Bool.and_eq_true] at hB
      exact ⟨Nat.eq_of_beq_eq_true hB.1, Nat.le_of_ble_eq_true hB.2⟩
    have hrep := fun (w : World) (objs : Objs) => tvL_rep (w := w) (objs := objs) hz
    have hzl : z.cells.size = m := by
      have := (hrep w []).1.1
      rw [← hm, this]; simp
    have hbytes : (i.bytes : Int) * (n : Int) ≤ 281474976710656 := by
      have h1 : i.bytes * n ≤ 1024 * 1000000000 := Nat.mul_le_mul hB'.2 hbig
      have h2 : ((i.bytes * n : Nat) : Int) ≤ ((1024 * 1000000000 : Nat) : Int) := Int.ofNat_le.2 h1
      rw [Int.natCast_mul] at h2
      omega
    have hst := fun cs => step_new hs.mem cs (P.elem T) ss (.row m (List.replicate n zs))
    have hrun : (execOp a.eval o).run P w = .ok (.value (.slice (some ⟨w.heap.size, 0, none⟩) n n)) (w.alloc (.cells (madeCells z.cells (n * m)) (P.elem T))) := by
      simp only [execOp, ho, hv, hn]
      refine exec_v ?_
      rw [run_make w T (P.elem T) i z hT hie hzz k k (n : Int) (n : Int) (by omega) (by omega) hbytes (by omega), hB'.1]
      simp
    unfold Oper.wp
    rw [hrun]
    refine hK _ _ ?_
    rw [hd]
    have hb0 : w.heap.size ≠ 0 := Nat.ne_of_gt (Nat.lt_of_lt_of_le hs.mem.pos hs.mem.below.size)
    have hcs : (madeCells z.cells (n * m)).size = n * m := size_madeCells _ _
    refine (h ss w.heap.size).run _ _ (hs.putNew hN (.ms _ _ _ _ _ (.mk ⟨by simp, noMark_new hs.mem #[] 0 ss _, _, _, rfl⟩ (fun m' rows' hm' => .inr ⟨hb0, 0, n, P.elem T, n * m, rfl, Nat.le_refl _, by unfold World.shape?; rw [heap_alloc_new]; simp [hcs], ?_, fun _ => by simp⟩) (fun h0 => absurd h0 hb0))) (hs.mem.newObj hf ⟨⟨hm0', fun t ht => ?_⟩, fun r hr => by rw [List.eq_of_mem_replicate hr]; exact hm, .inr ⟨hs.mem.below.size, madeCells z.cells (n * m), P.elem T, n, heap_alloc_new w _, hcs, by simp, by simp only [maxLen]; omega, fun j t hj => ?_⟩⟩) (hst _))
    · rcases List.mem_cons.1 hm' with he | hm'
      · simp only [Prod.mk.injEq, TObj.row.injEq] at he; rw [he.2.2.1]; simp
      · exact absurd (objs_lt hs.mem hm') (Nat.lt_irrefl _)
    · obtain ⟨r, hr, htr⟩ := List.mem_flatten.1 ht
      rw [List.eq_of_mem_replicate hr] at htr
      exact (hrep w []).1.2 t htr
    · obtain ⟨h1, h2⟩ := flat_rep hm hm0' n j t hj
      have hjm : j % m < z.cells.size := by rw [hzl]; exact Nat.mod_lt _ hm0'
      refine ⟨z.cells[j % m], ?_, (hrep _ _).2 (j % m) t _ h2 (by simp [hjm])⟩
      unfold madeCells
      rw [Array.getElem?_map, Array.getElem?_range]
      simp [h1, hzl]
      exact getElem!_pos z.cells (j % m) hjm⟩
theorem o_make {ops : Array Oper} {rest : List Oper} {d T0 : Nat} {pos : String} {af : Array Edge} {g : Option (Nat × Bool)} {T : TypeId} {x : Operand} {k : IntKind} {mi : Int} {n m : Nat} {zs : List TV} (hN : Nat.blt d N = true) (hx : ev env x = some (.int k mi)) (he : ezT T = zs) (hn : mi = (n : Int))
    (hT : P.underlying T = some (.slice (P.elem T))) (hz : zeroOk P (P.elem T) = some zs) (hm : zs.length = m) (hm0 : Nat.blt 0 m = true) (hB : makeB P T m = true) (hbig : n ≤ 1000000000)
    (h : ∀ ss b, AL P w0 N ops Q rest ((d, .ms ss b 0 n) :: env) ((ss, b, .row m (List.replicate n zs)) :: objs)) : AO P w0 N ops Q ⟨some d, .makeSlice T x x, T0, pos, af, g⟩ rest env objs := ao_make rfl rfl hN hx hn hT hz hm hm0 hB hbig h
end
end Go.Proofs.YtfchjaoeogolnaaGreatDoor
/- The abstract walk, part 15: a state that says less, a loop whose fixed slots are named, a nil slice that is to grow. -/
namespace Go.Proofs.YtfchjaoeogolnaaGreatDoor
open Go Go.RowKit
section
variable {P : Program} {w0 : World} {N : Nat} {Q : Exit → Act → World → Prop} {env : Env} {objs objs' : Objs}
theorem Sim.pick {a : Act} {w : World} (h : Sim w0 N env objs a w) (k : Pick objs' objs) : Sim w0 N env objs' a w := h.weak ⟨fun _ _ h => h, k⟩
theorem aw_pick {c : Code} (k : Pick objs' objs) (h : AW P w0 N c Q env objs') : AW P w0 N c Q env objs := ⟨fun a w hs => h.run a w (hs.pick k)⟩
theorem al_pick {ops : Array Oper} {rest : List Oper} (k : Pick objs' objs) (h : AL P w0 N ops Q rest env objs') : AL P w0 N ops Q rest env objs := ⟨fun a w hs => h.run a w (hs.pick k)⟩
/-- Where the walk is to stand still. -/
structure Held (p : Prop) : Prop where
  go : p
theorem aw_hold_r {id : Nat} {ops : Array Oper} {b : Bool} {y : Code} (h : Held (AW P w0 N (.seq (.region id ops b) y) Q env objs)) : AW P w0 N (.seq (.region id ops b) y) Q env objs := h.go
theorem al_app0 {ops : Array Oper} {rest : List Oper} {l : Objs} (h : AL P w0 N ops Q rest env l) : AL P w0 N ops Q rest env ([] ++ l) := h
theorem al_app1 {ops : Array Oper} {rest : List Oper} {x : Nat × Nat × TObj} {l : Objs} (h : AL P w0 N ops Q rest env (x :: l)) : AL P w0 N ops Q rest env ([x] ++ l) := h
theorem al_app2 {ops : Array Oper} {rest : List Oper} {x y : Nat × Nat × TObj} {l : Objs} (h : AL P w0 N ops Q rest env (x :: y :: l)) : AL P w0 N ops Q rest env ([x, y] ++ l) := h
theorem o_append_q {objsOf : Nat → List (List TV) → Objs} {ops : Array Oper} {rest : List Oper} {d T0 : Nat} {pos : String} {af : Array Edge} {g : Option (Nat × Bool)} {T s b off len n m : Nat} {x y : Operand} {f : Nat} {rows live news : List (List TV)} (hN : Nat.blt d N = true) (hx : ev env x = some (.ms s b off len)) (hy : ev env y = some (.sl f m news)) (hT : appOk P T m = true) (hm : (s, b, TObj.row m rows) ∈ objs)
    (hlive : (rows.drop off).take len = live) (hl : off + len ≤ rows.length) (hn : news.length = n) (hbig : len + n ≤ 1000000000) (hu : ∀ b2 pre, Upd (s, b, .row m rows) (s, b2, .row m (pre ++ (live ++ news))) objs (objsOf b2 pre)) (h : ∀ b2 pre, AL P w0 N ops Q rest ((d, .ms s b2 pre.length (len + n)) :: env) (objsOf b2 pre)) :
    AO P w0 N ops Q ⟨some d, .call { callee := .builtin .append, args := #[x, y], argTypes := #[T, T] }, T0, pos, af, g⟩ rest env objs := ao_append_q rfl rfl hN hx hy hT hl hn hbig hlive hu fun b2 pre _ => h b2 pre
/-- The slots that are kept. -/
inductive Kept (env : Env) : List Nat → Env → Prop
  | nil : Kept env [] []
  | cons (t : Nat) (v : TV) (l : List Nat) (e : Env) (h : lk t env = some v) (hr : Kept env l e) : Kept env (t :: l) ((t, v) :: e)
theorem Kept.weak {l : List Nat} {e : Env} (h : Kept env l e) : ∀ t v, lk t e = some v → lk t env = some v := by
  induction h with
  | nil => exact Weak.envNil
  | cons t v l e h hr ih => exact Weak.envCons h ih
theorem lk_app {t : Nat} : ∀ {e1 e2 : Env} {v : TV}, lk t (e1 ++ e2) = some v → lk t e1 = some v ∨ lk t e2 = some v
  | [], _, _, h => .inr h
  | (s, u) :: r, e2, v, h => by
    rw [List.cons_append, lk_cons] at h
    rw [lk_cons]
    split at h
    · rename_i e; rw [if_pos e]; exact .inl h
    · rename_i e; rw [if_neg e]; exact lk_app h
theorem Weak.of (new : Env) {e1 : Env} (h1 : ∀ t v, lk t new = some v → lk t env = some v) (h2 : ∀ t v, lk t e1 = some v → lk t env = some v) (hp : Pick objs' objs) : Weak env objs (new ++ e1) objs' :=
  ⟨fun t v h => (lk_app h).elim (h1 t v) (h2 t v), hp⟩
/-- A loop: the slots of 'keep' stay, those of 'new' are as the state says. -/
theorem aw_loopk {X : Type} {body : Code} (keep : List Nat) (new : X → Env) (O : X → Objs) (I : X → Prop) (μ : X → Nat) (x0 : X) (h0 : I x0) {e1 : Env} (hk : Kept env keep e1) (hw : ∀ t v, lk t (new x0) = some v → lk t env = some v) (hp : Pick (O x0) objs)
    (round : ∀ x, I x → AW P w0 N body (Exit.then (AInv w0 N (fun x => new x ++ e1) O I μ (μ x)) Q) (new x ++ e1) (O x)) : AW P w0 N (.loop body) Q env objs :=
  aw_loop (fun x => new x ++ e1) O I μ x0 h0 (.of _ hw hk.weak hp) round
theorem aw_hold_b {id : Nat} {c : Code} (h : Held (AW P w0 N (.block id c) Q env objs)) : AW P w0 N (.block id c) Q env objs := h.go
/-- Ways that meet again behind x. -/
theorem aw_join {X : Type} {x z : Code} (keep : List Nat) (new : X → Env) (O : X → Objs) (I : X → Prop) {e1 : Env} (hk : Kept env keep e1) (h1 : AW P w0 N x (Exit.then (AMid w0 N (fun x => new x ++ e1) O I) Q) env objs) (h2 : ∀ y, I y → AW P w0 N z Q (new y ++ e1) (O y)) : AW P w0 N x (Exit.then (z.wp P Q) Q) env objs := ⟨fun a w hs => by
  refine wp_mono (h1.run a w hs) fun e a' w' hq => ?_
  cases e with
  | normal =>
    obtain ⟨y, hy, hs'⟩ := hq
    exact (h2 y hy).run a' w' hs'
  | exit id => exact hq
  | goto l => exact hq
  | ret => exact hq
  | panic c => exact hq
  | outgrown => exact hq⟩

theorem lk_ms {t : Nat} {env : Env} {s b off m n : Nat} (h : lk t env = some (.ms s b off m)) (e : m = n) : lk t env = some (.ms s b off n) := e ▸ h
theorem lk_ms2 {t : Nat} {env : Env} {s b off m off' n : Nat} (h : lk t env = some (.ms s b off m)) (e0 : off = off') (e : m = n) : lk t env = some (.ms s b off' n) := e0 ▸ e ▸ h
inductive DelS (s b : Nat) (o : TObj) : Objs → Objs → Prop
  | head (l : Objs) : DelS s b o ((s, b, o) :: l) l
  | tail (s' b' : Nat) (o' : TObj) (l l' : Objs) (h : DelS s b o l l') : DelS s b o ((s', b', o') :: l) ((s', b', o') :: l')
theorem DelS.del {s b : Nat} {o : TObj} {l l' : Objs} (h : DelS s b o l l') : Del (s, b, o) l l' := by
  induction h with
  | head l => exact .head l
  | tail s' b' o' l l' h ih => exact .tail _ _ _ ih
theorem Pick.consE {s b : Nat} {o o' : TObj} {l l1 objs : Objs} (hd : DelS s b o' objs l1) (h : o = o') (k : Pick l l1) : Pick ((s, b, o) :: l) objs := h ▸ .cons hd.del k

/-- A nil slice is a row of nothing that the call owns. -/
theorem step_nil (w : World) (ss m : Nat) (hm : 0 < m) : Step w objs w ((ss, 0, .row m []) :: objs) :=
  ⟨fun _ _ _ => rfl, fun b _ ha => ⟨ha.1, by
    obtain ⟨h0, s, o, hm⟩ := ha
    rcases List.mem_cons.1 hm with he | hm
    · simp only [Prod.mk.injEq] at he; omega
    · exact ⟨s, o, hm⟩⟩, fun s b m' rows _ hb hm' => by
    rcases List.mem_cons.1 hm' with he | hm'
    · simp only [Prod.mk.injEq] at he; omega
    · exact ⟨⟨rows, hm'⟩, rfl⟩, Nat.le_refl _, fun hk => by
    rcases List.mem_cons.1 hk with he | hk
    · simp only [marker, Prod.mk.injEq, TObj.row.injEq] at he; omega
    · exact hk⟩
theorem SimW.nil {w : World} (hw : SimW w0 objs w) {ss m : Nat} (hm : 0 < m) (hs : ∀ x ∈ objs, x.1 ≠ ss) : SimW w0 ((ss, 0, .row m []) :: objs) w :=
  ⟨hw.below, hw.pos, fun s b o h => by
    rcases List.mem_cons.1 h with he | h
    · simp only [Prod.mk.injEq] at he
      obtain ⟨rfl, rfl, rfl⟩ := he
      exact ⟨⟨hm, by simp⟩, by simp, .inl ⟨rfl, rfl⟩⟩
    · exact (hw.obj s b o h).step (step_nil w ss m hm) rfl, List.pairwise_cons.2 ⟨fun y hy => ⟨(hs y hy).symm, .inr rfl⟩, hw.sites⟩⟩
theorem Sim.nil {a : Act} {w : World} (h : Sim w0 N env objs a w) {t : Nat} (m : Nat) (hm : 0 < m) (ht : lk t env = some .nils) : ∃ ss, Sim w0 N ((t, .ms ss 0 0 0) :: env) ((ss, 0, .row m []) :: objs) a w := by
  obtain ⟨ss, hss⟩ := site_new objs
  have hpos : 0 < w.heap.size := Nat.lt_of_lt_of_le h.mem.pos h.mem.below.size
  have hw := h.mem.nil hm hss
  refine ⟨ss, h.defers, h.size, hw, fun t' v hv => ?_⟩
  rw [lk_cons] at hv
  split at hv
  · rename_i e
    subst e
    simp only [Option.some.injEq] at hv
    subst hv
    have h1 := h.env _ _ ht
    generalize a.tmps.getD t undef = u at h1
    cases h1
    exact .ms ss 0 0 0 _ (.mk ⟨hpos, hw.noMark, none, 0, rfl⟩ (fun _ _ _ => .inl ⟨rfl, rfl, rfl, rfl⟩) fun _ => ⟨rfl, rfl, rfl⟩)
  · exact (h.env t' v hv).step (step_nil w ss m hm)
theorem aq_nils {x : Exit} (t m : Nat) (hm : 0 < m) (ht : lk t env = some .nils) (h : ∀ ss, AQ w0 N Q x ((t, .ms ss 0 0 0) :: env) ((ss, 0, .row m []) :: objs)) : AQ w0 N Q x env objs := ⟨fun a w hs => by
  obtain ⟨ss, h1⟩ := hs.nil m hm ht
  exact (h ss).run a w h1⟩
end
end Go.Proofs.YtfchjaoeogolnaaGreatDoor
/- The abstract walk, part 16: contracts of functions that turn what their caller owns, or give back what is owned. -/
namespace Go.Proofs.YtfchjaoeogolnaaGreatDoor
open Go Go.RowKit

/-- A contract: from what is listed in objs the call makes what O lists, whatever else the caller owns (R), and all values (gs) go on standing for what they stood for. -/
def CtM (P : Program) (G : World → Prop) (f : FuncId) (args : List TV) (objs : Objs) {Y : Type} (I : Y → Prop) (O : Y → Objs) (r : Y → TV) : Prop :=
  ∀ (w0 w : World) (R : Objs) (gs : List (TV × Value)) (vs : Array Value), G w0 → SimW w0 (objs ++ R) w → Rep w (objs ++ R) (.gh gs) undef → vs.size = args.length → (∀ (i : Nat) (t : TV) (v : Value), args[i]? = some t → vs[i]? = some v → Rep w (objs ++ R) t v) →
    Calls P f vs w fun e w' => ∃ v y, e = .returned v ∧ I y ∧ SimW w0 (O y ++ R) w' ∧ Rep w' (O y ++ R) (.gh gs) undef ∧ Rep w' (O y ++ R) (r y) v
inductive AppO : Objs → Objs → Objs → Prop
  | nil (R : Objs) : AppO [] R R
  | cons (x : Nat × Nat × TObj) (l R l' : Objs) (h : AppO l R l') : AppO (x :: l) R (x :: l')
  | app (l R : Objs) : AppO l R (l ++ R)
theorem AppO.eq {l R l' : Objs} (h : AppO l R l') : l ++ R = l' := by
  induction h with
  | nil R => rfl
  | cons x l R l' h ih => rw [List.cons_append, ih]
  | app l R => rfl
theorem AppO.inv0 {R l : Objs} (h : AppO [] R l) : R = l := h.eq
theorem AppO.inv1 {x : Nat × Nat × TObj} {R l : Objs} (h : AppO [x] R l) : l = x :: R := h.eq.symm
theorem AppO.inv2 {x y : Nat × Nat × TObj} {R l : Objs} (h : AppO [x, y] R l) : l = x :: y :: R := h.eq.symm
theorem AppO.inv3 {x y z : Nat × Nat × TObj} {R l : Objs} (h : AppO [x, y, z] R l) : l = x :: y :: z :: R := h.eq.symm
def RetM (w0 : World) (R : Objs) (gs : List (TV × Value)) {Y : Type} (I : Y → Prop) (O : Y → Objs) (r : Y → TV) : Ending → World → Prop := fun e w' =>
  ∃ v y, e = .returned v ∧ I y ∧ SimW w0 (O y ++ R) w' ∧ Rep w' (O y ++ R) (.gh gs) undef ∧ Rep w' (O y ++ R) (r y) v
theorem ctm_enter {P : Program} {G : World → Prop} {f : FuncId} {fn : Func} {c : Code} {args : List TV} {objs : Objs} {Y : Type} {I : Y → Prop} {O : Y → Objs} {r : Y → TV} {N : Nat} {env : Env} (hf : P.funcs[f]? = some fn) (hb : fn.body = some c) (hn : fn.ntmps = N) (hN : Nat.ble args.length N = true) (hN2 : Nat.ble N 1000000 = true) (he : argEnv 0 args = env)
    (h : ∀ w0 R gs objsR, G w0 → AppO objs R objsR → AW P w0 N c (bodyPost P fn (RetM w0 R gs I O r)) (env ++ [(1000000, .gh gs)]) objsR) : CtM P G f args objs I O r := fun w0 w R gs vs hG hw hgs hsz hrep => by
  have hN := Nat.le_of_ble_eq_true hN
  have hN2 := Nat.le_of_ble_eq_true hN2
  subst he
  refine calls_of_wp hf hb ((h w0 R gs (objs ++ R) hG (.app _ _)).run _ w ⟨rfl, ?_, hw, fun t v hv => ?_⟩)
  · simp [hn, hsz]; omega
  · rcases lk_app hv with hv | hv
    · obtain ⟨_, h2⟩ := lk_argEnv hv
      rw [Nat.sub_zero] at h2
      have hlt : t < vs.size := by rw [hsz]; exact (List.getElem?_eq_some_iff.1 h2).1
      have : (vs ++ Array.replicate (fn.ntmps - vs.size) undef).getD t undef = vs[t] := by simp [Array.getElem?_append_left hlt, hlt]
      rw [this]
      exact hrep t v _ h2 (by simp [hlt])
    · rw [lk_cons] at hv
      split at hv
      · simp only [Option.some.injEq] at hv
        subst hv
        cases hgs with
        | gh l v h => exact .gh gs _ h
      · simp [lk] at hv

section
variable {P : Program} {w0 : World} {N : Nat} {Q : Exit → Act → World → Prop} {env : Env} {objs objs' : Objs} {o : Oper}

theorem retm_end {fn : Func} {R : Objs} {gs : List (TV × Value)} {Y : Type} {I : Y → Prop} {O : Y → Objs} {r : Y → TV} {x : Exit} (hx : x = .normal ∨ x = .ret) {a : Act} {w : World} (hs : Sim w0 N env objs a w) (y : Y) (hI : I y) (hg : lk 1000000 env = some (.gh gs)) (hp : Pick (O y ++ R) objs) {v : Value} (hr : (results fn a.tmps).run P w = .ok v w) (hv : Rep w objs (r y) v) : bodyPost P fn (RetM w0 R gs I O r) x a w := by
  have h1 : RetM w0 R gs I O r (.returned v) w := by
    have h2 := hs.env _ _ hg
    refine ⟨v, y, rfl, hI, hs.mem.sub hp, ?_, hv.step (step_sub hp w)⟩
    generalize a.tmps.getD 1000000 undef = u at h2
    cases h2 with
    | gh l v h => exact .gh gs _ fun i t u hi => (h i t u hi).step (step_sub hp w)
  rcases hx with rfl | rfl
  · exact ⟨hs.defers, v, hr, h1⟩
  · exact ⟨hs.defers, v, hr, h1⟩
section
variable {fn : Func} {R : Objs} {gs : List (TV × Value)} {Y : Type} {I : Y → Prop} {O : Y → Objs} {r : Y → TV} {x : Exit}
theorem aq_retm0 (hx : x = .normal ∨ x = .ret) (hres : fn.results = #[]) (y : Y) (hI : I y) (hg : lk 1000000 env = some (.gh gs)) {l : Objs} (ho : AppO (O y) R l) (hp : Pick l objs) (hr : r y = .tup []) : AQ w0 N (bodyPost P fn (RetM w0 R gs I O r)) x env objs := ⟨fun a w hs => by
  refine retm_end hx hs y hI hg (ho.eq ▸ hp) (v := .tuple #[]) ?_ (by rw [hr]; exact .tup [] #[] rfl (by simp))
  have : results fn a.tmps = (#[].mapM (rvRun a.tmps)) >>= fun vs => pure (if h : vs.size = 1 then vs[0] else .tuple vs) := by rw [← hres]; rfl
  rw [this]
  simp [Sem.run_bind, Sem.run_pure]⟩
theorem aq_retm1 {r1 : ResultVar} {t1 : TV} (hx : x = .normal ∨ x = .ret) (hres : fn.results = #[r1]) (y : Y) (hI : I y) (hg : lk 1000000 env = some (.gh gs)) {l : Objs} (ho : AppO (O y) R l) (hp : Pick l objs) (h1 : RV P env objs r1 t1) (hr : r y = t1) : AQ w0 N (bodyPost P fn (RetM w0 R gs I O r)) x env objs := ⟨fun a w hs => by
  obtain ⟨v1, e1, g1⟩ := rv_run hs h1
  refine retm_end hx hs y hI hg (ho.eq ▸ hp) (v := v1) ?_ (by rw [hr]; exact g1)
  have : results fn a.tmps = (#[r1].mapM (rvRun a.tmps)) >>= fun vs => pure (if h : vs.size = 1 then vs[0] else .tuple vs) := by rw [← hres]; rfl
  rw [this]
  simp [Sem.run_bind, e1, Sem.run_pure]⟩
theorem aq_retm2 {r1 r2 : ResultVar} {t1 t2 : TV} (hx : x = .normal ∨ x = .ret) (hres : fn.results = #[r1, r2]) (y : Y) (hI : I y) (hg : lk 1000000 env = some (.gh gs)) {l : Objs} (ho : AppO (O y) R l) (hp : Pick l objs) (h1 : RV P env objs r1 t1) (h2 : RV P env objs r2 t2) (hr : r y = .tup [t1, t2]) : AQ w0 N (bodyPost P fn (RetM w0 R gs I O r)) x env objs := ⟨fun a w hs => by
  obtain ⟨v1, e1, g1⟩ := rv_run hs h1
  obtain ⟨v2, e2, g2⟩ := rv_run hs h2
  refine retm_end hx hs y hI hg (ho.eq ▸ hp) (v := .tuple #[v1, v2]) ?_ (by rw [hr]; exact rep_tup2 g1 g2)
  have : results fn a.tmps = (#[r1, r2].mapM (rvRun a.tmps)) >>= fun vs => pure (if h : vs.size = 1 then vs[0] else .tuple vs) := by rw [← hres]; rfl
  rw [this]
  simp [Sem.run_bind, e1, e2, Sem.run_pure]⟩
end

inductive ArgsM (env : Env) : List Operand → List TV → Prop
  | nil : ArgsM env [] []
  | cons (x : Operand) (xs : List Operand) (t : TV) (ts : List TV) (h : ev env x = some t) (hr : ArgsM env xs ts) : ArgsM env (x :: xs) (t :: ts)
theorem argsM_rep {w : World} {a : Act} {xs : List Operand} {ts : List TV} (h : ArgsM env xs ts) (hop : ∀ x ∈ xs, ∀ v, ev env x = some v → Rep w objs v (a.eval x)) : (xs.map a.eval).length = ts.length ∧ ∀ (i : Nat) (t : TV) (v : Value), ts[i]? = some t → (xs.map a.eval)[i]? = some v → Rep w objs t v := by
  induction h with
  | nil => simp
  | cons x xs t ts h hr ih =>
    obtain ⟨h1, h2⟩ := ih (fun y hy => hop y (by simp [hy]))
    refine ⟨by simpa using h1, fun i u v hu hv' => ?_⟩
    cases i with
    | zero => simp at hu hv'; subst hu; subst hv'; exact hop x (by simp) t h
    | succ i => exact h2 i u v (by simpa using hu) (by simpa using hv')

/-- All that the frame's slots hold, as a list. -/
def ghosts (env : Env) (a : Act) : List (TV × Value) := env.map fun p => ((lk p.1 env).getD .top, a.tmps.getD p.1 undef)
theorem lk_mem {t : Nat} : ∀ {env : Env} {v : TV}, lk t env = some v → ∃ u, (t, u) ∈ env
  | [], _, h => by simp [lk] at h
  | (s, u) :: r, v, h => by
    rw [lk_cons] at h
    split at h
    · rename_i e; subst e; exact ⟨u, List.mem_cons_self⟩
    · obtain ⟨u', h'⟩ := lk_mem h; exact ⟨u', List.mem_cons_of_mem _ h'⟩
theorem mem_lk {t : Nat} : ∀ {env : Env} {u : TV}, (t, u) ∈ env → ∃ v, lk t env = some v
  | [], _, h => by simp at h
  | (s, u) :: r, u', h => by
    rw [lk_cons]
    by_cases e : s = t
    · exact ⟨u, by rw [if_pos e]⟩
    · rw [if_neg e]
      rcases List.mem_cons.1 h with he | h
      · simp only [Prod.mk.injEq] at he; exact absurd he.1.symm e
      · exact mem_lk h
theorem ghosts_rep {a : Act} {w : World} (hs : Sim w0 N env objs a w) : Rep w objs (.gh (ghosts env a)) undef := .gh _ _ fun i t u hi => by
  unfold ghosts at hi
  rw [List.getElem?_map] at hi
  obtain ⟨p, hp, he⟩ := Option.map_eq_some_iff.1 hi
  simp only [Prod.mk.injEq] at he
  obtain ⟨v, hv⟩ := mem_lk (List.mem_of_getElem? hp)
  rw [hv, Option.getD_some] at he
  rw [← he.1, ← he.2]
  exact hs.env _ _ hv
theorem ghosts_env {a : Act} {w' : World} (h : Rep w' objs' (.gh (ghosts env a)) undef) : ∀ t v, lk t env = some v → Rep w' objs' v (a.tmps.getD t undef) := fun t v hv => by
  obtain ⟨u, hu⟩ := lk_mem hv
  obtain ⟨i, hi, he⟩ := List.getElem_of_mem hu
  cases h with
  | gh l v' h =>
    refine h i v _ ?_
    unfold ghosts
    rw [List.getElem?_map, List.getElem?_eq_getElem hi, Option.map_some, he]
    simp [hv]
/-- A call that turns what the caller owns. -/
theorem ao_callM {G : World → Prop} {ops : Array Oper} {rest : List Oper} {f : Nat} {xs : List Operand} {ts : Array TypeId} {args : List TV} {objsC R : Objs} {Y : Type} {I : Y → Prop} {O : Y → Objs} {r : Y → TV} (ho : o.op = .call { callee := .value (.func f), args := xs.toArray, argTypes := ts }) (hc : callB P f = true) (hargs : ArgsM env xs args)
    (hct : CtM P G f args objsC I O r) (hG : G w0) (hap : AppO objsC R objs) (hpk : ∀ y, I y → ∀ v w' a, Sim w0 N env (O y ++ R) a w' → Rep w' (O y ++ R) (r y) v → wpList P ops Q rest (a.put o.dst v) w') : AO P w0 N ops Q o rest env objs := ⟨fun a w K hs hK => by
  have heq := hap.eq
  subst heq
  obtain ⟨h1, h2⟩ := argsM_rep (objs := objsC ++ R) (w := w) (a := a) hargs (fun x _ v hv => ev_sim hs hv)
  unfold Oper.wp
  rw [exec_call ho hc]
  refine (hct w0 w R (ghosts env a) (xs.map a.eval).toArray hG hs.mem (ghosts_rep hs) (by simpa using h1) (fun i t v ht hv => h2 i t v ht (by simpa using hv))).mono ?_
  rintro e w' ⟨v, y, rfl, hI, hw', hg, hr⟩
  exact hK _ _ (hpk y hI v w' a ⟨hs.defers, hs.size, hw', ghosts_env hg⟩ hr)⟩
theorem sim_put {a : Act} {w' : World} (hs : Sim w0 N env objs a w') {d : Nat} (hd : Nat.blt d N = true) {tv : TV} {v : Value} (hr : Rep w' objs tv v) : Sim w0 N ((d, tv) :: env) objs (a.put (some d) v) w' := hs.putNew hd hr hs.mem (step_refl _ _)
theorem o_callM {G : World → Prop} {ops : Array Oper} {rest : List Oper} {d T0 : Nat} {pos : String} {af : Array Edge} {g : Option (Nat × Bool)} {f : Nat} {xs : List Operand} {ts : Array TypeId} {args : List TV} {objsC R : Objs} {Y : Type} {I : Y → Prop} {O : Y → Objs} {r : Y → TV} (hN : Nat.blt d N = true) (hc : callB P f = true) (hargs : ArgsM env xs args)
    (hG : G w0) (hct : CtM P G f args objsC I O r) (hap : AppO objsC R objs) (h : ∀ y, I y → AL P w0 N ops Q rest ((d, r y) :: env) (O y ++ R)) : AO P w0 N ops Q ⟨some d, .call { callee := .value (.func f), args := xs.toArray, argTypes := ts }, T0, pos, af, g⟩ rest env objs :=
  ao_callM rfl hc hargs hct hG hap fun y hI v w' a hs hr => (h y hI).run _ _ (sim_put hs hN hr)
end
end Go.Proofs.YtfchjaoeogolnaaGreatDoor
/- The abstract walk, part 17: a call that gives back new memory that the caller owns from then on. -/
namespace Go.Proofs.YtfchjaoeogolnaaGreatDoor
open Go Go.RowKit

/-- What lies in new memory alone. -/
inductive NewOk (objs : Objs) : TV → Prop
  | flat (t : TV) (h : t.flat = true) : NewOk objs t
  | nils : NewOk objs .nils
  | ms (s b off len m : Nat) (rows : List (List TV)) (hm : (s, b, TObj.row m rows) ∈ objs) : NewOk objs (.ms s b off len)
  | agg (l : List TV) (h : ∀ t ∈ l, NewOk objs t) : NewOk objs (.agg l)
  | tup (l : List TV) (h : ∀ t ∈ l, NewOk objs t) : NewOk objs (.tup l)
def ObjNew (objs : Objs) : TObj → Prop
  | .row _ rows => ∀ t ∈ rows.flatten, NewOk objs t
  | .box cells => ∀ t ∈ cells, NewOk objs t
  | .void => False
  | .iter _ _ => False
def voids (objs : Objs) : Objs := objs.map fun x => (x.1, 0, TObj.void)
theorem mem_voids {objs : Objs} {x : Nat × Nat × TObj} (h : x ∈ voids objs) : ∃ y ∈ objs, x = (y.1, 0, TObj.void) := by
  obtain ⟨y, hy, rfl⟩ := List.mem_map.1 h
  exact ⟨y, hy, rfl⟩
theorem voids_sites {objs : Objs} (h : List.Pairwise SiteRel objs) : List.Pairwise SiteRel (voids objs) := by
  unfold voids
  rw [List.pairwise_map]
  exact h.imp fun h => ⟨h.1, .inr rfl⟩
section
variable {P : Program} {w0 : World} {N : Nat} {Q : Exit → Act → World → Prop} {env : Env} {objs objs' : Objs} {o : Oper}
theorem step_voids (w : World) (l : Objs) : Step w [] w (voids l) :=
  ⟨fun _ _ _ => rfl, fun b _ ha => by
    obtain ⟨h0, s, o, hm⟩ := ha
    obtain ⟨y, _, he⟩ := mem_voids hm
    simp only [Prod.mk.injEq] at he
    exact absurd he.2.1 h0, fun s b m rows _ hb hm => by
    obtain ⟨y, _, he⟩ := mem_voids hm
    simp only [Prod.mk.injEq] at he
    exact absurd he.2.1 hb, Nat.le_refl _, fun hk => by
    obtain ⟨y, _, he⟩ := mem_voids hk
    simp [marker] at he⟩
theorem simW_voids {w : World} (hw : SimW w0 objs w) : SimW w (voids objs) w :=
  ⟨Below.refl _ _, Nat.lt_of_lt_of_le hw.pos hw.below.size, fun s b o hm => by
    obtain ⟨y, _, he⟩ := mem_voids hm
    simp only [Prod.mk.injEq] at he
    obtain ⟨rfl, rfl, rfl⟩ := he
    rfl, voids_sites hw.sites⟩

theorem flat_any {w : World} {objs objs' : Objs} {t : TV} {v : Value} (hf : t.flat = true) (h : Rep w objs t v) : Rep w objs' t v := by
  cases h with
  | int k n => exact .int k n
  | bool b => exact .bool b
  | str s => exact .str s
  | nilp => exact .nilp
  | _ => cases hf
/-- A block of what is new is new. -/
theorem new_block {w w' : World} {O : Objs} (hD : SimW w (O ++ voids objs) w') (hO : ∀ s b o, (s, b, o) ∈ O → ObjNew O o) {s b : Nat} {o : TObj} (hm : (s, b, o) ∈ O) : b = 0 ∨ w.heap.size ≤ b := by
  have h1 := hD.obj s b o (List.mem_append_left _ hm)
  have h2 := hO s b o hm
  cases o with
  | row m rows => exact h1.2.2.imp (fun h => h.1) (fun h => h.1)
  | box cells => exact .inr h1.1.1
  | void => exact absurd h2 id
  | iter _ _ => exact absurd h2 id
theorem new_rep {w w' : World} {O : Objs} (hw : SimW w0 objs w) (hD : SimW w (O ++ voids objs) w') (hO : ∀ s b o, (s, b, o) ∈ O → ObjNew O o) {t : TV} {v : Value} (hn : NewOk O t) (h : Rep w' (O ++ voids objs) t v) : Rep w' (O ++ objs) t v := by
  induction hn generalizing v with
  | flat t hf => exact flat_any hf h
  | nils => cases h; exact .nils
  | ms s b off len m rows hm =>
    cases h with
    | ms _ _ _ _ _ h =>
      obtain ⟨⟨h1, h2, h3⟩, h4, h5⟩ := h
      refine .ms _ _ _ _ _ ⟨⟨h1, fun hk => ?_, h3⟩, h4, fun m' rows' hb hm' => ?_⟩
      · rcases List.mem_append.1 hk with hk | hk
        · exact h2 (List.mem_append_left _ hk)
        · exact hw.noMark hk
      · rcases List.mem_append.1 hm' with hm' | hm'
        · exact h5 m' rows' hb (List.mem_append_left _ hm')
        · have := objs_lt hw hm'
          rcases new_block hD hO hm with e | e
          · exact absurd e hb
          · omega
  | agg l hl ih =>
    cases h with
    | agg l vs hi h1 h2 => exact .agg l vs hi h1 fun i t v ht hv => ih t (List.mem_of_getElem? ht) (h2 i t v ht hv)
  | tup l hl ih =>
    cases h with
    | tup l vs h1 h2 => exact .tup l vs h1 fun i t v ht hv => ih t (List.mem_of_getElem? ht) (h2 i t v ht hv)
theorem new_step {w w' : World} {O : Objs} (hw : SimW w0 objs w) (hD : SimW w (O ++ voids objs) w') (hO : ∀ s b o, (s, b, o) ∈ O → ObjNew O o) : Step w objs w' (O ++ objs) :=
  ⟨fun b hb _ => hD.below.block b hb, fun b hb ha => by
    obtain ⟨h0, s, o, hm⟩ := ha
    rcases List.mem_append.1 hm with hm | hm
    · rcases new_block hD hO hm with e | e
      · exact absurd e h0
      · omega
    · exact ⟨h0, s, o, hm⟩, fun s b m rows hb h0 hm => by
    rcases List.mem_append.1 hm with hm | hm
    · rcases new_block hD hO hm with e | e
      · exact absurd e h0
      · omega
    · exact ⟨⟨rows, hm⟩, shape_same (hD.below.block b hb)⟩, hD.below.size, fun hk => by
    rcases List.mem_append.1 hk with hk | hk
    · exact absurd (List.mem_append_left _ hk) hD.noMark
    · exact hk⟩
theorem new_simW {w w' : World} {O : Objs} (hw : SimW w0 objs w) (hD : SimW w (O ++ voids objs) w') (hO : ∀ s b o, (s, b, o) ∈ O → ObjNew O o) : SimW w0 (O ++ objs) w' := by
  have hst := new_step hw hD hO
  have hle := hw.below.size
  refine ⟨hw.below.trans (hD.below.mono hle), hw.pos, fun s b o hm => ?_, ?_⟩
  · rcases List.mem_append.1 hm with hm | hm
    · have h1 := hD.obj s b o (List.mem_append_left _ hm)
      have h2 := hO s b o hm
      cases o with
      | row m rows =>
        refine ⟨h1.1, h1.2.1, h1.2.2.imp id fun ⟨g1, cur, e, cap, g2, g3, g4, g5, g6⟩ => ⟨Nat.le_trans hle g1, cur, e, cap, g2, g3, g4, g5, fun j t hj => ?_⟩⟩
        obtain ⟨v, g7, g8⟩ := g6 j t hj
        exact ⟨v, g7, new_rep hw hD hO (h2 t (List.mem_of_getElem? hj)) g8⟩
      | box cells =>
        obtain ⟨⟨g1, g0⟩, cur, e, g2, g3, g6⟩ := h1
        refine ⟨⟨Nat.le_trans hle g1, g0⟩, cur, e, g2, g3, fun j t hj => ?_⟩
        obtain ⟨v, g7, g8⟩ := g6 j t hj
        exact ⟨v, g7, new_rep hw hD hO (h2 t (List.mem_of_getElem? hj)) g8⟩
      | void => exact absurd h2 id
      | iter _ _ => exact absurd h2 id
    · exact (hw.obj s b o hm).step hst (hD.below.block b (objs_lt hw hm))
  · obtain ⟨p1, _, p3⟩ := List.pairwise_append.1 hD.sites
    refine List.pairwise_append.2 ⟨p1, hw.sites, fun x hx y hy => ?_⟩
    refine ⟨(p3 x hx (y.1, 0, .void) (List.mem_map.2 ⟨y, hy, rfl⟩)).1, ?_⟩
    rcases new_block hD hO (s := x.1) (b := x.2.1) (o := x.2.2) hx with e | e
    · exact .inr e
    · have := objs_lt (s := y.1) (b := y.2.1) (ob := y.2.2) hw hy
      exact .inl (by omega)
/-- A call that gives back new memory: the arguments are only looked at. -/
theorem ao_callO {G : World → Prop} {ops : Array Oper} {rest : List Oper} {f : Nat} {xs : List Operand} {ts : Array TypeId} {args : List TV} {Y : Type} {I : Y → Prop} {O : Y → Objs} {r : Y → TV} (ho : o.op = .call { callee := .value (.func f), args := xs.toArray, argTypes := ts }) (hc : callB P f = true) (hargs : Args env objs xs args)
    (hct : CtM P G f args [] I O r) (hG : G w0) (hst : Stable G) (hnew : ∀ y, I y → (∀ s b o, (s, b, o) ∈ O y → ObjNew (O y) o) ∧ NewOk (O y) (r y)) (h : ∀ y, I y → ∀ v w' a, Sim w0 N env (O y ++ objs) a w' → Rep w' (O y ++ objs) (r y) v → wpList P ops Q rest (a.put o.dst v) w') : AO P w0 N ops Q o rest env objs := ⟨fun a w K hs hK => by
  obtain ⟨h1, h2⟩ := args_rep hs.mem (a := a) hargs (fun x _ v hv => ev_sim hs hv)
  unfold Oper.wp
  rw [exec_call ho hc]
  have hw := simW_voids hs.mem
  refine (hct w w (voids objs) [] (xs.map a.eval).toArray (hst.below _ _ hG hs.mem.below) (by simpa using hw) (.gh _ _ (by simp)) (by simpa using h1) (fun i t v ht hv => ?_)).mono ?_
  · exact (h2 i t v ht (by simpa using hv)).step (by simpa using step_voids w objs)
  · rintro e w' ⟨v, y, rfl, hI, hw', _, hr⟩
    obtain ⟨n1, n2⟩ := hnew y hI
    have hst' := new_step hs.mem hw' n1
    exact hK _ _ (h y hI v w' a ⟨hs.defers, hs.size, new_simW hs.mem hw' n1, fun t u hu => (hs.env t u hu).step hst'⟩ (new_rep hs.mem hw' n1 n2 hr))⟩
theorem o_callV {G : World → Prop} {ops : Array Oper} {rest : List Oper} {d T0 : Nat} {pos : String} {af : Array Edge} {g : Option (Nat × Bool)} {f : Nat} {xs : List Operand} {ts : Array TypeId} {args : List TV} {r : Nat → TV} (hN : Nat.blt d N = true) (hc : callB P f = true) (hG : G w0) (hst : Stable G) (hct : Ct P G f args r) (hargs : Args env objs xs args)
    (h : AL P w0 N ops Q rest ((d, r w0.heap.size) :: env) objs) : AO P w0 N ops Q ⟨some d, .call { callee := .value (.func f), args := xs.toArray, argTypes := ts }, T0, pos, af, g⟩ rest env objs := ao_q rfl hN (y_call rfl hc hargs hct hG hst) h
theorem o_callOV {G : World → Prop} {ops : Array Oper} {rest : List Oper} {d T0 : Nat} {pos : String} {af : Array Edge} {g : Option (Nat × Bool)} {f : Nat} {xs : List Operand} {ts : Array TypeId} {args : List TV} {Y : Type} {I : Y → Prop} {O : Y → Objs} {r : Y → TV} (hN : Nat.blt d N = true) (hc : callB P f = true)
    (hG : G w0) (hst : Stable G) (hct : CtM P G f args [] I O r) (hargs : Args env objs xs args) (hnew : ∀ y, I y → (∀ s b o, (s, b, o) ∈ O y → ObjNew (O y) o) ∧ NewOk (O y) (r y)) (h : ∀ y, I y → AL P w0 N ops Q rest ((d, r y) :: env) (O y ++ objs)) : AO P w0 N ops Q ⟨some d, .call { callee := .value (.func f), args := xs.toArray, argTypes := ts }, T0, pos, af, g⟩ rest env objs :=
  ao_callO rfl hc hargs hct hG hst hnew fun y hI v w' a hs hr => (h y hI).run _ _ (sim_put hs hN hr)
theorem d_callV {G : World → Prop} {K : Env → Prop} {ops : Array Oper} {rest : List Oper} {d T0 : Nat} {pos : String} {af : Array Edge} {g : Option (Nat × Bool)} {f : Nat} {xs : List Operand} {ts : Array TypeId} {args : List TV} {r : Nat → TV} (hN : Nat.blt d N = true) (hc : callB P f = true) (hG : G w0) (hst : Stable G) (hct : Ct P G f args r) (hargs : Args env objs xs args)
    (h : DR P w0 N ops objs K rest ((d, r w0.heap.size) :: env)) : DO P w0 N ops objs K ⟨some d, .call { callee := .value (.func f), args := xs.toArray, argTypes := ts }, T0, pos, af, g⟩ rest env := ⟨fun hgr => .run _ _ _ _ _ rfl hN hgr (y_call rfl hc hargs hct hG hst) h⟩
theorem View.msAll {s b len m : Nat} {rows : List (List TV)} (hm : (s, b, TObj.row m rows) ∈ objs) (hl : rows.length = len) : View objs (.ms s b 0 len) (.sl 0 m rows) := by
  subst hl
  exact .msSame hm (by omega) (by simp)
theorem flat_new {objs : Objs} {rows : List (List TV)} (h : ∀ t ∈ rows.flatten, t.flat = true) : ∀ t ∈ rows.flatten, NewOk objs t := fun t ht => .flat t (h t ht)

end
end Go.Proofs.YtfchjaoeogolnaaGreatDoor
/- What the arguments of a law are to the walk. -/
namespace Go.Proofs.YtfchjaoeogolnaaGreatDoor
open Go Go.RowKit
mutual
def PT.tvs : PT → List TV
  | .int k n => [.int k n]
  | .bool b => [.bool b]
  | .str s => [.str s]
  | .agg l => PT.tvsL l
  | .sl _ _ m l => [.sl 0 m (PT.rowsL l)]
def PT.tvsL : List PT → List TV
  | [] => []
  | t :: r => PT.tvs t ++ PT.tvsL r
def PT.rowsL : List PT → List (List TV)
  | [] => []
  | t :: r => PT.tvs t :: PT.rowsL r
end
theorem PT.rowsL_map (l : List PT) : PT.rowsL l = l.map PT.tvs := by
  induction l with
  | nil => rfl
  | cons t r ih => simp [PT.rowsL, ih]
theorem PT.rows_flat (l : List PT) : (PT.rowsL l).flatten = PT.tvsL l := by
  induction l with
  | nil => rfl
  | cons t r ih => simp [PT.rowsL, PT.tvsL, ih]
def TvOk (w : World) (ts : List TV) (vs : List Value) : Prop := ts.length = vs.length ∧ (∀ t ∈ ts, t.isCell = true) ∧ ∀ (i : Nat) (t : TV) (v : Value), ts[i]? = some t → vs[i]? = some v → Rep w [] t v
theorem TvOk.append {w : World} {a b : List TV} {x y : List Value} (h : TvOk w a x) (k : TvOk w b y) : TvOk w (a ++ b) (x ++ y) := by
  refine ⟨by simp [h.1, k.1], fun t ht => ?_, fun i t v ht hv => ?_⟩
  · rcases List.mem_append.1 ht with ht | ht
    · exact h.2.1 t ht
    · exact k.2.1 t ht
  · by_cases hi : i < a.length
    · rw [List.getElem?_append_left hi] at ht
      rw [List.getElem?_append_left (by rw [← h.1]; exact hi)] at hv
      exact h.2.2 i t v ht hv
    · rw [List.getElem?_append_right (by omega)] at ht
      rw [List.getElem?_append_right (by rw [← h.1]; omega)] at hv
      rw [← h.1] at hv
      exact k.2.2 _ t v ht hv
theorem TvOk.one {w : World} {t : TV} {v : Value} (h : Rep w [] t v) (hc : t.isCell = true) : TvOk w [t] [v] := ⟨rfl, by simpa using hc, fun i u x hu hx => by
  cases i with
  | zero => simp at hu hx; subst hu; subst hx; exact h
  | succ i => simp at hu⟩
mutual
theorem tv_ok (w : World) (S : Nat → Prop) : ∀ t : PT, Seen w S t → TvOk w t.tvs t.cells
  | .int k n, _ => .one (.int k n) rfl
  | .bool b, _ => .one (.bool b) rfl
  | .str s, _ => .one (.str s) rfl
  | .agg l, h => by
    simp only [PT.tvs, PT.cells]
    simp only [Seen] at h
    exact tvL_ok w S l h
  | .sl A c m l, h => by
    simp only [PT.tvs, PT.cells]
    simp only [Seen] at h
    obtain ⟨h1, h2, h3, h4, h5⟩ := h
    have h6 := tvL_ok w S l h5
    have hlen : (PT.rowsL l).length = l.length := by rw [PT.rowsL_map]; simp
    refine .one ?_ rfl
    have key : ∀ j, ∃ u, ∀ t, (PT.tvsL l)[j]? = some t → ∃ b o, A = some ⟨b, o, none⟩ ∧ w.cell? ⟨b, o + j, none⟩ = some u ∧ Rep w [] t u := fun j => by
      cases hj : (PT.cellsL l)[j]? with
      | none =>
        refine ⟨undef, fun t ht => ?_⟩
        have : j < (PT.tvsL l).length := (List.getElem?_eq_some_iff.1 ht).1
        rw [h6.1] at this
        rw [List.getElem?_eq_getElem this] at hj; cases hj
      | some u =>
        refine ⟨u, fun t ht => ?_⟩
        obtain ⟨b, o, e1, _, e2⟩ := h3 j u hj
        exact ⟨b, o, e1, e2, h6.2.2 j t u ht hj⟩
    have hr := Rep.sl (w := w) (objs := []) 0 m (PT.rowsL l) A c (by omega) h2 (fun r hr => by
        rw [PT.rowsL_map] at hr
        obtain ⟨t, ht, rfl⟩ := List.mem_map.1 hr
        rw [← h4 t ht]
        exact (seenL_mem w S l h5 t ht).1) (fun t ht => by rw [PT.rows_flat] at ht; exact h6.2.1 t ht) (fun j => Classical.choose (key j))
      (fun j t hj => by
        rw [PT.rows_flat] at hj
        obtain ⟨b, o, e1, e2, _⟩ := Classical.choose_spec (key j) t hj
        exact ⟨b, o, e1, zz_nil b, e2⟩)
      (fun j t hj => by
        rw [PT.rows_flat] at hj
        obtain ⟨b, o, _, _, e3⟩ := Classical.choose_spec (key j) t hj
        exact e3)
    rw [hlen] at hr
    exact hr
theorem tvL_ok (w : World) (S : Nat → Prop) : ∀ l : List PT, SeenL w S l → TvOk w (PT.tvsL l) (PT.cellsL l)
  | [], _ => ⟨rfl, by simp [PT.tvsL], by simp [PT.tvsL]⟩
  | t :: r, h => by
    simp only [PT.tvsL, PT.cellsL]
    simp only [SeenL] at h
    exact (tv_ok w S t h.1).append (tvL_ok w S r h.2)
theorem seenL_mem (w : World) (S : Nat → Prop) : ∀ l : List PT, SeenL w S l → ∀ t ∈ l, TvOk w t.tvs t.cells
  | [], _, t, ht => by simp at ht
  | x :: r, h, t, ht => by
    simp only [SeenL] at h
    rcases List.mem_cons.1 ht with e | ht
    · rw [e]; exact tv_ok w S x h.1
    · exact seenL_mem w S r h.2 t ht
end
end Go.Proofs.YtfchjaoeogolnaaGreatDoor
