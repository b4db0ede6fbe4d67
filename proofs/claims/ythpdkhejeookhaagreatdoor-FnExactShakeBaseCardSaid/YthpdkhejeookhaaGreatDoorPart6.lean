/- Part 6 of the proof: the texts EngAA, EngAG, EngAH, EngAB, EngAC, EngAD. -/
import Derived.Test.YthpdkhejeookhaaGreatDoorPart5
import Derived.Test.YthpdkhejeookhaaGreatDoorPart4
/- The abstract walk, part 20: the rules with their side goals as default arguments. Written by gen_eng2.py. -/
namespace Go.Proofs.YthpdkhejeookhaaGreatDoor
open Go Go.RowKit
section
/-- What an operation gives. -/
structure Yd (P : Program) (w0 : World) (env : Env) (objs : Objs) (o : Oper) (tv : TV) : Prop where
  go : Yields P w0 env objs o tv
variable {P : Program} {w0 : World} {N : Nat} {Q : Exit → Act → World → Prop} {env : Env} {objs : Objs} {ops : Array Oper} {rest : List Oper} {d T0 : Nat} {dd : Option Nat} {pos : String} {af : Array Edge} {g : Option (Nat × Bool)}
theorem Y_move {x : Operand} {tv : TV} (hx : ev env x = some tv) : Yd P w0 env objs ⟨dd, .move x, T0, pos, af, g⟩ (tv) := ⟨y_move rfl hx⟩
theorem Y_assign {x : Operand} {tv : TV} (hx : ev env x = some tv) : Yd P w0 env objs ⟨dd, .assign x, T0, pos, af, g⟩ (tv) := ⟨y_assign rfl hx⟩
theorem Y_pick_t {c x y : Operand} {tv cv : TV} (hc : ev env c = some cv) (he : cv = .bool true) (hx : ev env x = some tv) : Yd P w0 env objs ⟨dd, .pick c x y, T0, pos, af, g⟩ (tv) := ⟨y_pick_t rfl hc he hx⟩
theorem Y_pick_f {c x y : Operand} {tv cv : TV} (hc : ev env c = some cv) (he : cv = .bool false) (hx : ev env y = some tv) : Yd P w0 env objs ⟨dd, .pick c x y, T0, pos, af, g⟩ (tv) := ⟨y_pick_f rfl hc he hx⟩
theorem Y_load_me {T : TypeId} {x : Operand} {c : TV} {rr : List TV} {s b m j off : Nat} {rows : List (List TV)} {r0 : List TV} (hA : agT T = false) (hT : isScal P T = true) (hx : ev env x = some (.me s b m j off)) (hm : (s, b, TObj.row m rows) ∈ objs) (hr : rows[j]? = some r0) (hl : r0.drop off = c :: rr) : Yd P w0 env objs ⟨dd, .load T x, T0, pos, af, g⟩ (c) := ⟨y_load rfl hT hx (fun _ => .me s b m j off rows r0 hm hr) hl⟩
theorem Y_load_cp {T : TypeId} {x : Operand} {c : TV} {rr : List TV} {f : Nat} {l : List TV} (hA : agT T = false) (hT : isScal P T = true) (hx : ev env x = some (.cp f l)) (hl : l = c :: rr) : Yd P w0 env objs ⟨dd, .load T x, T0, pos, af, g⟩ (c) := ⟨y_load rfl hT hx (fun _ => .cp f l) hl⟩
theorem Y_load_mp {T : TypeId} {x : Operand} {c : TV} {rr : List TV} {s b off : Nat} {cells : List TV} (hA : agT T = false) (hT : isScal P T = true) (hx : ev env x = some (.mp s b off)) (hm : (s, b, TObj.box cells) ∈ objs) (hl : cells.drop off = c :: rr) : Yd P w0 env objs ⟨dd, .load T x, T0, pos, af, g⟩ (c) := ⟨y_load rfl hT hx (fun _ => .mp s b off cells hm) hl⟩
theorem Y_fieldAddr {T : TypeId} {x : Operand} {tv tv2 : TV} {i : Nat} (hx : ev env x = some tv) (hF : fieldB P T i = true) (ht : tvOff (ofT T i) tv = some tv2) : Yd P w0 env objs ⟨dd, .fieldAddr T x i, T0, pos, af, g⟩ (tv2) := ⟨y_fieldAddr rfl hx hF ht⟩
theorem Y_indexAddr {T : TypeId} {x i : Operand} {f m : Nat} {rows : List (List TV)} {kk : IntKind} {n : Int} {j : Nat} {r : List TV} (hx : ev env x = some (.sl f m rows)) (hi : ev env i = some (.int kk n)) (hT : P.underlying T = some (.slice (P.elem T))) (hI : (P.info? (P.elem T)).isSome = true) (hm : P.cellsOf (P.elem T) = m) (hm0 : Nat.blt 0 m = true) (hn : n = (j : Int)) (hr : rows[j]? = some r) : Yd P w0 env objs ⟨dd, .indexAddr T x i, T0, pos, af, g⟩ (.cp f r) := ⟨y_indexAddr rfl hx hi hT hI hm hm0 hn hr⟩
theorem Y_indexAddr_ms {T : TypeId} {x i : Operand} {s b off len m : Nat} {rows : List (List TV)} {kk : IntKind} {n : Int} {j jj : Nat} (hx : ev env x = some (.ms s b off len)) (hi : ev env i = some (.int kk n)) (hobj : (s, b, TObj.row m rows) ∈ objs) (hT : P.underlying T = some (.slice (P.elem T))) (hI : (P.info? (P.elem T)).isSome = true) (hm : P.cellsOf (P.elem T) = m) (hn : n = (j : Int)) (hk : j < len) (hkk : off + j = jj) : Yd P w0 env objs ⟨dd, .indexAddr T x i, T0, pos, af, g⟩ (.me s b m jj 0) := ⟨hkk ▸ y_indexAddr_ms rfl hx hi hobj hT hI hm hn hk⟩
theorem Y_len_s {x : Operand} {t : TypeId} {s : ByteArray} (hx : ev env x = some (.str s)) (hT : P.underlying t = some .string) : Yd P w0 env objs ⟨dd, .call { callee := .builtin .len, args := #[x], argTypes := #[t] }, T0, pos, af, g⟩ (.int .i64 (s.size : Int)) := ⟨y_len_s rfl hx hT⟩
theorem Y_len_sl {x : Operand} {t : TypeId} {f m n : Nat} {rows : List (List TV)} (hx : ev env x = some (.sl f m rows)) (hT : P.underlying t = some (.slice (P.elem t))) (hn : rows.length = n) : Yd P w0 env objs ⟨dd, .call { callee := .builtin .len, args := #[x], argTypes := #[t] }, T0, pos, af, g⟩ (.int .i64 (n : Int)) := ⟨y_len_sl rfl hx hT hn⟩
theorem Y_len_ms {x : Operand} {t : TypeId} {s b off len : Nat} (hx : ev env x = some (.ms s b off len)) (hT : P.underlying t = some (.slice (P.elem t))) : Yd P w0 env objs ⟨dd, .call { callee := .builtin .len, args := #[x], argTypes := #[t] }, T0, pos, af, g⟩ (.int .i64 (len : Int)) := ⟨y_len_ms rfl hx hT⟩
theorem Y_len_nils {x : Operand} {t : TypeId} (hx : ev env x = some .nils) (hT : P.underlying t = some (.slice (P.elem t))) : Yd P w0 env objs ⟨dd, .call { callee := .builtin .len, args := #[x], argTypes := #[t] }, T0, pos, af, g⟩ (.int .i64 0) := ⟨y_len_nils rfl hx hT⟩
theorem Y_eql {t t2 : TypeId} {x y : Operand} {k : IntKind} {m n : Int} (hx : ev env x = some (.int k m)) (hy : ev env y = some (.int k n)) : Yd P w0 env objs ⟨dd, .binOp .eql t x y t2, T0, pos, af, g⟩ (.bool (decide (m = n))) := ⟨y_eql rfl hx hy⟩
theorem Y_neq {t t2 : TypeId} {x y : Operand} {k : IntKind} {m n : Int} (hx : ev env x = some (.int k m)) (hy : ev env y = some (.int k n)) : Yd P w0 env objs ⟨dd, .binOp .neq t x y t2, T0, pos, af, g⟩ (.bool (decide (m ≠ n))) := ⟨y_neq rfl hx hy⟩
theorem Y_lss {t t2 : TypeId} {x y : Operand} {k : IntKind} {m n : Int} (hx : ev env x = some (.int k m)) (hy : ev env y = some (.int k n)) : Yd P w0 env objs ⟨dd, .binOp .lss t x y t2, T0, pos, af, g⟩ (.bool (decide (m < n))) := ⟨y_lss rfl hx hy⟩
theorem Y_leq {t t2 : TypeId} {x y : Operand} {k : IntKind} {m n : Int} (hx : ev env x = some (.int k m)) (hy : ev env y = some (.int k n)) : Yd P w0 env objs ⟨dd, .binOp .leq t x y t2, T0, pos, af, g⟩ (.bool (decide (m ≤ n))) := ⟨y_leq rfl hx hy⟩
theorem Y_gtr {t t2 : TypeId} {x y : Operand} {k : IntKind} {m n : Int} (hx : ev env x = some (.int k m)) (hy : ev env y = some (.int k n)) : Yd P w0 env objs ⟨dd, .binOp .gtr t x y t2, T0, pos, af, g⟩ (.bool (decide (n < m))) := ⟨y_gtr rfl hx hy⟩
theorem Y_geq {t t2 : TypeId} {x y : Operand} {k : IntKind} {m n : Int} (hx : ev env x = some (.int k m)) (hy : ev env y = some (.int k n)) : Yd P w0 env objs ⟨dd, .binOp .geq t x y t2, T0, pos, af, g⟩ (.bool (decide (n ≤ m))) := ⟨y_geq rfl hx hy⟩
theorem Y_add {t t2 : TypeId} {x y : Operand} {k : IntKind} {m n c : Int} (hx : ev env x = some (.int k m)) (hy : ev env y = some (.int k n)) (hc : k.wrap (m + n) = c) : Yd P w0 env objs ⟨dd, .binOp .add t x y t2, T0, pos, af, g⟩ (.int k c) := ⟨y_add rfl hx hy hc⟩
theorem Y_sub {t t2 : TypeId} {x y : Operand} {k : IntKind} {m n c : Int} (hx : ev env x = some (.int k m)) (hy : ev env y = some (.int k n)) (hc : k.wrap (m - n) = c) : Yd P w0 env objs ⟨dd, .binOp .sub t x y t2, T0, pos, af, g⟩ (.int k c) := ⟨y_sub rfl hx hy hc⟩
theorem Y_mul {t t2 : TypeId} {x y : Operand} {k : IntKind} {m n c : Int} (hx : ev env x = some (.int k m)) (hy : ev env y = some (.int k n)) (hc : k.wrap (m * n) = c) : Yd P w0 env objs ⟨dd, .binOp .mul t x y t2, T0, pos, af, g⟩ (.int k c) := ⟨y_mul rfl hx hy hc⟩
theorem Y_index_s {T : TypeId} {x i : Operand} {s : ByteArray} {kk : IntKind} {n : Int} {j : Nat} (hx : ev env x = some (.str s)) (hi : ev env i = some (.int kk n)) (hT : P.underlying T = some .string) (hn : n = (j : Int)) (hk : j < s.size) : Yd P w0 env objs ⟨dd, .index T x i, T0, pos, af, g⟩ (.int .u8 (bat s j)) := ⟨y_index_s rfl hx hi hT hn hk⟩
theorem Y_not_t {t : TypeId} {x : Operand} {v : TV} (hx : ev env x = some v) (he : v = .bool true) : Yd P w0 env objs ⟨dd, .unOp .not t x, T0, pos, af, g⟩ (.bool false) := ⟨y_not_b (b := true) rfl (he ▸ hx)⟩
theorem Y_not_f {t : TypeId} {x : Operand} {v : TV} (hx : ev env x = some v) (he : v = .bool false) : Yd P w0 env objs ⟨dd, .unOp .not t x, T0, pos, af, g⟩ (.bool true) := ⟨y_not_b (b := false) rfl (he ▸ hx)⟩
theorem Y_not {t : TypeId} {x : Operand} {p : Prop} {i : Decidable p} {v : TV} (hx : ev env x = some v) (he : v = .bool (@decide p i)) : Yd P w0 env objs ⟨dd, .unOp .not t x, T0, pos, af, g⟩ (.bool (decide (¬ p))) := ⟨y_not rfl (he ▸ hx)⟩
theorem Y_not_b {t : TypeId} {x : Operand} {b : Bool} {v : TV} (hx : ev env x = some v) (he : v = .bool b) : Yd P w0 env objs ⟨dd, .unOp .not t x, T0, pos, af, g⟩ (.bool (!b)) := ⟨y_not_b rfl (he ▸ hx)⟩
theorem Y_eql_s {t t2 : TypeId} {x y : Operand} {s u : ByteArray} (hx : ev env x = some (.str s)) (hy : ev env y = some (.str u)) : Yd P w0 env objs ⟨dd, .binOp .eql t x y t2, T0, pos, af, g⟩ (.bool (decide (s = u))) := ⟨y_eql_s rfl hx hy⟩
theorem Y_neq_s {t t2 : TypeId} {x y : Operand} {s u : ByteArray} (hx : ev env x = some (.str s)) (hy : ev env y = some (.str u)) : Yd P w0 env objs ⟨dd, .binOp .neq t x y t2, T0, pos, af, g⟩ (.bool (decide (s ≠ u))) := ⟨y_neq_s rfl hx hy⟩
theorem Y_conv_int {src dst : TypeId} {x : Operand} {k k2 : IntKind} {m c : Int} (hx : ev env x = some (.int k m)) (hk : kdT dst = some k2) (hs : (P.underlying src).isSome = true) (hd : P.underlying dst = some (.int k2)) (hc : k2.wrap m = c) : Yd P w0 env objs ⟨dd, .convert src dst x, T0, pos, af, g⟩ (.int k2 c) := ⟨y_conv_int rfl hx hk hs hd hc⟩
theorem Y_nilCheck_cp {x : Operand} {f : Nat} {l : List TV} (hx : ev env x = some (.cp f l)) : Yd P w0 env objs ⟨dd, .nilCheck x, T0, pos, af, g⟩ (.cp f l) := ⟨y_nilCheck rfl hx (fun _ => .cp f l)⟩
theorem Y_nilCheck_mp {x : Operand} {s b off : Nat} {cells : List TV} (hx : ev env x = some (.mp s b off)) (hm : (s, b, TObj.box cells) ∈ objs) : Yd P w0 env objs ⟨dd, .nilCheck x, T0, pos, af, g⟩ (.mp s b off) := ⟨y_nilCheck rfl hx (fun _ => .mp s b off cells hm)⟩
theorem Y_nilCheck_me {x : Operand} {s b m j off : Nat} {rows : List (List TV)} {r0 : List TV} (hx : ev env x = some (.me s b m j off)) (hm : (s, b, TObj.row m rows) ∈ objs) (hr : rows[j]? = some r0) : Yd P w0 env objs ⟨dd, .nilCheck x, T0, pos, af, g⟩ (.me s b m j off) := ⟨y_nilCheck rfl hx (fun _ => .me s b m j off rows r0 hm hr)⟩
theorem Y_load_agg_me {T : TypeId} {x : Operand} {out : List TV} {s b m j off : Nat} {rows : List (List TV)} {r0 : List TV} (hA : agT T = true) (hT : isAggB P T = true) (hi : (P.info? T).isSome = true) (hs : P.cellsOf T = szT T) (hx : ev env x = some (.me s b m j off)) (hm : (s, b, TObj.row m rows) ∈ objs) (hr : rows[j]? = some r0) (htk : Taken (szT T) (r0.drop off) out) : Yd P w0 env objs ⟨dd, .load T x, T0, pos, af, g⟩ (.agg out) := ⟨y_load_agg rfl hT hi hs hx (fun _ => .me s b m j off rows r0 hm hr) htk⟩
theorem Y_load_agg_cp {T : TypeId} {x : Operand} {out : List TV} {f : Nat} {l : List TV} (hA : agT T = true) (hT : isAggB P T = true) (hi : (P.info? T).isSome = true) (hs : P.cellsOf T = szT T) (hx : ev env x = some (.cp f l)) (htk : Taken (szT T) (l) out) : Yd P w0 env objs ⟨dd, .load T x, T0, pos, af, g⟩ (.agg out) := ⟨y_load_agg rfl hT hi hs hx (fun _ => .cp f l) htk⟩
theorem Y_load_agg_mp {T : TypeId} {x : Operand} {out : List TV} {s b off : Nat} {cells : List TV} (hA : agT T = true) (hT : isAggB P T = true) (hi : (P.info? T).isSome = true) (hs : P.cellsOf T = szT T) (hx : ev env x = some (.mp s b off)) (hm : (s, b, TObj.box cells) ∈ objs) (htk : Taken (szT T) (cells.drop off) out) : Yd P w0 env objs ⟨dd, .load T x, T0, pos, af, g⟩ (.agg out) := ⟨y_load_agg rfl hT hi hs hx (fun _ => .mp s b off cells hm) htk⟩
theorem Y_extract {x : Operand} {i : Nat} {l : List TV} {u : TV} (hx : ev env x = some (.tup l)) (ht : l[i]? = some u) : Yd P w0 env objs ⟨dd, .extract x i, T0, pos, af, g⟩ (u) := ⟨y_extract rfl hx ht⟩
theorem Y_or {t t2 : TypeId} {x y : Operand} {k : IntKind} {m n : Int} (hx : ev env x = some (.int k m)) (hy : ev env y = some (.int k n)) : Yd P w0 env objs ⟨dd, .binOp .or t x y t2, T0, pos, af, g⟩ (.int k (orI k m n)) := ⟨y_or rfl hx hy⟩
theorem Y_and {t t2 : TypeId} {x y : Operand} {k : IntKind} {m n : Int} (hx : ev env x = some (.int k m)) (hy : ev env y = some (.int k n)) : Yd P w0 env objs ⟨dd, .binOp .and t x y t2, T0, pos, af, g⟩ (.int k (andI k m n)) := ⟨y_and rfl hx hy⟩
theorem Y_field {T : TypeId} {x : Operand} {i : Nat} {l : List TV} {u : TV} (hx : ev env x = some (.agg l)) (hF : fieldB P T i = true) (hS : isScal P ((P.fieldsOf T).getD i default).type = true) (ht : l[ofT T i]? = some u) : Yd P w0 env objs ⟨dd, .field T x i, T0, pos, af, g⟩ (u) := ⟨y_field rfl hx hF hS ht⟩
theorem Y_slice_lh {T : TypeId} {x : Operand} {s : ByteArray} {lo hi : Operand} {k1 k2 : IntKind} {i j : Nat} {m n : Int} (hx : ev env x = some (.str s)) (hlo : ev env lo = some (.int k1 m)) (hhi : ev env hi = some (.int k2 n)) (hT : P.underlying T = some .string) (hm : m = (i : Int)) (hn : n = (j : Int)) (h1 : i ≤ j) (h2 : j ≤ s.size) : Yd P w0 env objs ⟨dd, .slice T x (some lo) (some hi) none, T0, pos, af, g⟩ (.str (s.extract i j)) := ⟨y_slice_lh rfl hx hlo hhi hT hm hn h1 h2⟩
theorem Y_slice_l {T : TypeId} {x : Operand} {s : ByteArray} {lo : Operand} {k1 : IntKind} {i : Nat} {m : Int} (hx : ev env x = some (.str s)) (hlo : ev env lo = some (.int k1 m)) (hT : P.underlying T = some .string) (hm : m = (i : Int)) (h1 : i ≤ s.size) : Yd P w0 env objs ⟨dd, .slice T x (some lo) none none, T0, pos, af, g⟩ (.str (s.extract i s.size)) := ⟨y_slice_l rfl hx hlo hT hm h1⟩
theorem Y_slice_h {T : TypeId} {x : Operand} {s : ByteArray} {hi : Operand} {k2 : IntKind} {j : Nat} {n : Int} (hx : ev env x = some (.str s)) (hhi : ev env hi = some (.int k2 n)) (hT : P.underlying T = some .string) (hn : n = (j : Int)) (h2 : j ≤ s.size) : Yd P w0 env objs ⟨dd, .slice T x none (some hi) none, T0, pos, af, g⟩ (.str (s.extract 0 j)) := ⟨y_slice_h rfl hx hhi hT hn h2⟩
theorem Y_quo {t t2 : TypeId} {x y : Operand} {k : IntKind} {m n c : Int} (hx : ev env x = some (.int k m)) (hy : ev env y = some (.int k n)) (hn : n ≠ 0) (hc : k.wrap (m.tdiv n) = c) : Yd P w0 env objs ⟨dd, .binOp .quo t x y t2, T0, pos, af, g⟩ (.int k c) := ⟨y_quo rfl hx hy hn hc⟩
theorem Y_rem {t t2 : TypeId} {x y : Operand} {k : IntKind} {m n c : Int} (hx : ev env x = some (.int k m)) (hy : ev env y = some (.int k n)) (hn : n ≠ 0) (hc : m.tmod n = c) : Yd P w0 env objs ⟨dd, .binOp .rem t x y t2, T0, pos, af, g⟩ (.int k c) := ⟨y_rem rfl hx hy hn hc⟩
theorem Y_add_s {t t2 : TypeId} {x y : Operand} {s u : ByteArray} (hx : ev env x = some (.str s)) (hy : ev env y = some (.str u)) (hl : s.size + u.size ≤ 9223372036854775807) : Yd P w0 env objs ⟨dd, .binOp .add t x y t2, T0, pos, af, g⟩ (.str (s ++ u)) := ⟨y_add_s rfl hx hy hl⟩
theorem Y_eql_b {t t2 : TypeId} {x y : Operand} {b c : Bool} (hx : ev env x = some (.bool b)) (hy : ev env y = some (.bool c)) (hu : P.underlying t = some .bool) : Yd P w0 env objs ⟨dd, .binOp .eql t x y t2, T0, pos, af, g⟩ (.bool (b == c)) := ⟨y_eql_b rfl hx hy hu⟩
theorem Y_neq_b {t t2 : TypeId} {x y : Operand} {b c : Bool} (hx : ev env x = some (.bool b)) (hy : ev env y = some (.bool c)) (hu : P.underlying t = some .bool) : Yd P w0 env objs ⟨dd, .binOp .neq t x y t2, T0, pos, af, g⟩ (.bool (b != c)) := ⟨y_neq_b rfl hx hy hu⟩
theorem Y_shl {t t2 : TypeId} {x y : Operand} {k k2 : IntKind} {m n : Int} (hx : ev env x = some (.int k m)) (hy : ev env y = some (.int k2 n)) (hn : 0 ≤ n) : Yd P w0 env objs ⟨dd, .binOp .shl t x y t2, T0, pos, af, g⟩ (.int k (shlI k m n)) := ⟨y_shl rfl hx hy hn⟩
theorem Y_eql_a {T t2 : TypeId} {x y : Operand} {l l' : List TV} (hx : ev env x = some (.agg l)) (hy : ev env y = some (.agg l')) (hT : feqT P T l l' = true) : Yd P w0 env objs ⟨dd, .binOp .eql T x y t2, T0, pos, af, g⟩ (.bool (eqL l l')) := ⟨y_eql_a rfl hx hy hT⟩
theorem Y_neq_a {T t2 : TypeId} {x y : Operand} {l l' : List TV} (hx : ev env x = some (.agg l)) (hy : ev env y = some (.agg l')) (hT : feqT P T l l' = true) : Yd P w0 env objs ⟨dd, .binOp .neq T x y t2, T0, pos, af, g⟩ (.bool (!(eqL l l'))) := ⟨y_neq_a rfl hx hy hT⟩
theorem o_y {op : Op} {tv : TV} (hy : Yd P w0 env objs ⟨some d, op, T0, pos, af, g⟩ tv) (hN : Nat.blt d N = true) (h : AL P w0 N ops Q rest ((d, tv) :: env) objs) : AO P w0 N ops Q ⟨some d, op, T0, pos, af, g⟩ rest env objs := ao_q rfl hN hy.go h
theorem d_y {K : Env → Prop} {op : Op} {tv : TV} (hy : Yd P w0 env objs ⟨some d, op, T0, pos, af, g⟩ tv) (hN : Nat.blt d N = true) (h : DR P w0 N ops objs K rest ((d, tv) :: env)) : DO P w0 N ops objs K ⟨some d, op, T0, pos, af, g⟩ rest env := ⟨fun hgr => .run _ _ _ _ _ rfl hN hgr hy.go h⟩
theorem u_y {K : Env → Prop} {op : Op} {tv : TV} (hy : ∀ objs, Yd P w0 env objs ⟨some d, op, T0, pos, af, none⟩ tv) (hN : Nat.blt d N = true) (h : DU P w0 N K rest ((d, tv) :: env)) : DU P w0 N K (⟨some d, op, T0, pos, af, none⟩ :: rest) env := .run _ _ _ _ _ rfl hN rfl (fun o => (hy o).go) h
end
/-- A goal that is handed on. -/
structure Bx (B : Prop) : Prop where
  go : B
theorem y_ {A : Prop} (h : A := by (first | (first | ((with_reducible first | apply Y_move | apply Y_assign | apply Y_nilCheck_cp); rfl) | ((with_reducible apply Y_pick_t); rfl; (with_reducible rfl); rfl) | ((with_reducible apply Y_pick_f); rfl; (with_reducible rfl); rfl) | ((with_reducible apply Y_load_me); rfl; kernel_rfl; rfl; (repeat (first | with_reducible exact mh | with_reducible refine mt ?_)); (first | (with_reducible assumption) | (refine row_map ?_; omega) | (refine set_row ?_; simp only [List.length_set, List.length_map]; omega) | exact rfl | assumption); rfl) | ((with_reducible apply Y_load_cp); rfl; kernel_rfl; rfl; rfl) | ((with_reducible apply Y_load_mp); rfl; kernel_rfl; rfl; (repeat (first | with_reducible exact mh | with_reducible refine mt ?_)); rfl) | ((with_reducible apply Y_fieldAddr); rfl; kernel_rfl; rfl) | ((with_reducible apply Y_indexAddr); rfl; rfl; kernel_rfl; kernel_rfl; kernel_rfl; rfl; (first | (with_reducible first | exact rfl | exact nat0 | exact nat1 | exact nat2 | exact nat3) | exact rfl | exact nat_sub (by omega) | omega); (first | (with_reducible assumption) | (refine row_map ?_; omega) | (refine set_row ?_; simp only [List.length_set, List.length_map]; omega) | exact rfl | assumption)) | ((with_reducible apply Y_indexAddr_ms); rfl; rfl; (repeat (first | with_reducible exact mh | with_reducible refine mt ?_)); kernel_rfl; kernel_rfl; kernel_rfl; (first | (with_reducible first | exact rfl | exact nat0 | exact nat1 | exact nat2 | exact nat3) | exact rfl | exact nat_sub (by omega) | omega); (first | assumption | omega); (first | with_reducible exact Nat.zero_add _ | rfl)) | ((with_reducible apply Y_len_s); rfl; kernel_rfl) | ((with_reducible apply Y_len_sl); rfl; kernel_rfl; (first | exact List.length_map _ | rfl)) | ((with_reducible apply Y_len_ms); rfl; kernel_rfl) | ((with_reducible apply Y_len_nils); rfl; kernel_rfl) | ((with_reducible first | apply Y_eql | apply Y_neq | apply Y_lss | apply Y_leq | apply Y_gtr | apply Y_geq | apply Y_extract | apply Y_or | apply Y_and); rfl; rfl) | ((with_reducible first | apply Y_add | apply Y_sub | apply Y_mul); rfl; rfl; (first | ((with_reducible first | refine w_n1 ?_ | refine w_n2 ?_ | refine w_nn ?_ | refine w_nm1 ?_ | refine IntWalk.i64_in _ ?_ | refine w_u8 _ ?_); omega) | ((with_reducible refine IntWalk.i64_in _ ?_); omega) | (with_reducible assumption) | exact rfl)) | ((with_reducible apply Y_index_s); rfl; rfl; kernel_rfl; (first | (with_reducible first | exact rfl | exact nat0 | exact nat1 | exact nat2 | exact nat3) | exact rfl | exact nat_sub (by omega) | omega); (first | assumption | omega)) | ((with_reducible apply Y_not_t); rfl; (with_reducible rfl)) | ((with_reducible apply Y_not_f); rfl; (with_reducible rfl)) | ((with_reducible apply Y_not); rfl; (with_reducible rfl)) | ((with_reducible apply Y_not_b); rfl; (with_reducible rfl)) | ((with_reducible first | apply Y_eql_s | apply Y_neq_s); rfl; rfl) | ((with_reducible apply Y_conv_int); rfl; rfl; kernel_rfl; kernel_rfl; (first | ((with_reducible first | refine w_n1 ?_ | refine w_n2 ?_ | refine w_nn ?_ | refine w_nm1 ?_ | refine IntWalk.i64_in _ ?_ | refine w_u8 _ ?_); omega) | ((with_reducible refine IntWalk.i64_in _ ?_); omega) | (with_reducible assumption) | exact rfl)) | ((with_reducible apply Y_nilCheck_mp); rfl; (repeat (first | with_reducible exact mh | with_reducible refine mt ?_))) | ((with_reducible apply Y_nilCheck_me); rfl; (repeat (first | with_reducible exact mh | with_reducible refine mt ?_)); (first | (with_reducible assumption) | (refine row_map ?_; omega) | (refine set_row ?_; simp only [List.length_set, List.length_map]; omega) | exact rfl | assumption)) | ((with_reducible apply Y_load_agg_me); rfl; kernel_rfl; kernel_rfl; kernel_rfl; rfl; (repeat (first | with_reducible exact mh | with_reducible refine mt ?_)); (first | (with_reducible assumption) | (refine row_map ?_; omega) | (refine set_row ?_; simp only [List.length_set, List.length_map]; omega) | exact rfl | assumption); (first | exact .zero _ | exact .succ _ _ _ _ (.zero _) | exact .succ _ _ _ _ (.succ _ _ _ _ (.zero _)) | exact .succ _ _ _ _ (.succ _ _ _ _ (.succ _ _ _ _ (.zero _))) | exact .succ _ _ _ _ (.succ _ _ _ _ (.succ _ _ _ _ (.succ _ _ _ _ (.zero _)))))) | ((with_reducible apply Y_load_agg_cp); rfl; kernel_rfl; kernel_rfl; kernel_rfl; rfl; (first | exact .zero _ | exact .succ _ _ _ _ (.zero _) | exact .succ _ _ _ _ (.succ _ _ _ _ (.zero _)) | exact .succ _ _ _ _ (.succ _ _ _ _ (.succ _ _ _ _ (.zero _))) | exact .succ _ _ _ _ (.succ _ _ _ _ (.succ _ _ _ _ (.succ _ _ _ _ (.zero _)))))) | ((with_reducible apply Y_load_agg_mp); rfl; kernel_rfl; kernel_rfl; kernel_rfl; rfl; (repeat (first | with_reducible exact mh | with_reducible refine mt ?_)); (first | exact .zero _ | exact .succ _ _ _ _ (.zero _) | exact .succ _ _ _ _ (.succ _ _ _ _ (.zero _)) | exact .succ _ _ _ _ (.succ _ _ _ _ (.succ _ _ _ _ (.zero _))) | exact .succ _ _ _ _ (.succ _ _ _ _ (.succ _ _ _ _ (.succ _ _ _ _ (.zero _)))))) | ((with_reducible apply Y_field); rfl; kernel_rfl; kernel_rfl; rfl) | ((with_reducible apply Y_slice_lh); rfl; rfl; rfl; kernel_rfl; (first | (with_reducible first | exact rfl | exact nat0 | exact nat1 | exact nat2 | exact nat3) | exact rfl | exact nat_sub (by omega) | omega); (first | (with_reducible first | exact rfl | exact nat0 | exact nat1 | exact nat2 | exact nat3) | exact rfl | exact nat_sub (by omega) | omega); (first | assumption | omega); (first | assumption | omega)) | ((with_reducible apply Y_slice_l); rfl; rfl; kernel_rfl; (first | (with_reducible first | exact rfl | exact nat0 | exact nat1 | exact nat2 | exact nat3) | exact rfl | exact nat_sub (by omega) | omega); (first | assumption | omega)) | ((with_reducible apply Y_slice_h); rfl; rfl; kernel_rfl; (first | (with_reducible first | exact rfl | exact nat0 | exact nat1 | exact nat2 | exact nat3) | exact rfl | exact nat_sub (by omega) | omega); (first | assumption | omega)) | ((with_reducible apply Y_quo); rfl; rfl; omega; (first | ((with_reducible first | refine w_n1 ?_ | refine w_n2 ?_ | refine w_nn ?_ | refine w_nm1 ?_ | refine IntWalk.i64_in _ ?_ | refine w_u8 _ ?_); omega) | ((with_reducible refine IntWalk.i64_in _ ?_); omega) | (with_reducible assumption) | exact rfl)) | ((with_reducible apply Y_rem); rfl; rfl; omega; exact rfl) | ((with_reducible apply Y_add_s); rfl; rfl; (first | assumption | omega)) | ((with_reducible first | apply Y_eql_b | apply Y_neq_b); rfl; rfl; kernel_rfl) | ((with_reducible apply Y_shl); rfl; rfl; omega) | ((with_reducible first | apply Y_eql_a | apply Y_neq_a); rfl; rfl; kernel_rfl)) | fail)) : A := h
theorem yu_ {A : Prop} (h : A := by (first | (intro objs; first | ((with_reducible first | apply Y_move | apply Y_assign | apply Y_nilCheck_cp); rfl) | ((with_reducible apply Y_load_cp); rfl; kernel_rfl; rfl; rfl) | ((with_reducible apply Y_fieldAddr); rfl; kernel_rfl; rfl) | ((with_reducible apply Y_indexAddr); rfl; rfl; kernel_rfl; kernel_rfl; kernel_rfl; rfl; (first | (with_reducible first | exact rfl | exact nat0 | exact nat1 | exact nat2 | exact nat3) | exact rfl | exact nat_sub (by omega) | omega); (first | (with_reducible assumption) | (refine row_map ?_; omega) | (refine set_row ?_; simp only [List.length_set, List.length_map]; omega) | exact rfl | assumption)) | ((with_reducible apply Y_len_s); rfl; kernel_rfl) | ((with_reducible apply Y_len_sl); rfl; kernel_rfl; (first | exact List.length_map _ | rfl)) | ((with_reducible first | apply Y_eql | apply Y_neq | apply Y_lss | apply Y_leq | apply Y_gtr | apply Y_geq | apply Y_extract); rfl; rfl) | ((with_reducible first | apply Y_add | apply Y_sub | apply Y_mul); rfl; rfl; (first | ((with_reducible first | refine w_n1 ?_ | refine w_n2 ?_ | refine w_nn ?_ | refine w_nm1 ?_ | refine IntWalk.i64_in _ ?_ | refine w_u8 _ ?_); omega) | ((with_reducible refine IntWalk.i64_in _ ?_); omega) | (with_reducible assumption) | exact rfl)) | ((with_reducible apply Y_index_s); rfl; rfl; kernel_rfl; (first | (with_reducible first | exact rfl | exact nat0 | exact nat1 | exact nat2 | exact nat3) | exact rfl | exact nat_sub (by omega) | omega); (first | assumption | omega)) | ((with_reducible apply Y_conv_int); rfl; rfl; kernel_rfl; kernel_rfl; (first | ((with_reducible first | refine w_n1 ?_ | refine w_n2 ?_ | refine w_nn ?_ | refine w_nm1 ?_ | refine IntWalk.i64_in _ ?_ | refine w_u8 _ ?_); omega) | ((with_reducible refine IntWalk.i64_in _ ?_); omega) | (with_reducible assumption) | exact rfl)) | ((with_reducible apply Y_load_agg_cp); rfl; kernel_rfl; kernel_rfl; kernel_rfl; rfl; (first | exact .zero _ | exact .succ _ _ _ _ (.zero _) | exact .succ _ _ _ _ (.succ _ _ _ _ (.zero _)) | exact .succ _ _ _ _ (.succ _ _ _ _ (.succ _ _ _ _ (.zero _))) | exact .succ _ _ _ _ (.succ _ _ _ _ (.succ _ _ _ _ (.succ _ _ _ _ (.zero _))))))) | fail)) : A := h
theorem rr_ {A : Prop} (h : A := by (first | with_reducible rfl | fail)) : A := h
theorem dd_ {A : Prop} (h : A := by (first | assumption | omega | fail)) : A := h
theorem e_alloc {A B : Prop} (h : B) (hi : Bx B → A := by (first | (intro hB; (with_reducible apply o_alloc); rfl; rfl; kernel_rfl; exact hB.go) | fail)) : A := hi ⟨h⟩
theorem e_own {A B : Prop} (h : B) (hi : Bx B → A := by (first | (intro hB; (with_reducible apply o_own); rfl; rfl; kernel_rfl; kernel_rfl; rfl; kernel_rfl; rfl; rfl; rfl; rfl; exact hB.go) | fail)) : A := hi ⟨h⟩
theorem e_make {A B : Prop} (h : B) (hi : Bx B → A := by (first | (intro hB; (with_reducible apply o_make); rfl; rfl; rfl; (first | (with_reducible first | exact rfl | exact nat0 | exact nat1 | exact nat2 | exact nat3) | exact rfl | exact nat_sub (by omega) | omega); kernel_rfl; kernel_rfl; rfl; rfl; kernel_rfl; omega; exact hB.go) | fail)) : A := hi ⟨h⟩
theorem e_box {A B : Prop} (h : B) (hi : Bx B → A := by (first | (intro hB; (with_reducible apply o_box); rfl; rfl; rfl; exact hB.go) | fail)) : A := hi ⟨h⟩
theorem e_lit {A B : Prop} (h : B) (hi : Bx B → A := by (first | (intro hB; (with_reducible apply o_lit); rfl; rfl; kernel_rfl; kernel_rfl; rfl; kernel_rfl; rfl; rfl; rfl; rfl; exact hB.go) | fail)) : A := hi ⟨h⟩
theorem e_litd {A B : Prop} (h : B) (hi : Bx B → A := by (first | (intro hB; (with_reducible apply d_lit); rfl; rfl; kernel_rfl; kernel_rfl; rfl; kernel_rfl; rfl; rfl; rfl; rfl; exact hB.go) | fail)) : A := hi ⟨h⟩
theorem e_storep {A B : Prop} (h : B) (hi : Bx B → A := by (first | (intro hB; (with_reducible apply o_store_mp); rfl; rfl; rfl; kernel_rfl; (repeat (first | with_reducible exact mh | with_reducible refine mt ?_)); (first | exact .nil _ | exact .put _ _ _ _ _ (.nil _) | exact .skip _ _ _ _ _ (.put _ _ _ _ _ (.nil _)) | exact .skip _ _ _ _ _ (.skip _ _ _ _ _ (.put _ _ _ _ _ (.nil _))) | (repeat (first | exact .nil _ | apply Splice.put | apply Splice.skip))); (repeat (first | with_reducible exact Upd.head _ | with_reducible apply Upd.tail)); kernel_rfl; exact hB.go) | fail)) : A := hi ⟨h⟩
theorem e_store {A B : Prop} (h : B) (hi : Bx B → A := by (first | (intro hB; (with_reducible apply o_store_me); rfl; rfl; rfl; kernel_rfl; (repeat (first | with_reducible exact mh | with_reducible refine mt ?_)); (first | (with_reducible assumption) | (refine row_map ?_; omega) | (refine set_row ?_; simp only [List.length_set, List.length_map]; omega) | exact rfl | assumption); (first | exact .nil _ | exact .put _ _ _ _ _ (.nil _) | exact .skip _ _ _ _ _ (.put _ _ _ _ _ (.nil _)) | exact .skip _ _ _ _ _ (.skip _ _ _ _ _ (.put _ _ _ _ _ (.nil _))) | (repeat (first | exact .nil _ | apply Splice.put | apply Splice.skip))); kernel_rfl; rfl; (repeat (first | with_reducible exact Upd.head _ | with_reducible apply Upd.tail)); exact hB.go) | fail)) : A := hi ⟨h⟩
theorem e_app {A B : Prop} (h : B) (hi : Bx B → A := by (first | (intro hB; (with_reducible apply o_append); rfl; rfl; rfl; kernel_rfl; (repeat (first | with_reducible exact mh | with_reducible refine mt ?_)); (first | with_reducible assumption | exact bytR_length _ | exact intR_length _ | exact strR_length _ | exact List.length_map _ | assumption | rfl); (first | (show List.length _ = 1; rfl) | (show List.length _ = 2; rfl) | (show List.length _ = 0; rfl) | (show List.length _ = 3; rfl) | (first | with_reducible assumption | exact bytR_length _ | exact intR_length _ | exact strR_length _ | exact List.length_map _ | assumption | rfl)); omega; rfl; (intro bq; (repeat (first | with_reducible exact Upd.head _ | with_reducible apply Upd.tail))); exact hB.go) | fail)) : A := hi ⟨h⟩
theorem e_appq {A B : Prop} (h : B) (hi : Bx B → A := by (first | (intro hB; (with_reducible apply o_append_q); rfl; rfl; rfl; kernel_rfl; (repeat (first | with_reducible exact mh | with_reducible refine mt ?_)); (with_reducible assumption); (first | assumption | omega); (first | (show List.length _ = 1; rfl) | (show List.length _ = 2; rfl) | (show List.length _ = 0; rfl) | (show List.length _ = 3; rfl) | (first | with_reducible assumption | exact bytR_length _ | exact intR_length _ | exact strR_length _ | exact List.length_map _ | assumption | rfl)); omega; (intro bq pq; (repeat (first | with_reducible exact Upd.head _ | with_reducible apply Upd.tail))); exact hB.go) | fail)) : A := hi ⟨h⟩
theorem e_build {A B : Prop} (h : B) (hi : Bx B → A := by (first | (intro hB; (with_reducible apply o_build); rfl; rfl; (repeat (first | exact TB.nil _ | ((with_reducible apply TB.cons); rfl; rfl; (first | exact .nil _ | exact .put _ _ _ _ _ (.nil _) | exact .skip _ _ _ _ _ (.put _ _ _ _ _ (.nil _)) | exact .skip _ _ _ _ _ (.skip _ _ _ _ _ (.put _ _ _ _ _ (.nil _))) | (repeat (first | exact .nil _ | apply Splice.put | apply Splice.skip))); kernel_rfl))); kernel_rfl; kernel_rfl; exact hB.go) | fail)) : A := hi ⟨h⟩
theorem e_buildd {A B : Prop} (h : B) (hi : Bx B → A := by (first | (intro hB; (with_reducible apply d_build); rfl; rfl; (repeat (first | exact TB.nil _ | ((with_reducible apply TB.cons); rfl; rfl; (first | exact .nil _ | exact .put _ _ _ _ _ (.nil _) | exact .skip _ _ _ _ _ (.put _ _ _ _ _ (.nil _)) | exact .skip _ _ _ _ _ (.skip _ _ _ _ _ (.put _ _ _ _ _ (.nil _))) | (repeat (first | exact .nil _ | apply Splice.put | apply Splice.skip))); kernel_rfl))); kernel_rfl; kernel_rfl; exact hB.go) | fail)) : A := hi ⟨h⟩
theorem e_slms {A B : Prop} (h : B) (hi : Bx B → A := by (first | (intro hB; (with_reducible apply o_slice_ms); rfl; rfl; rfl; (repeat (first | with_reducible exact mh | with_reducible refine mt ?_)); kernel_rfl; kernel_rfl; kernel_rfl; (first | (with_reducible first | exact rfl | exact nat0 | exact nat1 | exact nat2 | exact nat3) | exact rfl | exact nat_sub (by omega) | omega); (first | assumption | omega); exact hB.go) | fail)) : A := hi ⟨h⟩
theorem e_slh {A B : Prop} (h : B) (hi : Bx B → A := by (first | (intro hB; (with_reducible apply o_slice_h_sl); rfl; rfl; rfl; kernel_rfl; kernel_rfl; (first | (with_reducible first | exact rfl | exact nat0 | exact nat1 | exact nat2 | exact nat3) | exact rfl | exact nat_sub (by omega) | omega); (first | assumption | omega); (first | (with_reducible assumption) | rfl); exact hB.go) | fail)) : A := hi ⟨h⟩
theorem e_slhd {A B : Prop} (h : B) (hi : Bx B → A := by (first | (intro hB; (with_reducible apply d_slice_h_sl); rfl; rfl; rfl; kernel_rfl; kernel_rfl; (first | (with_reducible first | exact rfl | exact nat0 | exact nat1 | exact nat2 | exact nat3) | exact rfl | exact nat_sub (by omega) | omega); (first | assumption | omega); (first | (with_reducible assumption) | rfl); exact hB.go) | fail)) : A := hi ⟨h⟩
theorem e_mkf {A B : Prop} (h : B) (hi : Bx B → A := by (first | (intro hB; (with_reducible apply o_makeFunc); rfl; (repeat (first | exact Evs.nil | ((with_reducible apply Evs.cons); rfl))); exact hB.go) | fail)) : A := hi ⟨h⟩
theorem we_ {A : Prop} (h : A := by (first | (first | rfl | exact lk_ms rfl (by first | omega | (simp; done) | (simp; omega)) | exact lk_int rfl (by simp [*]) | exact lk_bool rfl (by simp [*]) | exact lk_str rfl (by simp [*])) | fail)) : A := h
theorem pk_ {A : Prop} (h : A := by (first | ((try dsimp only); (repeat (first | with_reducible exact Pick.refl _ | with_reducible exact Pick.nil _ | (apply Pick.consE; (repeat (first | with_reducible exact DelS.head _ | with_reducible apply DelS.tail)); (first | with_reducible rfl | (focus (simp [intR, nts]; done)) | (focus (simp [intR, nts]; omega)) | rfl)) | ((fail_if_success (apply Pick.consE)); refine Pick.drop ?_)))) | fail)) : A := h
theorem nw_ {A : Prop} (h : A := by (first | (repeat (first | exact Weak.envNil | refine Weak.envCons (by first | rfl | exact lk_ms rfl (by first | omega | (simp; done) | (simp; omega)) | exact lk_int rfl (by simp [*]) | exact lk_bool rfl (by simp [*]) | exact lk_str rfl (by simp [*])) ?_)) | fail)) : A := h
theorem od_ {A : Prop} (h : A := by (first | (repeat (first | exact Weak.envNil | refine Weak.envCons rfl ?_)) | fail)) : A := h
theorem x_ {A : Prop} (h : A := by (first | (first | exact .inl rfl | exact .inr rfl) | fail)) : A := h
theorem mm_ {A : Prop} (h : A := by (first | ((repeat (first | with_reducible exact mh | with_reducible refine mt ?_))) | fail)) : A := h
theorem kp_ {A : Prop} (h : A := by (first | (repeat (first | exact Kept.nil | (apply Kept.cons; rfl))) | fail)) : A := h
section
variable {P : Program} {w0 : World} {G : World → Prop} {f : Nat} {args : List TV} {r : Nat → TV}
/-- A call that is handed on. -/
structure Cx (P : Program) (w0 : World) (G : World → Prop) (f : Nat) (args : List TV) (r : Nat → TV) (B : Prop) : Prop where
  hG : G w0
  hst : Stable G
  ct : Ct P G f args r
  go : B
theorem o_call2 {N : Nat} {Q : Exit → Act → World → Prop} {env : Env} {objs : Objs} {ops : Array Oper} {rest : List Oper} {d T0 : Nat} {pos : String} {af : Array Edge} {g : Option (Nat × Bool)} {xs : List Operand} {ts : Array TypeId} (hN : Nat.blt d N = true) (hc : callB P f = true) (hct : Ct P G f args r) (hargs : Args env objs xs args) (hG : G w0) (hst : Stable G) (h : AL P w0 N ops Q rest ((d, r w0.heap.size) :: env) objs) : AO P w0 N ops Q ⟨some d, .call { callee := .value (.func f), args := xs.toArray, argTypes := ts }, T0, pos, af, g⟩ rest env objs := o_call hN hc hargs hG hst hct h
theorem d_call2 {N : Nat} {K : Env → Prop} {env : Env} {objs : Objs} {ops : Array Oper} {rest : List Oper} {d T0 : Nat} {pos : String} {af : Array Edge} {g : Option (Nat × Bool)} {xs : List Operand} {ts : Array TypeId} (hN : Nat.blt d N = true) (hc : callB P f = true) (hct : Ct P G f args r) (hargs : Args env objs xs args) (hG : G w0) (hst : Stable G) (h : DR P w0 N ops objs K rest ((d, r w0.heap.size) :: env)) : DO P w0 N ops objs K ⟨some d, .call { callee := .value (.func f), args := xs.toArray, argTypes := ts }, T0, pos, af, g⟩ rest env := d_call hN hc hargs hG hst hct h
theorem e_call {A B : Prop} (hG : G w0) (hst : Stable G) (hct : Ct P G f args r) (h : B) (hi : Cx P w0 G f args r B → A := by (first | (intro hB; (with_reducible apply o_call2); rfl; kernel_rfl; exact (Cx.ct hB); ((repeat (first | exact Args.nil | ((with_reducible apply Args.cons); rfl; exact .same _)))); exact (Cx.hG hB); exact (Cx.hst hB); exact (Cx.go hB)) | fail)) : A := hi ⟨hG, hst, hct, h⟩
theorem e_calld {A B : Prop} (hG : G w0) (hst : Stable G) (hct : Ct P G f args r) (h : B) (hi : Cx P w0 G f args r B → A := by (first | (intro hB; (with_reducible apply d_call2); rfl; kernel_rfl; exact (Cx.ct hB); ((repeat (first | exact Args.nil | ((with_reducible apply Args.cons); rfl; exact .same _)))); exact (Cx.hG hB); exact (Cx.hst hB); exact (Cx.go hB)) | fail)) : A := hi ⟨hG, hst, hct, h⟩
theorem e_callv {A B : Prop} (hG : G w0) (hst : Stable G) (hct : Ct P G f args r) (h : B) (hi : Cx P w0 G f args r B → A := by (first | (intro hB; (with_reducible apply o_call2); rfl; kernel_rfl; exact (Cx.ct hB); ((repeat (first | exact Args.nil | ((with_reducible apply Args.cons); rfl; (first | with_reducible exact View.same _ | ((with_reducible apply View.msAll); (repeat (first | with_reducible exact mh | with_reducible refine mt ?_)); (first | with_reducible assumption | exact bytR_length _ | exact intR_length _ | exact strR_length _ | exact List.length_map _ | assumption | rfl)) | ((with_reducible apply view_code); (repeat (first | with_reducible exact mh | with_reducible refine mt ?_)); (first | with_reducible assumption | exact bytR_length _ | exact intR_length _ | exact strR_length _ | exact List.length_map _ | assumption | rfl))))))); exact (Cx.hG hB); exact (Cx.hst hB); exact (Cx.go hB)) | fail)) : A := hi ⟨hG, hst, hct, h⟩
end
end Go.Proofs.YthpdkhejeookhaaGreatDoor
/- The abstract walk, part 33: a row that is owned is forgotten from some place on. -/
namespace Go.Proofs.YthpdkhejeookhaaGreatDoor
open Go Go.RowKit
section
variable {P : Program} {w0 : World} {N : Nat} {Q : Exit → Act → World → Prop} {env : Env} {objs : Objs}
theorem take_flatten {rows : List (List TV)} {k j : Nat} {t : TV} (h : (rows.take k).flatten[j]? = some t) : rows.flatten[j]? = some t := by
  have e : rows.flatten = (rows.take k).flatten ++ (rows.drop k).flatten := by rw [← List.flatten_append, List.take_append_drop]
  rw [e, List.getElem?_append_left (List.getElem?_eq_some_iff.1 h).1]
  exact h
end
end Go.Proofs.YthpdkhejeookhaaGreatDoor
/- The abstract walk, part 34: the builtin clear on the end of a row that is owned; s[:j] of a row that is owned. -/
namespace Go.Proofs.YthpdkhejeookhaaGreatDoor
open Go Go.RowKit
section
variable {P : Program} {w0 : World} {N : Nat} {Q : Exit → Act → World → Prop} {env : Env} {objs objs' : Objs} {o : Oper}
theorem exec_clear {x : Operand} {T : TypeId} (ho : o.op = .call { callee := .builtin .clear, args := #[x], argTypes := #[T] }) {a : Act} {w w' : World} {v : Value} (h : (Builtin.clear_ #[T] o.type #[a.eval x]).run P w = .ok v w') :
    (execOp a.eval o).run P w = .ok (.value v) w' := by
  simp only [execOp, ho, resolve, Sem.run_bind, Sem.run_pure, Result.andThen_ok, invoke, builtin, List.map_toArray, List.map_cons, List.map_nil]
  rw [h]; rfl
theorem ao_clear {ops : Array Oper} {rest : List Oper} {T : TypeId} {x : Operand} {s b off len m : Nat} {zs : List TV} {rows rows' : List (List TV)} (ho : o.op = .call { callee := .builtin .clear, args := #[x], argTypes := #[T] }) (hd : o.dst = none) (hx : ev env x = some (.ms s b off len))
    (hT : P.underlying T = some (.slice (P.elem T))) (hz : zeroOk P (P.elem T) = some zs) (hzm : zs.length = m) (hle : off + len ≤ rows.length) (hrows : rows.take off = rows')
    (hu : Upd (s, b, .row m rows) (s, b, .row m rows') objs objs') (h : AL P w0 N ops Q rest env objs') : AO P w0 N ops Q o rest env objs := ⟨fun a w K hs hK => by
    subst hrows
    have hmem := hu.mem
    obtain ⟨⟨hm0, hci⟩, hm, hor⟩ := hs.mem.obj s b _ hmem
    have hxr := ev_sim hs hx
    generalize hax : a.eval x = ax at hxr
    have hmso := (rep_ms hxr).or m rows hmem
    obtain ⟨z, hzr, ⟨hzs, hzc⟩, hzt⟩ := zero_spec hz w
    have hpos : 0 < w.heap.size := Nat.lt_of_lt_of_le hs.mem.pos hs.mem.below.size
    have hmk : marker ≠ (s, b, TObj.row m (rows.take off)) := by simp only [marker, ne_eq, Prod.mk.injEq, TObj.row.injEq]; omega
    unfold Oper.wp
    by_cases h0 : len = 0
    · subst h0
      have hrun : (Builtin.clear_ #[T] o.type #[a.eval x]).run P w = .ok (.tuple #[]) w := by
        rw [hax]
        rcases hmso with ⟨_, _, _, rfl⟩ | ⟨_, q, c, e, n, rfl, _⟩ <;> simp [Builtin.clear_, run_underlying hT]
      rw [exec_clear ho hrun]
      refine hK _ _ ?_
      rw [hd]
      have hst := step_upd (m := m) hs.mem hu (w' := w) (Nat.le_refl _) (fun _ _ _ => rfl) (.inl rfl) (fun rows' _ => ⟨rows, rfl⟩) (fun m' rows' he => by simp only [TObj.row.injEq] at he; exact he.1.symm) (fun _ _ => rfl) hmk
      refine h.run _ _ (hs.same (hs.mem.upd hu hs.mem.below (fun _ _ _ => rfl) (.inl rfl) hst ⟨⟨hm0, fun t ht => ?_⟩, fun r hr => hm r (List.mem_of_mem_take hr), ?_⟩) hst)
      · obtain ⟨j, hj⟩ := List.getElem?_of_mem ht
        exact hci t (List.mem_of_getElem? (take_flatten hj))
      · rcases hor with ⟨e1, e2⟩ | ⟨e1, cur, e, cap, e2, e3, e4, e5, e6⟩
        · exact .inl ⟨e1, by rw [e2]; exact List.take_nil⟩
        · refine .inr ⟨e1, cur, e, cap, e2, e3, by rw [List.length_take]; omega, e5, fun j t hj => ?_⟩
          obtain ⟨v, v1, v2⟩ := e6 j t (take_flatten hj)
          exact ⟨v, v1, v2.step hst⟩
    · rcases hor with ⟨_, e2⟩ | ⟨hB, cur, e, cap, h2, h3, hcap, hmax, h4⟩
      · subst e2; simp at hle; omega
      rcases hmso with ⟨_, _, e3, _⟩ | ⟨hb0, q, c, e', n, rfl, hlc, _, _, hq⟩
      · omega
      have hq' := hq (.inl (by omega))
      subst hq'
      have hzl : (Builtin.zeroCells z.cells len).size = len * m := by rw [size_zeroCells, hzs, hzm]
      have hone : ∀ u ∈ (Builtin.zeroCells z.cells len).toList, u.oneCell' = true := fun u hu => by
        obtain ⟨j, hj, rfl⟩ := List.getElem_of_mem hu
        have hj' : j < len * m := by rw [← hzl]; simpa using hj
        have hjm : j % m < z.cells.size := by rw [hzs, hzm]; exact Nat.mod_lt _ hm0
        have hjz : j % m < zs.length := by rw [← hzs]; exact hjm
        have e1 : (Builtin.zeroCells z.cells len).toList[j] = z.cells[j % m] := by
          simp only [Builtin.zeroCells, Array.getElem_toList, Array.getElem_map, Array.getElem_range, hzs, hzm]
          exact getElem!_pos z.cells (j % m) hjm
        rw [e1]
        exact ((hzt w objs (j % m) zs[j % m] _ (List.getElem?_eq_getElem hjz) (Array.getElem?_eq_getElem hjm)).one (hzc _ (List.getElem_mem hjz))).1
      have hfit : off * m + len * m ≤ cur.size := by
        have : (off + len) * m ≤ cap * m := Nat.mul_le_mul_right _ (by omega)
        rw [Nat.add_mul] at this; omega
      have hsto := run_storeCells_at P b (off * m) e (Builtin.zeroCells z.cells len).toList 0 cur w h2 (by simp [hzl]; omega) hone
      have hrun : (Builtin.clear_ #[T] o.type #[a.eval x]).run P w = .ok (.tuple #[]) (w.setRow b (cur.toList.take (off * m) ++ (Builtin.zeroCells z.cells len).toList ++ cur.toList.drop (off * m + len * m)).toArray) := by
        rw [hax]
        obtain ⟨k, rfl⟩ : ∃ k, len = k + 1 := ⟨len - 1, by omega⟩
        simp only [Nat.add_zero, Array.length_toList, hzl] at hsto
        simp [Builtin.clear_, run_underlying hT, hzr, hsto]
      rw [exec_clear ho hrun]
      refine hK _ _ ?_
      rw [hd]
      generalize hW : cur.toList.take (off * m) ++ (Builtin.zeroCells z.cells len).toList ++ cur.toList.drop (off * m + len * m) = W at *
      have hWl : W.length = cur.size := by
        rw [← hW]
        simp only [List.length_append, List.length_take, List.length_drop, Array.length_toList, hzl]
        omega
      have hkk : ∀ i, i < w.heap.size → i ≠ b ∨ b = 0 → (w.setRow b W.toArray).heap[i]? = w.heap[i]? := fun i _ hi => setRow_other w b i _ (hi.resolve_right hb0)
      have hst := step_upd (m := m) hs.mem hu (w' := w.setRow b W.toArray) (by simp) hkk (.inl rfl) (fun rows' he => ⟨rows, rfl⟩) (fun m' rows' he => by simp only [TObj.row.injEq] at he; exact he.1.symm) (fun _ _ => by
        unfold World.shape?; rw [setRow_heap w b cur _ e _ h2, h2]; simp [hWl]) hmk
      refine h.run _ _ (hs.same (hs.mem.upd hu (setRow_below hs.mem.below hB _) hkk (.inl rfl) hst ⟨⟨hm0, fun t ht => ?_⟩, fun r hr => hm r (List.mem_of_mem_take hr), .inr ⟨hB, _, e, cap, setRow_heap w b cur _ e _ h2, by simp [hWl, h3], by rw [List.length_take]; omega, hmax, fun j t hj => ?_⟩⟩) hst)
      · obtain ⟨j, hj⟩ := List.getElem?_of_mem ht
        exact hci t (List.mem_of_getElem? (take_flatten hj))
      · obtain ⟨v, v1, v2⟩ := h4 j t (take_flatten hj)
        refine ⟨v, ?_, v2.step hst⟩
        have hjo : j < off * m := by
          have hjl := (List.getElem?_eq_some_iff.1 hj).1
          rw [flatten_take hm, List.length_take] at hjl
          omega
        rw [← hW]
        simp only [List.getElem?_toArray]
        rw [List.getElem?_append_left (by simp [hzl]; omega), List.getElem?_append_left (by simp; omega), List.getElem?_take, if_pos hjo]
        simpa using v1⟩
theorem o_clear {ops : Array Oper} {rest : List Oper} {T T0 : TypeId} {pos : String} {af : Array Edge} {g : Option (Nat × Bool)} {x : Operand} {s b off len m : Nat} {zs : List TV} {rows rows' : List (List TV)} (hx : ev env x = some (.ms s b off len)) (he : ezT T = zs)
    (hT : P.underlying T = some (.slice (P.elem T))) (hz : zeroOk P (P.elem T) = some zs) (hu : Upd (s, b, .row m rows) (s, b, .row m rows') objs objs') (hzm : zs.length = m) (hle : off + len ≤ rows.length) (hrows : rows.take off = rows')
    (h : AL P w0 N ops Q rest env objs') : AO P w0 N ops Q ⟨none, .call { callee := .builtin .clear, args := #[x], argTypes := #[T] }, T0, pos, af, g⟩ rest env objs := ao_clear rfl rfl hx hT hz hzm hle hrows hu h
theorem y_slice_h_ms {T : TypeId} {x hi : Operand} {s b off len m : Nat} {rows : List (List TV)} {k1 : IntKind} {n : Int} {j : Nat} (ho : o.op = .slice T x none (some hi) none) (hx : ev env x = some (.ms s b off len)) (hhi : ev env hi = some (.int k1 n))
    (hobj : (s, b, TObj.row m rows) ∈ objs) (hT : P.underlying T = some (.slice (P.elem T))) (hI : (P.info? (P.elem T)).isSome = true) (hn : n = (j : Int)) (hj : j ≤ len) :
    Yields P w0 env objs o (.ms s b off j) := yields_same fun a w hw hop => by
  have h0 := hop x (slice_opnd ho) _ hx
  have h1 := (hop hi (by simp [ho, Op.operands]) _ hhi).int_inv
  generalize hv : a.eval x = v at h0
  have hms := rep_ms h0
  have hor := hms.or
  obtain ⟨⟨hb, hmk, _⟩, _⟩ := hms
  cases hie : P.info? (P.elem T) with
  | none => rw [hie] at hI; cases hI
  | some ie =>
  rcases hor m rows hobj with ⟨e0, e1, e2, e3⟩ | ⟨hb0, q, c, e, nn, h2, h3, h4, h5, h6⟩
  · subst e0; subst e1; subst e2; subst e3
    obtain rfl : j = 0 := by omega
    refine ⟨.slice none 0 0, ?_, .ms s 0 0 0 _ (.mk ⟨hb, hmk, none, 0, by simp⟩ (fun _ _ _ => .inl ⟨rfl, rfl, rfl, rfl⟩) (fun _ => ⟨rfl, rfl, rfl⟩))⟩
    simp only [execOp, ho, h1, hv, Option.map_some, Option.map_none]
    refine exec_v ?_
    rw [run_sliceAt_slice w T _ _ _ _ hT, run_slice_h w T _ 0 0 hT k1 n (by omega) (by omega), run_sizeOf w hie]
    subst hn
    simp [Result.andThen_ok, sliced, Addr.add]
  · subst h2
    refine ⟨.slice (some ⟨b, q, none⟩) j c, ?_, .ms s b off j _ (.mk ⟨hb, hmk, _, _, rfl⟩ (fun m' rows' hm' => ?_) (fun h0 => absurd h0 hb0))⟩
    · simp only [execOp, ho, h1, hv, Option.map_some, Option.map_none]
      refine exec_v ?_
      rw [run_sliceAt_slice w T _ _ _ _ hT, run_slice_h w T _ len c hT k1 n (by omega) (by omega), run_sizeOf w hie]
      subst hn
      simp [Result.andThen_ok, sliced, Addr.add]
    · rcases hor m' rows' hm' with ⟨e0, _⟩ | ⟨_, q', c', e', nn', h2', h3', h4', h5', h6'⟩
      · exact absurd e0 hb0
      · simp only [Value.slice.injEq, Option.some.injEq, Addr.mk.injEq, true_and, and_true] at h2'
        obtain ⟨rfl, rfl⟩ := h2'
        exact .inr ⟨hb0, q, c, e', nn', rfl, by omega, h4', h5', h6'⟩
theorem o_slice_h_ms {ops : Array Oper} {rest : List Oper} {d T0 : Nat} {pos : String} {af : Array Edge} {g : Option (Nat × Bool)} {T : TypeId} {x hi : Operand} {s b off len m : Nat} {rows : List (List TV)} {k1 : IntKind} {n : Int} {j : Nat} (hN : Nat.blt d N = true) (hx : ev env x = some (.ms s b off len)) (hhi : ev env hi = some (.int k1 n))
    (hobj : (s, b, TObj.row m rows) ∈ objs) (hT : P.underlying T = some (.slice (P.elem T))) (hI : (P.info? (P.elem T)).isSome = true) (hn : n = (j : Int)) (hj : j ≤ len) (h : AL P w0 N ops Q rest ((d, .ms s b off j) :: env) objs) :
    AO P w0 N ops Q ⟨some d, .slice T x none (some hi) none, T0, pos, af, g⟩ rest env objs := ao_q rfl hN (y_slice_h_ms rfl hx hhi hobj hT hI hn hj) h
end
end Go.Proofs.YthpdkhejeookhaaGreatDoor
/- The abstract walk, part 21: a region that draws its order in which memory is made, again and again. -/
namespace Go.Proofs.YthpdkhejeookhaaGreatDoor
open Go Go.RowKit
/-- What a making of memory settles: where it lies. -/
inductive Yu where
  | no
  | one (a b : Nat)
  | many (l : List (Nat × Nat))
  | pair (x y : Yu)
def Pt : Type := Nat → Yu
def Pt.put (p : Pt) (i : Nat) (y : Yu) : Pt := fun j => if j = i then y else p j
theorem Pt.put_ne {p : Pt} {i j : Nat} {y : Yu} (h : j ≠ i) : p.put i y j = p j := if_neg h
theorem Pt.put_eq {p : Pt} {i : Nat} {y : Yu} : p.put i y i = y := if_pos rfl
/-- Operation m comes ahead of c in every order, or is c. -/
def Ahead (ops : Array Oper) (c m : Nat) : Prop := m = c ∨ (m < c ∧ ((Region.before ops).getD c 0).testBit m = true)
def IndT {α : Type} (ops : Array Oper) (c : Nat) (T : Pt → α) : Prop := ∀ p p' : Pt, (∀ m, Ahead ops c m → p m = p' m) → T p = T p'
/-- An operation that makes memory: from what it consumes (C) it gives new objects, whatever else is owned. -/
def MkW (P : Program) (w0 : World) (env : Env) (o : Oper) (C R : Objs) (I : Yu → Prop) (O : Yu → Objs) (T : Yu → TV) : Prop :=
  ∀ (a : Act) (w : World) (K : Act → World → Prop) (Q : Exit → Act → World → Prop), SimW w0 (C ++ R) w → (∀ x ∈ o.op.operands.toList, ∀ v, ev env x = some v → Rep w (C ++ R) v (a.eval x)) →
    (∀ y v w', I y → SimW w0 (O y ++ R) w' → Step w (C ++ R) w' (O y ++ R) → Rep w' (O y ++ R) (T y) v → K (a.put o.dst v) w') → o.wp P a w K Q
/-- The makers of a region: what each gives, what it consumes, what is known then. -/
structure Mks where
  on : Nat → Bool
  O : Nat → Pt → Objs
  src : Nat → Option Nat
  I : Nat → Yu → Prop
def Mks.cons (M : Mks) (c : Nat) (p : Pt) : Objs := match M.src c with
  | some i => M.O i p
  | none => []
section
variable {P : Program} {w0 : World} {N : Nat} {Q : Exit → Act → World → Prop} {objs : Objs} {ops : Array Oper}
/-- What is known of the region's operation c. -/
def OpM (P : Program) (w0 : World) (N : Nat) (ops : Array Oper) (objs : Objs) (M : Mks) (σ : Pt → Nat → Env) (c : Nat) (o : Oper) : Prop :=
  ∃ d T, o.dst = some d ∧ d < N ∧ o.guard = none ∧ (∀ p t, lk t (σ p (c + 1)) = lk t ((d, T p) :: σ p c)) ∧ IndT ops c T ∧
    ((M.on c = false ∧ M.src c = none ∧ ∀ p R, (∀ x ∈ objs, x ∈ R) → Yields P w0 (σ p c) R o (T p)) ∨
     (M.on c = true ∧ IndT ops c (M.O c) ∧ (∀ i, M.src c = some i → i ≠ c ∧ (i < ops.size → Ahead ops c i) ∧ M.on i = true) ∧
       ∀ p R, (∀ x ∈ objs, x ∈ R) → MkW P w0 (σ p c) o (M.cons c p) R (M.I c) (fun y => M.O c (p.put c y)) (fun y => T (p.put c y))))
/-- A chain of environments. -/
def Chain (N : Nat) (ops : Array Oper) (k : Nat) (σ : Nat → Env) : Prop := ∀ i o, i < k → ops[i]? = some o → ∃ d tv, o.dst = some d ∧ d < N ∧ ∀ t, lk t (σ (i + 1)) = lk t ((d, tv) :: σ i)
theorem jy_stepC {objs' : Objs} (hok : drawOk ops = true) {k : Nat} (hk : k ≤ ops.size) {σ : Nat → Env} {X : Nat → Prop} {a : Act} {w w' : World} (hJ : JY w0 N ops objs σ k X a w) (hX : Closed ops X) {i d : Nat} {o : Oper} {tv : TV} {v : Value} (hi : ops[i]? = some o) (hik : i < k) (hni : ¬ X i) (hd : o.dst = some d) (hdN : d < N)
    (hσ : Chain N ops k σ) (hσi : ∀ t, lk t (σ (i + 1)) = lk t ((d, tv) :: σ i)) (hr : Rep w' objs' tv v) (hw : SimW w0 objs' w') (hst : Step w objs w' objs') : JY w0 N ops objs' σ k (fun k => k = i ∨ X k) (a.put (some d) v) w' := by
  refine ⟨hJ.defers, by simp [Act.put, hJ.size], hw, fun t c hc h1 h2 u hu => ?_⟩
  show Rep w' objs' u ((a.tmps.setIfInBounds d v).getD t undef)
  rw [getD_set (by rw [hJ.size]; exact hdN)]
  by_cases hdt : d = t
  · subst hdt
    rw [if_pos rfl]
    have hwi : Writes ops i d := by unfold Writes; rw [hi]; exact hd
    have hic : i < c := Nat.lt_of_not_le fun h => h2 i h hik hwi (.inl rfl)
    have hlast : ∀ m, i + 1 ≤ m → m ≤ c → lk d (σ m) = some tv := fun m => by
      induction m with
      | zero => intro h; omega
      | succ m ih =>
        intro hm1 hm2
        rcases Nat.eq_or_lt_of_le hm1 with h | h
        · have : m = i := by omega
          subst this; rw [hσi, lk_cons, if_pos rfl]
        · have hm : m < ops.size := by omega
          have hom : ops[m]? = some ops[m] := by simp [hm]
          obtain ⟨dm, tm, e1, _, e2⟩ := hσ m _ (by omega) hom
          rw [e2, lk_cons, if_neg]
          · exact ih (by omega) (by omega)
          · intro e
            subst e
            have hwm : Writes ops m dm := by unfold Writes; rw [hom]; exact e1
            rcases h1 m (by omega) hwm with h3 | h3
            · omega
            · exact hni (apart_or hok hi hom (by omega) (not_apart_both hd e1) hX h3)
    rw [hlast c hic (Nat.le_refl _)] at hu
    simp only [Option.some.injEq] at hu
    subst hu; exact hr
  · rw [if_neg hdt]
    refine (hJ.cut t c hc (fun m hm hwm => ?_) (fun m hm hmk hwm hx => h2 m hm hmk hwm (.inr hx)) u hu).step hst
    rcases h1 m hm hwm with h3 | h3
    · subst h3
      unfold Writes at hwm
      rw [hi] at hwm
      simp only [Option.bind_some, hd, Option.some.injEq] at hwm
      exact absurd hwm hdt
    · exact h3
theorem JY.pick {objs' : Objs} {σ : Nat → Env} {k : Nat} {X : Nat → Prop} {a : Act} {w : World} (h : JY w0 N ops objs σ k X a w) (hp : Pick objs' objs) : JY w0 N ops objs' σ k X a w :=
  ⟨h.defers, h.size, h.mem.sub hp, fun t c hc h1 h2 v hv => (h.cut t c hc h1 h2 v hv).step (step_sub hp w)⟩
/-- What is executed does not look at what is not. -/
theorem sigma_put (hok : drawOk ops = true) {k : Nat} (hk : k ≤ ops.size) {M : Mks} {σ : Pt → Nat → Env} (h0 : ∀ p p' t, lk t (σ p 0) = lk t (σ p' 0)) (hop : ∀ c o, c < k → ops[c]? = some o → OpM P w0 N ops objs M σ c o) {X : Nat → Prop} (hX : Closed ops X) {i : Nat} (hni : ¬ X i) (p : Pt) (y : Yu) (t : Nat) : ∀ c, c ≤ k → (∀ m, m < c → Writes ops m t → X m) → lk t (σ (p.put i y) c) = lk t (σ p c)
  | 0, _, _ => h0 _ _ _
  | c + 1, hc, hw => by
    have hcs : c < ops.size := by omega
    have hoc : ops[c]? = some ops[c] := by simp [hcs]
    obtain ⟨d, T, hd, _, _, hs, hT, _⟩ := hop c _ (by omega) hoc
    rw [hs, hs, lk_cons, lk_cons]
    split
    · rename_i hdt
      have hXc : X c := hw c (Nat.lt_succ_self c) (by unfold Writes; rw [hoc]; exact hdt ▸ hd)
      rw [hT (p.put i y) p fun m hm => Pt.put_ne fun e => ?_]
      subst e
      rcases hm with h | ⟨h1, h2⟩
      · exact hni (h ▸ hXc)
      · exact hni (closed_reach hok hX c hcs hXc m h1 h2)
    · exact sigma_put hok hk h0 hop hX hni p y t c (by omega) fun m hm => hw m (by omega)
theorem JY.put (hok : drawOk ops = true) {k : Nat} (hk : k ≤ ops.size) {M : Mks} {σ : Pt → Nat → Env} (h0 : ∀ p p' t, lk t (σ p 0) = lk t (σ p' 0)) (hop : ∀ c o, c < k → ops[c]? = some o → OpM P w0 N ops objs M σ c o) {X : Nat → Prop} (hX : Closed ops X) {i : Nat} (hni : ¬ X i) {p : Pt} (y : Yu) {objs' : Objs} {a : Act} {w : World} (h : JY w0 N ops objs' (σ p) k X a w) : JY w0 N ops objs' (σ (p.put i y)) k X a w :=
  ⟨h.defers, h.size, h.mem, fun t c hc h1 h2 v hv => by
    rw [sigma_put hok hk h0 hop hX hni p y t c hc h1] at hv
    exact h.cut t c hc h1 h2 v hv⟩
/-- The objects that the makers among X gave (or that were there before: places behind the region's) and that none of X consumed. -/
def Live (M : Mks) (n k : Nat) (X : Nat → Prop) (i : Nat) : Prop := (i < n → X i) ∧ M.on i = true ∧ ∀ c, c < k → M.src c = some i → ¬ X c
def MO (M : Mks) (objs : Objs) (n k : Nat) (X : Nat → Prop) (p : Pt) (objs' : Objs) : Prop := ∃ l : List Nat, l.Nodup ∧ (∀ i, i ∈ l ↔ Live M n k X i) ∧ objs' = l.flatMap (fun i => M.O i p) ++ objs
theorem MO.sub {M : Mks} {n k : Nat} {X : Nat → Prop} {p : Pt} {objs' : Objs} (h : MO M objs n k X p objs') : ∀ x ∈ objs, x ∈ objs' := fun x hx => by
  obtain ⟨l, _, _, rfl⟩ := h
  exact List.mem_append_right _ hx
/-- The state of the region when X has been carried out. -/
def JM (w0 : World) (N : Nat) (ops : Array Oper) (objs : Objs) (M : Mks) (σ : Pt → Nat → Env) (k : Nat) (X : Nat → Prop) (a : Act) (w : World) : Prop :=
  ∃ p objs', MO M objs ops.size k X p objs' ∧ JY w0 N ops objs' (σ p) k X a w ∧ ∀ i, i < k → X i → M.on i = true → M.I i (p i)
theorem JM.congr {M : Mks} {σ : Pt → Nat → Env} {k : Nat} {X Y : Nat → Prop} {a : Act} {w : World} (h : JM w0 N ops objs M σ k X a w) (hXY : ∀ i, Y i ↔ X i) : JM w0 N ops objs M σ k Y a w := by
  have : Y = X := funext fun i => propext (hXY i)
  rw [this]; exact h
theorem chain_of {M : Mks} {k : Nat} {σ : Pt → Nat → Env} (hop : ∀ c o, c < k → ops[c]? = some o → OpM P w0 N ops objs M σ c o) (p : Pt) : Chain N ops k (σ p) := fun i o hi ho => by
  obtain ⟨d, T, h1, h2, _, h3, _⟩ := hop i o hi ho
  exact ⟨d, T p, h1, h2, h3 p⟩
/-- One operation of many, in whatever order. -/
theorem jm_op (hok : drawOk ops = true) {k : Nat} (hk : k ≤ ops.size) {M : Mks} {σ : Pt → Nat → Env} (h0 : ∀ p p' t, lk t (σ p 0) = lk t (σ p' 0)) (hop : ∀ c o, c < k → ops[c]? = some o → OpM P w0 N ops objs M σ c o) (hinj : ∀ c c' i, c < k → c' < k → M.src c = some i → M.src c' = some i → c = c') (hps : ∀ j, ¬ j < ops.size → ∀ p p', M.O j p = M.O j p')
    {X : Nat → Prop} {a : Act} {w : World} (hJ : JM w0 N ops objs M σ k X a w) (hX : Closed ops X) (hXk : ∀ i, X i → i < k) {i : Nat} {o : Oper} (ho : ops[i]? = some o) (hik : i < k) (hni : ¬ X i) (hX' : Closed ops fun k => k = i ∨ X k)
    {K : Act → World → Prop} (hnext : ∀ a' w', JM w0 N ops objs M σ k (fun k => k = i ∨ X k) a' w' → K a' w') : wpOp P ops Q i K a w := by
  obtain ⟨p, objs', hMO, hJY, hI⟩ := hJ
  obtain ⟨d, T, hd, hdN, hg, hs, hT, hcase⟩ := hop i o hik ho
  have hiz : i < ops.size := by omega
  have hread : ∀ {objs2 : Objs} (_ : JY w0 N ops objs2 (σ p) k X a w) (x : Operand), x ∈ o.op.operands.toList → ∀ v, ev (σ p i) x = some v → Rep w objs2 v (a.eval x) := fun hJ2 x hx v hv => by
    cases x with
    | tmp t =>
      have hl : t ∈ o.looksAt ops := by
        unfold Oper.looksAt
        exact List.mem_append_left _ (List.mem_filterMap.2 ⟨.tmp t, hx, rfl⟩)
      exact jy_read hok hk hJ2 hX hXk ho hik hni hX' hl hv
    | const u => exact tvOf_rep hv
    | func f => simp only [ev, Option.some.injEq] at hv; subst hv; exact .fn f [] #[] rfl (by simp)
    | global g => cases hv
  have hw : Region.wanted o (yielded ops a.tmps) = true := by simp [Region.wanted, hg]
  unfold wpOp
  rw [ho]
  simp only [hw, if_true]
  have hbef : ∀ m, Ahead ops i m → m ≠ i → X m := fun m hm hne => by
    rcases hm with h | ⟨h1, h2⟩
    · exact absurd h hne
    · rcases closed_reach hok hX' i hiz (.inl rfl) m h1 h2 with h | h
      · exact absurd h hne
      · exact h
  have hnb : ∀ c, X c → ¬ Ahead ops c i := fun c hc hm => by
    rcases hm with h | ⟨h1, h2⟩
    · exact hni (h ▸ hc)
    · exact hni (closed_reach hok hX c (Nat.lt_of_lt_of_le (hXk c hc) hk) hc i h1 h2)
  rcases hcase with ⟨hmk, hsrc, hy⟩ | ⟨hmk, hO, hsrc, hmake⟩
  · refine .inl (hy p objs' hMO.sub a w _ Q hJY.mem (hread hJY) fun v w' hr hsw hst => ?_)
    rw [hd]
    refine hnext _ _ ⟨p, objs', ?_, jy_stepC hok hk hJY hX ho hik hni hd hdN (chain_of hop p) (hs p) hr hsw hst, fun j hj hx hm => ?_⟩
    · obtain ⟨l, h1, h2, h3⟩ := hMO
      refine ⟨l, h1, fun j => (h2 j).trans ?_, h3⟩
      unfold Live
      constructor
      · rintro ⟨e2, e3, e4⟩
        refine ⟨fun h => .inr (e2 h), e3, fun c hc hsc hx => ?_⟩
        rcases hx with rfl | hx
        · rw [hsrc] at hsc; cases hsc
        · exact e4 c hc hsc hx
      · rintro ⟨e2, e3, e4⟩
        exact ⟨fun h => (e2 h).resolve_left fun e => (by subst e; rw [hmk] at e3; cases e3), e3, fun c hc hsc hx => e4 c hc hsc (.inr hx)⟩
    · rcases hx with rfl | hx
      · rw [hmk] at hm; cases hm
      · exact hI j hj hx hm
  · obtain ⟨l, hnd, hl, rfl⟩ := hMO
    -- what stays
    have hstay : ∃ l2 : List Nat, l2.Nodup ∧ (∀ j, j ∈ l2 ↔ Live M ops.size k X j ∧ M.src i ≠ some j) ∧ (l.flatMap (fun i => M.O i p)).Perm (M.cons i p ++ l2.flatMap fun i => M.O i p) := by
      unfold Mks.cons
      cases hsc : M.src i with
      | none => exact ⟨l, hnd, fun j => by rw [hl]; simp, .refl _⟩
      | some s =>
        obtain ⟨hne, hah, hms⟩ := hsrc s hsc
        have hsl : s ∈ l := (hl s).2 ⟨fun h => hbef s (hah h) hne, hms, fun c hc hc2 hx => hni (hinj c i s hc hik hc2 hsc ▸ hx)⟩
        refine ⟨l.erase s, hnd.erase s, fun j => ?_, ?_⟩
        · rw [hnd.mem_erase_iff, hl]
          constructor
          · rintro ⟨e1, e2⟩; exact ⟨e2, fun h => e1 (Option.some.inj h).symm⟩
          · rintro ⟨e1, e2⟩; exact ⟨fun h => e2 (by rw [h]), e1⟩
        · have := (List.perm_cons_erase hsl).flatMap_right fun i => M.O i p
          rwa [List.flatMap_cons] at this
    obtain ⟨l2, hnd2, hl2, hperm⟩ := hstay
    have hpk : Pick (M.cons i p ++ (l2.flatMap (fun i => M.O i p) ++ objs)) (l.flatMap (fun i => M.O i p) ++ objs) := .perm (by
      rw [← List.append_assoc]
      exact (hperm.append_right objs).symm)
    have hJ2 := hJY.pick hpk
    refine .inl (hmake p (l2.flatMap (fun i => M.O i p) ++ objs) (fun x hx => List.mem_append_right _ hx) a w _ Q hJ2.mem (hread hJ2) fun y v w' hIy hsw hst hr => ?_)
    rw [hd]
    have heq : l2.flatMap (fun j => M.O j (p.put i y)) = l2.flatMap fun j => M.O j p := by
      have : ∀ l3 : List Nat, (∀ j ∈ l3, j ∈ l2) → l3.flatMap (fun j => M.O j (p.put i y)) = l3.flatMap fun j => M.O j p := fun l3 => by
        induction l3 with
        | nil => intro _; rfl
        | cons j r ih =>
          intro h
          have hlj := ((hl2 j).1 (h j List.mem_cons_self)).1
          rw [List.flatMap_cons, List.flatMap_cons, ih fun x hx => h x (List.mem_cons_of_mem _ hx)]
          by_cases hjs : j < ops.size
          · have hoj : ops[j]? = some ops[j] := by simp [hjs]
            have hXj := hlj.1 hjs
            obtain ⟨_, _, _, _, _, _, _, hcj⟩ := hop j _ (hXk j hXj) hoj
            have hOj : IndT ops j (M.O j) := by
              rcases hcj with ⟨e, _⟩ | ⟨_, e, _⟩
              · rw [hlj.2.1] at e; cases e
              · exact e
            rw [hOj (p.put i y) p fun m hm => Pt.put_ne fun e => hnb j hXj (e ▸ hm)]
          · rw [hps j hjs (p.put i y) p]
      exact this l2 fun _ h => h
    refine hnext _ _ ⟨p.put i y, M.O i (p.put i y) ++ (l2.flatMap (fun i => M.O i p) ++ objs), ?_, jy_stepC hok hk (hJ2.put hok hk h0 hop hX hni y) hX ho hik hni hd hdN (chain_of hop _) (hs _) hr hsw hst, fun j hj hx hm => ?_⟩
    · refine ⟨i :: l2, List.nodup_cons.2 ⟨fun h => hni (((hl2 i).1 h).1.1 hiz), hnd2⟩, fun j => ?_, by rw [List.flatMap_cons, heq, List.append_assoc]⟩
      rw [List.mem_cons, hl2]
      unfold Live
      constructor
      · rintro (rfl | ⟨⟨e2, e3, e4⟩, e5⟩)
        · refine ⟨fun _ => .inl rfl, hmk, fun c hc hsc hx => ?_⟩
          have hcs : c < ops.size := by omega
          have hoc : ops[c]? = some ops[c] := by simp [hcs]
          obtain ⟨_, _, _, _, _, _, _, hcc⟩ := hop c _ hc hoc
          rcases hcc with ⟨_, e, _⟩ | ⟨_, _, e, _⟩
          · rw [hsc] at e; cases e
          · obtain ⟨e1, e2, _⟩ := e j hsc
            rcases hx with rfl | hx
            · exact e1 rfl
            · exact hnb c hx (e2 hiz)
        · refine ⟨fun h => .inr (e2 h), e3, fun c hc hsc hx => ?_⟩
          rcases hx with rfl | hx
          · exact e5 hsc
          · exact e4 c hc hsc hx
      · rintro ⟨e2, e3, e4⟩
        by_cases hji : j = i
        · exact .inl hji
        · exact .inr ⟨⟨fun h => (e2 h).resolve_left hji, e3, fun c hc hsc hx => e4 c hc hsc (.inr hx)⟩, fun h => e4 i hik h (.inl rfl)⟩
    · rcases hx with rfl | hx
      · rw [Pt.put_eq]; exact hIy
      · rw [Pt.put_ne (fun e : j = i => hni (e ▸ hx))]
        exact hI j hj hx hm
theorem jm_start (hok : drawOk ops = true) {k : Nat} (hk : k ≤ ops.size) (htl : tailOk ops k = true) {M : Mks} {σ : Pt → Nat → Env} (hop : ∀ c o, c < k → ops[c]? = some o → OpM P w0 N ops objs M σ c o) {ms : List Nat} (hms : ms.Nodup) (hmem : ∀ i, i ∈ ms ↔ Live M ops.size k (· < k) i)
    (hQ : ∀ p : Pt, (∀ i, i < k → M.on i = true → M.I i (p i)) → AL P w0 N ops Q (ops.toList.drop k) (σ p k) (ms.flatMap (fun i => M.O i p) ++ objs)) {fuel : Nat} {listed : Array Bool} {a : Act} {w : World} (hsz : listed.size = ops.size) (hun : unlisted listed ≤ fuel) (hXk : ∀ i, listed.getD i false = true → i < k)
    (hall : ∀ j, j < k → listed.getD j false = true) (hJ : JM w0 N ops objs M σ k (fun i => listed.getD i false = true) a w) : wpAny P .any ops Q fuel listed a w := by
  obtain ⟨p, objs', ⟨l, hnd, hl, rfl⟩, hJY, hI⟩ := hJ
  have hp : ms.Perm l := (List.perm_ext_iff_of_nodup hms hnd).2 fun i => by
    rw [hmem, hl]
    unfold Live
    exact ⟨fun ⟨e2, e3, e4⟩ => ⟨fun h => hall i (e2 h), e3, fun c hc hs _ => e4 c hc hs hc⟩, fun ⟨e2, e3, e4⟩ => ⟨fun h => hXk i (e2 h), e3, fun c hc hs _ => e4 c hc hs (hall c hc)⟩⟩
  exact seq_start hok hk htl (hQ p fun i hi hm => hI i hi (hall i hi) hm) hsz hun hXk hall (hJY.pick (.perm ((hp.flatMap_right fun i => M.O i p).append_right objs)))
theorem any_of_jm (hok : drawOk ops = true) {k : Nat} (hk : k ≤ ops.size) (htl : tailOk ops k = true) {M : Mks} {σ : Pt → Nat → Env} (hz : ∀ p p' t, lk t (σ p 0) = lk t (σ p' 0)) (hop : ∀ c o, c < k → ops[c]? = some o → OpM P w0 N ops objs M σ c o) (hinj : ∀ c c' i, c < k → c' < k → M.src c = some i → M.src c' = some i → c = c') (hps : ∀ j, ¬ j < ops.size → ∀ p p', M.O j p = M.O j p')
    {ms : List Nat} (hms : ms.Nodup) (hmem : ∀ i, i ∈ ms ↔ Live M ops.size k (· < k) i) (hQ : ∀ p : Pt, (∀ i, i < k → M.on i = true → M.I i (p i)) → AL P w0 N ops Q (ops.toList.drop k) (σ p k) (ms.flatMap (fun i => M.O i p) ++ objs)) :
    ∀ (fuel : Nat) (listed : Array Bool) (a : Act) (w : World), listed.size = ops.size → unlisted listed ≤ fuel → (∀ i, listed.getD i false = true → i < k) → Closed ops (fun i => listed.getD i false = true) → JM w0 N ops objs M σ k (fun i => listed.getD i false = true) a w → wpAny P .any ops Q fuel listed a w := by
  intro fuel
  induction fuel with
  | zero =>
    intro listed a w hsz hun hXk hX hJ
    by_cases hall : ∀ j, j < k → listed.getD j false = true
    · exact jm_start hok hk htl hop hms hmem hQ hsz hun hXk hall hJ
    · exfalso
      apply hall
      intro j hj
      cases hb : listed.getD j false with
      | true => rfl
      | false =>
        exfalso
        have hjl : j < listed.size := by omega
        have : listed[j] ∈ listed.toList.filter (! ·) := List.mem_filter.2 ⟨by simp, by
          simp only [Array.getD_eq_getD_getElem?, Array.getElem?_eq_getElem hjl, Option.getD_some] at hb; simp [hb]⟩
        have := List.length_pos_of_mem this
        unfold unlisted at hun; omega
  | succ fuel ih =>
    intro listed a w hsz hun hXk hX hJ
    by_cases hall : ∀ j, j < k → listed.getD j false = true
    · exact jm_start hok hk htl hop hms hmem hQ hsz hun hXk hall hJ
    have hsome : ∃ j, j < k ∧ ¬ listed.getD j false = true := by
      refine Classical.byContradiction fun hn => hall fun j hj => Classical.byContradiction fun h => hn ⟨j, hj, h⟩
    refine ⟨fun hr => ?_, fun i hi => ?_⟩
    · exfalso
      have hall2 : ∀ j, j < ops.size → listed.getD j false = true := by
        intro j
        induction j using Nat.strongRecOn with
        | _ j ih =>
          intro hj
          cases hb : listed.getD j false with
          | true => rfl
          | false =>
            have hoj : ops[j]? = some ops[j] := by simp [hj]
            have hmem : j ∈ Region.ready .any ops listed := mem_ready.2 ⟨by
              have hjl : j < listed.size := by omega
              simp only [Array.getD_eq_getD_getElem?, Array.getElem?_eq_getElem hjl, Option.getD_some] at hb ⊢; exact hb, _, hoj, fun e he hbd => ih e.on ((drawOk_spec hok hoj).1 e he hbd) (Nat.lt_trans ((drawOk_spec hok hoj).1 e he hbd) hj)⟩
            rw [hr] at hmem; cases hmem
      obtain ⟨j, hj, hnj⟩ := hsome
      exact hnj (hall2 j (by omega))
    · obtain ⟨h0, o, ho, hed⟩ := mem_ready.1 hi
      have hisz : i < ops.size := (Array.getElem?_eq_some_iff.1 ho).1
      have hil : i < listed.size := by rw [hsz]; exact hisz
      have h0' : listed[i] = false := by simpa [Array.getD_eq_getD_getElem?, hil] using h0
      have hni : ¬ listed.getD i false = true := by simp [hil, h0']
      have hXeq : ∀ k, (listed.setIfInBounds i true).getD k false = true ↔ (k = i ∨ listed.getD k false = true) := fun k => by
        by_cases hk : k = i
        · subst hk; simp [hil]
        · rw [getD_set_ne false (Ne.symm hk)]; simp [hk]
      have hX' : Closed ops fun k => k = i ∨ listed.getD k false = true := fun j oj hj hx e he hb => by
        rcases hx with rfl | hx
        · rw [hj] at ho; cases ho; exact .inr (hed e he hb)
        · exact .inr (hX j oj hj hx e he hb)
      have hik : i < k := Nat.lt_of_not_le fun hge => by
        obtain ⟨j, hj, hnj⟩ := hsome
        have := closed_reach hok hX' i hisz (.inl rfl) j (by omega) (tailOk_spec htl hisz hge (by omega))
        rcases this with h | h
        · omega
        · exact hnj h
      have hXs : Closed ops fun k => (listed.setIfInBounds i true).getD k false = true := fun j oj hj hx e he hb => (hXeq _).2 (hX' j oj hj ((hXeq _).1 hx) e he hb)
      have hun' : unlisted (listed.setIfInBounds i true) ≤ fuel := by
        have key : ∀ (l : List Bool) (i : Nat), l[i]? = some false → ((l.set i true).filter (! ·)).length + 1 = (l.filter (! ·)).length := fun l => by
          induction l with
          | nil => intro i h; simp at h
          | cons x l ih =>
            intro i h
            cases i with
            | zero => simp at h; subst h; simp
            | succ i =>
              have := ih i (by simpa using h)
              cases x <;> simp [List.filter_cons] at this ⊢ <;> omega
        have := key listed.toList i (by simp [hil, h0'])
        unfold unlisted at hun ⊢
        simp only [Array.toList_setIfInBounds]
        omega
      have hnext : ∀ a' w', JM w0 N ops objs M σ k (fun k => k = i ∨ listed.getD k false = true) a' w' → wpAny P .any ops Q fuel (listed.setIfInBounds i true) a' w' := fun a' w' hJ' =>
        ih _ a' w' (by simpa using hsz) hun' (fun j hj => ((hXeq j).1 hj).elim (fun e => e ▸ hik) (hXk j)) hXs (hJ'.congr hXeq)
      exact jm_op hok hk hz hop hinj hps hJ hX hXk ho hik hni hX' hnext
end
end Go.Proofs.YthpdkhejeookhaaGreatDoor
/- The abstract walk, part 22: a region that draws its order in which memory is made: the rules. -/
namespace Go.Proofs.YthpdkhejeookhaaGreatDoor
open Go Go.RowKit
def pt0 : Pt := fun _ => .no
structure Mki where
  idx : Nat
  O : Pt → Objs
  src : Option Nat
  I : Yu → Prop
def fnd (L : List Mki) (i : Nat) : Option Mki := L.find? fun m => Nat.beq m.idx i
def Mks.of (L : List Mki) : Mks where
  on i := (fnd L i).isSome
  O i p := match fnd L i with | some m => m.O p | none => []
  src i := (fnd L i).bind (·.src)
  I i y := match fnd L i with | some m => m.I y | none => True
def srcO (L : List Mki) (src : Option Nat) (p : Pt) : Objs := match src with
  | some i => (Mks.of L).O i p
  | none => []
def liveL (L : List Mki) : List Mki := L.filter fun m => L.all fun m' => !(match m'.src with | some i => Nat.beq i m.idx | none => false)
structure MWf (L : List Mki) (c : Nat) : Prop where
  lt : ∀ m ∈ L, m.idx < c ∨ 1000000 ≤ m.idx
  pw : L.Pairwise fun a b => a.idx ≠ b.idx ∧ ∀ i, a.src = some i → b.src ≠ some i
theorem fnd_none {L : List Mki} {i : Nat} (h : ∀ m ∈ L, m.idx ≠ i) : fnd L i = none := List.find?_eq_none.2 fun m hm => by
  rw [beq_f (h m hm)]; decide
theorem fnd_new {new L : List Mki} {c i : Nat} (hn : ∀ m ∈ new, c ≤ m.idx ∧ m.idx < 1000000) (hi : i < c ∨ 1000000 ≤ i) : fnd (new ++ L) i = fnd L i := by
  unfold fnd
  rw [List.find?_append]
  have : new.find? (fun m => Nat.beq m.idx i) = none := fnd_none fun m hm => by have := hn m hm; omega
  rw [this]; rfl
theorem fnd_mem {L : List Mki} {i : Nat} {m : Mki} (h : fnd L i = some m) : m ∈ L ∧ m.idx = i := ⟨List.mem_of_find?_eq_some h, by
  have := List.find?_some h
  exact Nat.eq_of_beq_eq_true this⟩
theorem fnd_of {L : List Mki} {c : Nat} (h : MWf L c) {m : Mki} (hm : m ∈ L) : fnd L m.idx = some m := by
  have hp := h.pw
  clear h
  induction L with
  | nil => cases hm
  | cons x r ih =>
    obtain ⟨h1, h2⟩ := List.pairwise_cons.1 hp
    unfold fnd
    rw [List.find?_cons]
    rcases List.mem_cons.1 hm with rfl | hm
    · have : Nat.beq m.idx m.idx = true := Nat.beq_refl _
      simp only [this]
    · have hne : x.idx ≠ m.idx := (h1 m hm).1
      simp only [beq_f hne]
      exact ih hm h2
section
variable {P : Program} {w0 : World} {N : Nat} {Q : Exit → Act → World → Prop} {objs : Objs} {ops : Array Oper}
inductive DM (P : Program) (w0 : World) (N : Nat) (ops : Array Oper) (objs : Objs) (K : List Mki → (Pt → Env) → Prop) : Nat → List Mki → List Oper → (Pt → Env) → Prop
  | nil (c : Nat) (L : List Mki) (E : Pt → Env) (h : K L E) : DM P w0 N ops objs K c L [] E
  | run (c : Nat) (L : List Mki) (o : Oper) (rest : List Oper) (E : Pt → Env) (d : Nat) (T : Pt → TV) (hd : o.dst = some d) (hN : Nat.blt d N = true) (hg : o.guard = none) (hi : IndT ops c T) (hy : ∀ p R, (∀ x ∈ objs, x ∈ R) → Yields P w0 (E p) R o (T p))
      (h : DM P w0 N ops objs K (c + 1) L rest (fun p => (d, T p) :: E p)) : DM P w0 N ops objs K c L (o :: rest) E
  | make (c : Nat) (L : List Mki) (o : Oper) (rest : List Oper) (E : Pt → Env) (d : Nat) (O : Pt → Objs) (src : Option Nat) (I : Yu → Prop) (T : Pt → TV) (hd : o.dst = some d) (hN : Nat.blt d N = true) (hg : o.guard = none) (hi : IndT ops c T) (hO : IndT ops c O)
      (hs : ∀ i, src = some i → (i < ops.size → Ahead ops c i) ∧ (fnd L i).isSome = true ∧ ∀ m ∈ L, m.src ≠ some i) (hm : ∀ p R, (∀ x ∈ objs, x ∈ R) → MkW P w0 (E p) o (srcO L src p) R I (fun y => O (p.put c y)) (fun y => T (p.put c y)))
      (h : DM P w0 N ops objs K (c + 1) (⟨c, O, src, I⟩ :: L) rest (fun p => (d, T p) :: E p)) : DM P w0 N ops objs K c L (o :: rest) E
theorem OpM.congr {M : Mks} {σ σ' : Pt → Nat → Env} {c : Nat} {o : Oper} (h : OpM P w0 N ops objs M σ c o) (h1 : ∀ p, σ' p c = σ p c) (h2 : ∀ p, σ' p (c + 1) = σ p (c + 1)) : OpM P w0 N ops objs M σ' c o := by
  unfold OpM at h ⊢
  simpa only [h1, h2] using h
theorem dm_steps {K : List Mki → (Pt → Env) → Prop} {c : Nat} {L : List Mki} {l : List Oper} {E : Pt → Env} (h : DM P w0 N ops objs K c L l E) (hL : MWf L c) (hbig : c + l.length < 1000000) : ∃ (σ : Pt → Nat → Env) (new : List Mki) (Ef : Pt → Env), K (new ++ L) Ef ∧ (∀ m ∈ new, c ≤ m.idx ∧ m.idx < 1000000) ∧ MWf (new ++ L) (c + l.length) ∧ (∀ p, σ p c = E p) ∧ (∀ p, σ p (c + l.length) = Ef p) ∧ ∀ j o, l[j]? = some o → OpM P w0 N ops objs (Mks.of (new ++ L)) σ (c + j) o := by
  induction h with
  | nil c L E h => exact ⟨fun p _ => E p, [], E, h, by simp, hL, fun _ => rfl, fun _ => rfl, by simp⟩
  | run c L o rest E d T hd hN hg hi hy h ih =>
    obtain ⟨σ, new, Ef, h1, h2, h3, h4, h5, h6⟩ := ih ⟨fun m hm => (hL.lt m hm).imp Nat.lt_succ_of_lt id, hL.pw⟩ (by rw [List.length_cons] at hbig; omega)
    rw [List.length_cons] at hbig
    have hfn : fnd (new ++ L) c = none := fnd_none fun m hm => by
      rcases List.mem_append.1 hm with hm | hm
      · have := h2 m hm; omega
      · have := hL.lt m hm; omega
    refine ⟨fun p i => if i = c then E p else σ p i, new, Ef, h1, fun m hm => by have := h2 m hm; omega, by rw [List.length_cons, show c + (rest.length + 1) = c + 1 + rest.length by omega]; exact h3, fun p => if_pos rfl, fun p => ?_, fun j o' hj => ?_⟩
    · dsimp only
      rw [if_neg (by simp), List.length_cons, show c + (rest.length + 1) = c + 1 + rest.length by omega]; exact h5 p
    · cases j with
      | zero =>
        simp only [List.getElem?_cons_zero, Option.some.injEq] at hj
        subst hj
        refine ⟨d, T, hd, Nat.blt_eq ▸ hN, hg, fun p t => ?_, hi, .inl ⟨by show (fnd (new ++ L) (c + 0)).isSome = false; rw [Nat.add_zero, hfn]; rfl, by show (fnd (new ++ L) (c + 0)).bind _ = none; rw [Nat.add_zero, hfn]; rfl, fun p R hR => ?_⟩⟩
        · dsimp only
          rw [if_neg (by omega), if_pos (by omega), Nat.add_zero, h4 p]
        · dsimp only
          rw [if_pos (by omega)]
          exact hy p R hR
      | succ j =>
        have := h6 j o' (by simpa using hj)
        rw [show c + 1 + j = c + (j + 1) by omega] at this
        exact this.congr (fun p => if_neg (by omega)) fun p => if_neg (by omega)
  | make c L o rest E d O src I T hd hN hg hi hO hs hm h ih =>
    obtain ⟨σ, new, Ef, h1, h2, h3, h4, h5, h6⟩ := ih ⟨fun m hm => by
      rcases List.mem_cons.1 hm with rfl | hm
      · exact .inl (Nat.lt_succ_self _)
      · exact (hL.lt m hm).imp Nat.lt_succ_of_lt id, List.pairwise_cons.2 ⟨fun m hm => ⟨by rw [List.length_cons] at hbig; have := hL.lt m hm; dsimp only; omega, fun i hi2 => (hs i hi2).2.2 m hm⟩, hL.pw⟩⟩ (by rw [List.length_cons] at hbig; omega)
    rw [List.length_cons] at hbig
    have happ : new ++ (⟨c, O, src, I⟩ :: L) = (new ++ [⟨c, O, src, I⟩]) ++ L := by simp
    have hfn : fnd (new ++ (⟨c, O, src, I⟩ :: L)) c = some ⟨c, O, src, I⟩ := by
      rw [fnd_new (c := c + 1) h2 (.inl (Nat.lt_succ_self c))]
      unfold fnd
      rw [List.find?_cons]
      have : Nat.beq c c = true := Nat.beq_refl _
      simp only [this]
    have hfl : ∀ i, (i < c ∨ 1000000 ≤ i) → fnd (new ++ (⟨c, O, src, I⟩ :: L)) i = fnd L i := fun i hic => by
      rw [fnd_new (c := c + 1) h2 (by omega)]
      unfold fnd
      rw [List.find?_cons]
      have : Nat.beq c i = false := beq_f (by omega)
      simp only [this]
    refine ⟨fun p i => if i = c then E p else σ p i, new ++ [⟨c, O, src, I⟩], Ef, happ ▸ h1, fun m hm => ?_, by rw [List.length_cons, show c + (rest.length + 1) = c + 1 + rest.length by omega]; exact happ ▸ h3, fun p => if_pos rfl, fun p => ?_, fun j o' hj => ?_⟩
    · rcases List.mem_append.1 hm with hm | hm
      · have := h2 m hm; omega
      · simp only [List.mem_singleton] at hm
        subst hm; exact ⟨Nat.le_refl _, by dsimp only; omega⟩
    · dsimp only
      rw [if_neg (by simp), List.length_cons, show c + (rest.length + 1) = c + 1 + rest.length by omega]; exact h5 p
    · rw [← happ]
      cases j with
      | zero =>
        simp only [List.getElem?_cons_zero, Option.some.injEq] at hj
        subst hj
        have hOc : (Mks.of (new ++ (⟨c, O, src, I⟩ :: L))).O c = O := by
          funext p
          show (match fnd (new ++ (⟨c, O, src, I⟩ :: L)) c with | some m => m.O p | none => []) = _
          rw [hfn]
        have hsc : (Mks.of (new ++ (⟨c, O, src, I⟩ :: L))).src c = src := by
          show (fnd (new ++ (⟨c, O, src, I⟩ :: L)) c).bind _ = _
          rw [hfn]; rfl
        have hIc : (Mks.of (new ++ (⟨c, O, src, I⟩ :: L))).I c = I := by
          funext y
          show (match fnd (new ++ (⟨c, O, src, I⟩ :: L)) c with | some m => m.I y | none => True) = _
          rw [hfn]
        rw [Nat.add_zero]
        refine ⟨d, T, hd, Nat.blt_eq ▸ hN, hg, fun p t => ?_, hi, .inr ⟨by show (fnd (new ++ (⟨c, O, src, I⟩ :: L)) c).isSome = true; rw [hfn]; rfl, by rw [hOc]; exact hO, fun i hi2 => ?_, fun p R hR => ?_⟩⟩
        · dsimp only
          rw [if_neg (by omega), if_pos rfl, h4 p]
        · rw [hsc] at hi2
          obtain ⟨e1, e2, _⟩ := hs i hi2
          have hic : i < c ∨ 1000000 ≤ i := by
            obtain ⟨m, hm⟩ := Option.isSome_iff_exists.1 e2
            obtain ⟨g1, g2⟩ := fnd_mem hm
            have := hL.lt m g1
            omega
          exact ⟨by omega, e1, by show (fnd (new ++ (⟨c, O, src, I⟩ :: L)) i).isSome = true; rw [hfl i hic]; exact e2⟩
        · dsimp only
          rw [if_pos rfl, hOc, hIc]
          have hcons : (Mks.of (new ++ (⟨c, O, src, I⟩ :: L))).cons c p = srcO L src p := by
            unfold Mks.cons srcO
            rw [hsc]
            cases hsr : src with
            | none => rfl
            | some i =>
              have hic : i < c ∨ 1000000 ≤ i := by
                obtain ⟨_, e2, _⟩ := hs i hsr
                obtain ⟨m, hm⟩ := Option.isSome_iff_exists.1 e2
                obtain ⟨g1, g2⟩ := fnd_mem hm
                have := hL.lt m g1
                omega
              rw [hsr] at hfl
              show (match fnd (new ++ (⟨c, O, some i, I⟩ :: L)) i with | some m => m.O p | none => []) = (match fnd L i with | some m => m.O p | none => [])
              rw [hfl i hic]
          rw [hcons]
          exact hm p R hR
      | succ j =>
        have := h6 j o' (by simpa using hj)
        rw [show c + 1 + j = c + (j + 1) by omega] at this
        exact this.congr (fun p => if_neg (by omega)) fun p => if_neg (by omega)
/-- A region that draws its order: quiet operations and makings of memory (l1), then the rest in order. L0: what was there before and may be consumed. -/
theorem aw_drawG (L0 : List Mki) (k : Nat) {id : Nat} {l l1 l2 : List Oper} {env : Env} (hm : P.follows .mixedOrders = true) (hok : drawOk l.toArray = true) (htl : tailOk l.toArray k = true) (hbl : Nat.blt l.length 1000000 = true) (hc : Cut k l l1 l2) (hL0 : MWf L0 0) (hcon : ∀ m ∈ L0, m.src = none ∧ (∀ p p', m.O p = m.O p') ∧ ∀ y, m.I y)
    (h : DM P w0 N l.toArray objs (fun L E => ∀ p : Pt, (∀ m ∈ L, m.I (p m.idx)) → AL P w0 N l.toArray Q l2 (E p) ((liveL L).flatMap (fun m => m.O p) ++ objs)) 0 L0 l1 (fun _ => env)) : AW P w0 N (.region id l.toArray true) Q env (L0.flatMap (fun m => m.O pt0) ++ objs) := ⟨fun a w hs => by
  obtain ⟨e1, e2, hkl⟩ := hc.eq
  have hbl : l.length < 1000000 := Nat.blt_eq ▸ hbl
  have hl1 : l1.length = k := by rw [e1, List.length_take]; omega
  obtain ⟨σ, new0, Ef, h1, hnew, h3, h4, h5, h6⟩ := dm_steps h hL0 (by omega)
  rw [hl1, Nat.zero_add] at h5 h3
  have hnk : ∀ m ∈ new0, m.idx < k := fun m hm => by
    have := h3.lt m (List.mem_append_left _ hm)
    have := hnew m hm
    omega
  have hL0i : ∀ m ∈ L0, 1000000 ≤ m.idx := fun m hm => by have := hL0.lt m hm; omega
  have hmemL : ∀ m, m ∈ new0 ++ L0 → ¬ m.idx < k → m ∈ L0 := fun m hm hk => by
    rcases List.mem_append.1 hm with h | h
    · exact absurd (hnk m h) hk
    · exact h
  have hL0m : ∀ m ∈ L0, m ∈ new0 ++ L0 := fun m hm => List.mem_append_right _ hm
  generalize new0 ++ L0 = new at h1 h3 h6 hmemL hL0m
  have hop : ∀ c o, c < k → l.toArray[c]? = some o → OpM P w0 N l.toArray objs (Mks.of new) σ c o := fun c o hck ho => by
    have := h6 c o (by rw [e1, List.getElem?_take, if_pos hck]; simpa using ho)
    rwa [Nat.zero_add] at this
  have hrep : ∀ i, (Array.replicate l.toArray.size false).getD i false = false := fun i => by
    rcases Nat.lt_or_ge i l.toArray.size with h | h
    · simp at h; simp [h]
    · simp at h; simp [Array.getD_eq_getD_getElem?, Array.getElem?_eq_none, h]
  have hsrc : ∀ {c i : Nat}, (Mks.of new).src c = some i → ∃ m ∈ new, m.idx = c ∧ m.src = some i := fun {c i} hci => by
    obtain ⟨m, hm, hmi⟩ := Option.bind_eq_some_iff.1 hci
    obtain ⟨g1, g2⟩ := fnd_mem hm
    exact ⟨m, g1, g2, hmi⟩
  have hOof : ∀ {m : Mki} (_ : m ∈ new) (p : Pt), (Mks.of new).O m.idx p = m.O p := fun {m} hm p => by
    show (match fnd new m.idx with | some m => m.O p | none => []) = _
    rw [fnd_of h3 hm]
  have hon : ∀ {m : Mki} (_ : m ∈ new), (Mks.of new).on m.idx = true := fun {m} hm => by
    show (fnd new m.idx).isSome = true
    rw [fnd_of h3 hm]; rfl
  have hfla : ∀ (p : Pt) (l3 : List Mki), (∀ m ∈ l3, m ∈ new) → (l3.map (·.idx)).flatMap (fun i => (Mks.of new).O i p) = l3.flatMap fun m => m.O p := fun p l3 => by
    induction l3 with
    | nil => intro _; rfl
    | cons x r ih =>
      intro hx
      rw [List.map_cons, List.flatMap_cons, List.flatMap_cons, ih fun y hy => hx y (List.mem_cons_of_mem _ hy), hOof (hx x List.mem_cons_self)]
  have hnd : (liveL new).Pairwise fun a b => a.idx ≠ b.idx := (h3.pw.imp fun h => h.1).filter _
  refine wp_region_any hm (any_of_jm (objs := objs) hok (k := k) (by simp; omega) htl (M := Mks.of new) (σ := σ) (fun p p' t => by rw [h4, h4]) hop (fun c c' i hck hck' hsc hsc' => ?_) (fun j hj p p' => ?_) (ms := (liveL new).map (·.idx)) (List.Pairwise.map _ (fun a b h => h) hnd) (fun i => ?_) (fun p hI => ?_) _ _ _ _ (by simp) (by simp [unlisted]) (fun i hi => by rw [hrep] at hi; cases hi) (fun j oj _ hx => nomatch (hrep j).symm.trans hx) ⟨pt0, L0.flatMap (fun m => m.O pt0) ++ objs, ⟨L0.map (·.idx), List.Pairwise.map _ (fun a b h => h) (hL0.pw.imp fun h => h.1), fun i => ?_, by rw [hfla pt0 L0 hL0m]⟩, ⟨hs.defers, hs.size, ?_, fun t c hc' h7 h8 v hv => ?_⟩, fun i _ hx => nomatch (hrep i).symm.trans hx⟩)
  · obtain ⟨m, g1, g2, g3⟩ := hsrc hsc
    obtain ⟨m', g1', g2', g3'⟩ := hsrc hsc'
    refine Classical.byContradiction fun hne => ?_
    obtain ⟨x, hx, rfl⟩ := List.getElem_of_mem g1
    obtain ⟨y, hy, rfl⟩ := List.getElem_of_mem g1'
    have hne : x ≠ y := fun e => by subst e; omega
    rcases Nat.lt_or_gt_of_ne hne with hxy | hxy
    · exact (List.pairwise_iff_getElem.1 h3.pw x y hx hy hxy).2 i g3 g3'
    · exact (List.pairwise_iff_getElem.1 h3.pw y x hy hx hxy).2 i g3' g3
  · show (match fnd new j with | some m => m.O p | none => []) = (match fnd new j with | some m => m.O p' | none => [])
    cases hf : fnd new j with
    | none => rfl
    | some m =>
      obtain ⟨g1, g2⟩ := fnd_mem hf
      exact (hcon m (hmemL m g1 (by simp at hj; omega))).2.1 p p'
  · unfold Live
    rw [List.mem_map]
    constructor
    · rintro ⟨m, hm, rfl⟩
      obtain ⟨g1, g2⟩ := List.mem_filter.1 hm
      refine ⟨fun hlt => ?_, hon g1, fun c hck hsc _ => ?_⟩
      · have := h3.lt m g1
        simp at hlt
        omega
      · obtain ⟨m', g1', _, g3'⟩ := hsrc hsc
        have := List.all_eq_true.1 g2 m' g1'
        simp only [g3', Nat.beq_refl, Bool.not_true] at this
        cases this
    · rintro ⟨hik, hon2, hno⟩
      obtain ⟨m, hm⟩ := Option.isSome_iff_exists.1 (show (fnd new i).isSome = true from hon2)
      obtain ⟨g1, rfl⟩ := fnd_mem hm
      refine ⟨m, List.mem_filter.2 ⟨g1, List.all_eq_true.2 fun m' hm' => ?_⟩, rfl⟩
      cases hsr : m'.src with
      | none => rfl
      | some j =>
        have hne : j ≠ m.idx := fun e => by
          subst e
          have hlt : m'.idx < k := Classical.byContradiction fun hk => by
            have := (hcon m' (hmemL m' hm' hk)).1
            rw [hsr] at this; cases this
          exact hno m'.idx hlt (by show (fnd new m'.idx).bind _ = _; rw [fnd_of h3 hm']; exact hsr) hlt
        simp only [beq_f hne, Bool.not_false]
  · have hd2 : l.toArray.toList.drop k = l2 := by simpa using e2.symm
    rw [hd2, h5, hfla p (liveL new) fun m hm => (List.mem_filter.1 hm).1]
    refine h1 p fun m hm => ?_
    by_cases hlt : m.idx < k
    · have := hI m.idx hlt (hon hm)
      have e : (Mks.of new).I m.idx = m.I := by
        funext y
        show (match fnd new m.idx with | some m => m.I y | none => True) = _
        rw [fnd_of h3 hm]
      rwa [e] at this
    · exact (hcon m (hmemL m hm hlt)).2.2 _
  · unfold Live
    rw [List.mem_map]
    constructor
    · rintro ⟨m, hm, rfl⟩
      have := hL0i m hm
      exact ⟨fun h => by simp at h; omega, hon (hL0m m hm), fun c _ _ hx => nomatch (hrep c).symm.trans hx⟩
    · rintro ⟨hx, hon2, _⟩
      obtain ⟨m, hm⟩ := Option.isSome_iff_exists.1 (show (fnd new i).isSome = true from hon2)
      obtain ⟨g1, rfl⟩ := fnd_mem hm
      exact ⟨m, hmemL m g1 (fun hlt => nomatch (hrep _).symm.trans (hx (by simp; omega))), rfl⟩
  · exact hs.mem.grow ⟨hs.mem.below.os, hs.mem.below.tape, hs.mem.below.output, hs.mem.below.size, hs.mem.below.block⟩ (Nat.le_refl _) (fun _ _ => rfl)
  · have hk0 : ∀ m, m ≤ c → lk t (σ pt0 m) = lk t (σ pt0 0) := fun m => by
      induction m with
      | zero => intro _; rfl
      | succ m ih =>
        intro hm2
        have hml : m < l.length := by omega
        obtain ⟨d, T, g1, _, _, g2, _⟩ := hop m l[m] (by omega) (by simp [hml])
        rw [g2, lk_cons, if_neg]
        · exact ih (by omega)
        · intro e
          have := h7 m (by omega) (by unfold Writes; simp [hml, g1, e])
          rw [hrep] at this; cases this
    rw [hk0 c (Nat.le_refl _), h4] at hv
    have hst : Step w (L0.flatMap (fun m => m.O pt0) ++ objs) { w with drawn := w.drawn + 1 } (L0.flatMap (fun m => m.O pt0) ++ objs) := ⟨fun _ _ _ => rfl, fun _ _ h => h, fun _ _ _ rows _ _ h => ⟨⟨rows, h⟩, rfl⟩, Nat.le_refl _, fun h => h⟩
    exact (hs.env t v hv).step hst⟩
theorem aw_drawM (k : Nat) {id : Nat} {l l1 l2 : List Oper} {env : Env} (hm : P.follows .mixedOrders = true) (hok : drawOk l.toArray = true) (htl : tailOk l.toArray k = true) (hbl : Nat.blt l.length 1000000 = true) (hc : Cut k l l1 l2)
    (h : DM P w0 N l.toArray objs (fun L E => ∀ p : Pt, (∀ m ∈ L, m.I (p m.idx)) → AL P w0 N l.toArray Q l2 (E p) ((liveL L).flatMap (fun m => m.O p) ++ objs)) 0 [] l1 (fun _ => env)) : AW P w0 N (.region id l.toArray true) Q env objs :=
  aw_drawG [] k hm hok htl hbl hc ⟨by simp, .nil⟩ (by simp) h
/-- The same, where one object that was there before may be consumed (place 1000000). -/
theorem aw_drawC (k : Nat) {id : Nat} {l l1 l2 : List Oper} {env : Env} {x : Nat × Nat × TObj} (hm : P.follows .mixedOrders = true) (hok : drawOk l.toArray = true) (htl : tailOk l.toArray k = true) (hbl : Nat.blt l.length 1000000 = true) (hc : Cut k l l1 l2)
    (h : DM P w0 N l.toArray objs (fun L E => ∀ p : Pt, (∀ m ∈ L, m.I (p m.idx)) → AL P w0 N l.toArray Q l2 (E p) ((liveL L).flatMap (fun m => m.O p) ++ objs)) 0 [⟨1000000, fun _ => [x], none, fun _ => True⟩] l1 (fun _ => env)) : AW P w0 N (.region id l.toArray true) Q env (x :: objs) :=
  aw_drawG [⟨1000000, fun _ => [x], none, fun _ => True⟩] k hm hok htl hbl hc ⟨fun m hm => by simp only [List.mem_singleton] at hm; subst hm; exact .inr (Nat.le_refl _), List.pairwise_singleton _ _⟩ (fun m hm => by simp only [List.mem_singleton] at hm; subst hm; exact ⟨rfl, fun _ _ => rfl, fun _ => trivial⟩) h
end
end Go.Proofs.YthpdkhejeookhaaGreatDoor
/- The abstract walk, part 23: what makes memory in a region that draws its order. -/
namespace Go.Proofs.YthpdkhejeookhaaGreatDoor
open Go Go.RowKit
def Yu.a : Yu → Nat
  | .one a _ => a
  | _ => 0
def Yu.b : Yu → Nat
  | .one _ b => b
  | _ => 0
/-- How the places of a contract's result are written down. -/
class Enc (Y : Type) where
  enc : Y → Yu
  dec : Yu → Y
  eq : ∀ y, dec (enc y) = y
instance : Enc (Nat × Nat) := ⟨fun y => .one y.1 y.2, fun y => (y.a, y.b), fun _ => rfl⟩
instance : Enc (List (Nat × Nat)) := ⟨.many, fun y => match y with | .many l => l | _ => [], fun _ => rfl⟩
instance {A B : Type} [Enc A] [Enc B] : Enc (A × B) := ⟨fun y => .pair (Enc.enc y.1) (Enc.enc y.2), fun y => match y with | .pair a b => (Enc.dec a, Enc.dec b) | _ => (Enc.dec .no, Enc.dec .no), fun y => by simp [Enc.eq]⟩
section
variable {P : Program} {w0 : World} {N : Nat} {Q : Exit → Act → World → Prop} {objs R : Objs} {ops : Array Oper} {env : Env} {dd : Option Nat} {T0 : Nat} {pos : String} {af : Array Edge} {g : Option (Nat × Bool)}
theorem ev_mem {a : Act} {w : World} {l : List Operand} (h : ∀ x ∈ l, ∀ v, ev env x = some v → Rep w objs v (a.eval x)) {x : Operand} (hx : x ∈ l) {v : TV} (hv : ev env x = some v) : Rep w objs v (a.eval x) := h x hx v hv
theorem mk_alloc {T : TypeId} {zs : List TV} (hz : zeroOk P T = some zs) : MkW P w0 env ⟨dd, .alloc T, T0, pos, af, g⟩ [] R (fun _ => True) (fun y => [(y.a, y.b, .box zs)]) (fun y => .mp y.a y.b 0) := fun a w K Q hw _ hK =>
  alloc_wp rfl hz (by simpa using hw) fun ss b v w' h1 h2 h3 => hK (.one ss b) v w' trivial h2 h3 h1
theorem mk_lit {T : TypeId} {n m : Nat} {ps : List (Nat × Operand)} {rows : List (List TV)} (hT : P.underlying T = some (.slice (P.elem T))) (hI : (zeroOk P (P.elem T)).isSome = true) (hm : P.cellsOf (P.elem T) = m) (hm0 : Nat.blt 0 m = true) (hev : evL env ps 0 = some rows) (hn : rows.length = n) (hbig : Nat.ble (n * m) 16777216 = true) (hall : (rows.all fun r => Nat.beq r.length m) = true) :
    MkW P w0 env ⟨dd, .buildSlice T n ps.toArray, T0, pos, af, g⟩ [] R (fun _ => True) (fun y => [(y.a, y.b, .row m rows)]) (fun y => .ms y.a y.b 0 n) := fun a w K Q hw hop hK => by
  obtain ⟨ss, hf⟩ := site_new ([] ++ R)
  have hm0' : 0 < m := Nat.blt_eq ▸ hm0
  have hall' : ∀ r ∈ rows, r.length = m := fun r hr => Nat.eq_of_beq_eq_true (List.all_eq_true.1 hall r hr)
  have hst := fun cs => step_new hw cs (P.elem T) ss (.row m rows)
  obtain ⟨cs, h1, h2, h3⟩ := run_lit (o := ⟨dd, .buildSlice T n ps.toArray, T0, pos, af, g⟩) rfl hT hI hm hm0 hn hbig a hev hall' (fun p hp v hv => ev_mem hop (by simpa [Op.operands] using ⟨p.1, hp⟩) hv)
  unfold Oper.wp
  rw [h1]
  have hnm : n ≤ maxLen := by
    have := Nat.le_of_ble_eq_true hbig
    have h4 : n * 1 ≤ n * m := Nat.mul_le_mul_left _ hm0'
    simp only [maxLen]; omega
  have hb0 : w.heap.size ≠ 0 := Nat.ne_of_gt (Nat.lt_of_lt_of_le hw.pos hw.below.size)
  refine hK (.one ss w.heap.size) _ _ trivial (hw.newObj hf ⟨⟨hm0', h2.2⟩, hall', .inr ⟨hw.below.size, cs, P.elem T, n, heap_alloc_new w _, h2.1, by omega, hnm, fun j t hj => ?_⟩⟩) (hst cs) (.ms _ _ _ _ _ (.mk ⟨by simp [Yu.b], noMark_new hw #[] 0 ss _, _, _, rfl⟩ (fun m' rows' hm' => .inr ⟨hb0, 0, n, P.elem T, n * m, rfl, Nat.le_refl _, by unfold World.shape?; simp only [Yu.b]; rw [heap_alloc_new]; simp [h2.1], ?_, fun _ => by simp⟩) (fun h0 => absurd h0 hb0)))
  · obtain ⟨v, h4, h5⟩ := h3 j t hj
    exact ⟨v, h4, h5.step (hst cs)⟩
  · rcases List.mem_cons.1 hm' with he | hm'
    · simp only [Prod.mk.injEq, TObj.row.injEq] at he; rw [he.2.2.1]; simp
    · exact absurd (objs_lt hw hm') (Nat.lt_irrefl _)
theorem mk_append {T s b len n m : Nat} {x y : Operand} {f : Nat} {rows rows2 news : List (List TV)} (hx : ev env x = some (.ms s b 0 len)) (hy : ev env y = some (.sl f m news)) (hT : appOk P T m = true) (hl : rows.length = len) (hn : news.length = n) (hbig : len + n ≤ 1000000000) (hrows : rows ++ news = rows2) :
    MkW P w0 env ⟨dd, .call { callee := .builtin .append, args := #[x, y], argTypes := #[T, T] }, T0, pos, af, g⟩ [(s, b, .row m rows)] R (fun _ => True) (fun y => [(s, y.b, .row m rows2)]) (fun y => .ms s y.b 0 (len + n)) := fun a w K Q hw hop hK => by
  subst hrows
  subst hn
  have hu : ∀ b', Upd (s, b, .row m rows) (s, b', .row m (rows ++ news)) ([(s, b, .row m rows)] ++ R) ([(s, b', .row m (rows ++ news))] ++ R) := fun b' => .head R
  have hmem := (hu 0).mem
  have hex := ev_mem hop (x := x) (by simp [Op.operands, Call.operands]) hx
  have hey := ev_mem hop (x := y) (by simp [Op.operands, Call.operands]) hy
  obtain ⟨b', off', pre, v', w', hr, hE⟩ := app_core (P := P) (ty := T0) hw hmem hex hey hT (by omega) rfl hbig
  have hpre : pre = [] := List.eq_nil_of_length_eq_zero (by rw [hE.prelen]; exact hE.zero rfl)
  have hoff : off' = 0 := hE.zero rfl
  subst hpre; subst hoff
  obtain ⟨⟨hm0, hci⟩, hm, _⟩ := hw.obj s b _ hmem
  obtain ⟨_, _, _, _, _, g3, g4, _⟩ := rep_sl hey
  unfold Oper.wp
  rw [exec_append (o := ⟨dd, .call { callee := .builtin .append, args := #[x, y], argTypes := #[T, T] }, T0, pos, af, g⟩) rfl hr]
  have hst := step_upd (m := m) hw (hu b') hE.size hE.keep hE.blk (fun rows' _ => ⟨rows, rfl⟩) (fun m' rows' he => by simp only [TObj.row.injEq] at he; exact he.1.symm) hE.shape (by simp only [marker, ne_eq, Prod.mk.injEq, TObj.row.injEq]; omega)
  have hobj := hE.obj
  simp only [List.nil_append, List.drop_zero] at hobj
  rw [← hl, List.take_length] at hobj
  refine hK (.one s b') v' w' trivial (hw.upd (hu b') hE.below hE.keep hE.blk hst ⟨⟨hm0, fun t ht => ?_⟩, fun r hr => ?_, hobj.imp id fun ⟨h1, cur, e, cap, h2, h3, h4, h5, h6⟩ => ⟨h1, cur, e, cap, h2, h3, h4, h5, fun j t hj => ?_⟩⟩) hst (.ms s b' _ _ _ (.mk ⟨hE.lt, fun hm' => hw.noMark (hst.mark hm'), ?_⟩ (fun m' rows' hm' => ?_) (fun h0 => ?_)))
  · simp only [List.flatten_append, List.mem_append] at ht
    rcases ht with ht | ht
    · exact hci t ht
    · exact g4 t ht
  · simp only [List.mem_append] at hr
    rcases hr with hr | hr
    · exact hm r hr
    · exact g3 r hr
  · rcases hE.val with ⟨_, _, h0, h1⟩ | ⟨_, q, c, e, k, h1, _⟩
    · exact ⟨none, 0, by rw [h0]; exact h1⟩
    · exact ⟨_, _, h1⟩
  · rcases (hu b').other hw.sites _ hm' with he | ⟨_, hne, _⟩
    · simp only [Prod.mk.injEq, TObj.row.injEq] at he
      obtain ⟨_, _, rfl, _⟩ := he
      exact hE.val
    · exact absurd rfl hne
  · rcases hE.val with ⟨_, h1, h2, h3⟩ | ⟨h1, _⟩
    · exact ⟨h1, h2, h3⟩
    · exact absurd h0 h1
  · obtain ⟨u, p1, p2⟩ := h6 j t hj
    exact ⟨u, p1, p2.step hst⟩
theorem View.mono {objs' : Objs} (hs : ∀ x ∈ objs, x ∈ objs') {t t' : TV} (h : View objs t t') : View objs' t t' := by
  induction h with
  | same t => exact .same t
  | nils m => exact .nils m
  | ms s b off len m rows live rows' hm hle hlive hl h ih => exact .ms s b off len m rows live rows' (hs _ hm) hle hlive hl ih
  | mp s b off cells l' hm hl h ih => exact .mp s b off cells l' (hs _ hm) hl ih
  | me s b m k j rows r l' hm hr hl h ih => exact .me s b m k j rows r l' (hs _ hm) hr hl ih
  | agg l l' hl h ih => exact .agg l l' hl ih
  | sl f m rows rows' hl h ih => exact .sl f m rows rows' hl ih
theorem Args.mono {objs' : Objs} (hs : ∀ x ∈ objs, x ∈ objs') {xs : List Operand} {ts : List TV} (h : Args env objs xs ts) : Args env objs' xs ts := by
  induction h with
  | nil => exact .nil
  | cons x xs t t' ts h hv hr ih => exact .cons x xs t t' ts h (hv.mono hs) ih
theorem mk_call {G : World → Prop} {f : Nat} {xs : List Operand} {ts : Array TypeId} {args : List TV} {Y : Type} [Enc Y] {I : Y → Prop} {O : Y → Objs} {r : Y → TV} (hc : callB P f = true) (hct : CtM P G f args [] I O r) (hargs : Args env objs xs args) (hR : ∀ x ∈ objs, x ∈ R)
    (hG : G w0) (hst : Stable G) (hnew : ∀ y, I y → (∀ s b o, (s, b, o) ∈ O y → ObjNew (O y) o) ∧ NewOk (O y) (r y)) :
    MkW P w0 env ⟨dd, .call { callee := .value (.func f), args := xs.toArray, argTypes := ts }, T0, pos, af, g⟩ [] R (fun y => I (Enc.dec y)) (fun y => O (Enc.dec y)) (fun y => r (Enc.dec y)) := fun a w K Q hw0 hop hK => by
  have hw : SimW w0 R w := by simpa using hw0
  obtain ⟨h1, h2⟩ := args_rep hw (a := a) (hargs.mono hR) (fun x hx v hv => ev_mem hop (by simp only [Op.operands, Call.operands]; simp [hx]) hv)
  unfold Oper.wp
  rw [exec_call (o := ⟨dd, .call { callee := .value (.func f), args := xs.toArray, argTypes := ts }, T0, pos, af, g⟩) rfl hc]
  have hwv := simW_voids hw
  refine (hct w w (voids R) [] (xs.map a.eval).toArray (hst.below _ _ hG hw.below) (by simpa using hwv) (.gh _ _ (by simp)) (by simpa using h1) (fun i t v ht hv => ?_)).mono ?_
  · exact (h2 i t v ht (by simpa using hv)).step (by simpa using step_voids w R)
  · rintro e w' ⟨v, y, rfl, hI, hw', _, hr⟩
    obtain ⟨n1, n2⟩ := hnew y hI
    have hst' := new_step hw hw' n1
    exact hK (Enc.enc y) v w' (by dsimp only; rw [Enc.eq]; exact hI) (by dsimp only; rw [Enc.eq]; exact new_simW hw hw' n1) (by dsimp only; rw [Enc.eq]; exact hst') (by dsimp only; rw [Enc.eq]; exact new_rep hw hw' n1 n2 hr)
end
end Go.Proofs.YthpdkhejeookhaaGreatDoor
