/- Part 6 of the proof: the texts EngAA, TvA. -/
import Derived.Test.YthpdkhejeookhaaGreatDoorPart5
import Derived.Test.YthpdkhejeookhaaGreatDoorPart2
/- The abstract walk, part 20: the rules with their side goals as default arguments. Written by gen_eng2.py. -/
namespace Go.Proofs.YthpdkhejeookhaaGreatDoor
open Go Go.RowKit
section
/-- What an operation gives. -/
structure Yd (P : Program) (w0 : World) (env : Env) (objs : Objs) (o : Oper) (tv : TV) : Prop where
  go : Yields P w0 env objs o tv
variable {P : Program} {w0 : World} {N : Nat} {Q : Exit → Act → World → Prop} {env : Env} {objs : Objs} {ops : Array Oper} {rest : List Oper} {d T0 : Nat} {dd : Option Nat} {pos : String} {af : Array Edge} {g : Option (Nat × Bool)}
theorem Y_move {x : Operand} {tv : TV} (hx : ev env x = some tv) : Yd P w0 env objs ⟨dd, .move x, T0, pos, af, g⟩ (tv) := ⟨y_move rfl hx⟩
theorem Y_assign {x : Operand} {tv : TV} (hx : ev env x = some tv) : Yd P w0 env objs ⟨dd, .assign x, T0, pos, af, g⟩ (tv) := ⟨y_assign rfl hx⟩
theorem Y_pick_t {c x y : Operand} {tv cv : TV} (hc : ev env c = some cv) (he : cv = .bool true) (hx : ev env x = some tv) : Yd P w0 env objs ⟨dd, .pick c x y, T0, pos, af, g⟩ (tv) := ⟨y_pick_t rfl hc he hx⟩
theorem Y_pick_f {c x y : Operand} {tv cv : TV} (hc : ev env c = some cv) (he : cv = .bool false) (hx : ev env y = some tv) : Yd P w0 env objs ⟨dd, .pick c x y, T0, pos, af, g⟩ (tv) := ⟨y_pick_f rfl hc he hx⟩
theorem Y_load_me {T : TypeId} {x : Operand} {c : TV} {rr : List TV} {s b m j off : Nat} {rows : List (List TV)} {r0 : List TV} (_hA : agT T = false) (hT : isScal P T = true) (hx : ev env x = some (.me s b m j off)) (hm : (s, b, TObj.row m rows) ∈ objs) (hr : rows[j]? = some r0) (hl : r0.drop off = c :: rr) : Yd P w0 env objs ⟨dd, .load T x, T0, pos, af, g⟩ (c) := ⟨y_load rfl hT hx (fun _ => .me s b m j off rows r0 hm hr) hl⟩
theorem Y_load_cp {T : TypeId} {x : Operand} {c : TV} {rr : List TV} {f : Nat} {l : List TV} (_hA : agT T = false) (hT : isScal P T = true) (hx : ev env x = some (.cp f l)) (hl : l = c :: rr) : Yd P w0 env objs ⟨dd, .load T x, T0, pos, af, g⟩ (c) := ⟨y_load rfl hT hx (fun _ => .cp f l) hl⟩
theorem Y_load_mp {T : TypeId} {x : Operand} {c : TV} {rr : List TV} {s b off : Nat} {cells : List TV} (_hA : agT T = false) (hT : isScal P T = true) (hx : ev env x = some (.mp s b off)) (hm : (s, b, TObj.box cells) ∈ objs) (hl : cells.drop off = c :: rr) : Yd P w0 env objs ⟨dd, .load T x, T0, pos, af, g⟩ (c) := ⟨y_load rfl hT hx (fun _ => .mp s b off cells hm) hl⟩
theorem Y_fieldAddr {T : TypeId} {x : Operand} {tv tv2 : TV} {i : Nat} (hx : ev env x = some tv) (hF : fieldB P T i = true) (ht : tvOff (ofT T i) tv = some tv2) : Yd P w0 env objs ⟨dd, .fieldAddr T x i, T0, pos, af, g⟩ (tv2) := ⟨y_fieldAddr rfl hx hF ht⟩
theorem Y_indexAddr {T : TypeId} {x i : Operand} {f m : Nat} {rows : List (List TV)} {kk : IntKind} {n : Int} {j : Nat} {r : List TV} (hx : ev env x = some (.sl f m rows)) (hi : ev env i = some (.int kk n)) (hT : P.underlying T = some (.slice (P.elem T))) (hI : (P.info? (P.elem T)).isSome = true) (hm : P.cellsOf (P.elem T) = m) (hm0 : Nat.blt 0 m = true) (hn : n = (j : Int)) (hr : rows[j]? = some r) : Yd P w0 env objs ⟨dd, .indexAddr T x i, T0, pos, af, g⟩ (.cp f r) := ⟨y_indexAddr rfl hx hi hT hI hm hm0 hn hr⟩
theorem Y_indexAddr_ms {T : TypeId} {x i : Operand} {s b off len m : Nat} {rows : List (List TV)} {kk : IntKind} {n : Int} {j jj : Nat} (hx : ev env x = some (.ms s b off len)) (hi : ev env i = some (.int kk n)) (hobj : (s, b, TObj.row m rows) ∈ objs) (hT : P.underlying T = some (.slice (P.elem T))) (hI : (P.info? (P.elem T)).isSome = true) (hm : P.cellsOf (P.elem T) = m) (hn : n = (j : Int)) (hk : j < len) (hkk : off + j = jj) : Yd P w0 env objs ⟨dd, .indexAddr T x i, T0, pos, af, g⟩ (.me s b m jj 0) := ⟨hkk ▸ y_indexAddr_ms rfl hx hi hobj hT hI hm hn hk⟩
theorem Y_len_s {x : Operand} {t : TypeId} {s : ByteArray} (hx : ev env x = some (.str s)) (hT : P.underlying t = some .string) : Yd P w0 env objs ⟨dd, .call { callee := .builtin .len, args := #[x], argTypes := #[t] }, T0, pos, af, g⟩ (.int .i64 (s.size : Int)) := ⟨y_len_s rfl hx hT⟩
theorem Y_len_sl {x : Operand} {t : TypeId} {f m n : Nat} {rows : List (List TV)} (hx : ev env x = some (.sl f m rows)) (hT : P.underlying t = some (.slice (P.elem t))) (hn : rows.length = n) : Yd P w0 env objs ⟨dd, .call { callee := .builtin .len, args := #[x], argTypes := #[t] }, T0, pos, af, g⟩ (.int .i64 (n : Int)) := ⟨y_len_sl rfl hx hT hn⟩
theorem Y_len_ms {x : Operand} {t : TypeId} {s b off len : Nat} (hx : ev env x = some (.ms s b off len)) (hT : P.underlying t = some (.slice (P.elem t))) : Yd P w0 env objs ⟨dd, .call { callee := .builtin .len, args := #[x], argTypes := #[t] }, T0, pos, af, g⟩ (.int .i64 (len : Int)) := ⟨y_len_ms rfl hx hT⟩
theorem Y_len_nils {x : Operand} {t : TypeId} (hx : ev env x = some .nils) (hT : P.underlying t = some (.slice (P.elem t))) : Yd P w0 env objs ⟨dd, .call { callee := .builtin .len, args := #[x], argTypes := #[t] }, T0, pos, af, g⟩ (.int .i64 0) := ⟨y_len_nils rfl hx hT⟩
theorem Y_eql {t t2 : TypeId} {x y : Operand} {k : IntKind} {m n : Int} (hx : ev env x = some (.int k m)) (hy : ev env y = some (.int k n)) : Yd P w0 env objs ⟨dd, .binOp .eql t x y t2, T0, pos, af, g⟩ (.bool (decide (m = n))) := ⟨y_eql rfl hx hy⟩
theorem Y_neq {t t2 : TypeId} {x y : Operand} {k : IntKind} {m n : Int} (hx : ev env x = some (.int k m)) (hy : ev env y = some (.int k n)) : Yd P w0 env objs ⟨dd, .binOp .neq t x y t2, T0, pos, af, g⟩ (.bool (decide (m ≠ n))) := ⟨y_neq rfl hx hy⟩
theorem Y_lss {t t2 : TypeId} {x y : Operand} {k : IntKind} {m n : Int} (hx : ev env x = some (.int k m)) (hy : ev env y = some (.int k n)) : Yd P w0 env objs ⟨dd, .binOp .lss t x y t2, T0, pos, af, g⟩ (.bool (decide (m < n))) := ⟨y_lss rfl hx hy⟩
theorem Y_leq {t t2 : TypeId} {x y : Operand} {k : IntKind} {m n : Int} (hx : ev env x = some (.int k m)) (hy : ev env y = some (.int k n)) : Yd P w0 env objs ⟨dd, .binOp .leq t x y t2, T0, pos, af, g⟩ (.bool (decide (m ≤ n))) := ⟨y_leq rfl hx hy⟩
theorem Y_gtr {t t2 : TypeId} {x y : Operand} {k : IntKind} {m n : Int} (hx : ev env x = some (.int k m)) (hy : ev env y = some (.int k n)) : Yd P w0 env objs ⟨dd, .binOp .gtr t x y t2, T0, pos, af, g⟩ (.bool (decide (n < m))) := ⟨y_gtr rfl hx hy⟩
theorem Y_geq {t t2 : TypeId} {x y : Operand} {k : IntKind} {m n : Int} (hx : ev env x = some (.int k m)) (hy : ev env y = some (.int k n)) : Yd P w0 env objs ⟨dd, .binOp .geq t x y t2, T0, pos, af, g⟩ (.bool (decide (n ≤ m))) := ⟨y_geq rfl hx hy⟩
theorem Y_add {t t2 : TypeId} {x y : Operand} {k : IntKind} {m n c : Int} (hx : ev env x = some (.int k m)) (hy : ev env y = some (.int k n)) (hc : k.wrap (m + n) = c) : Yd P w0 env objs ⟨dd, .binOp .add t x y t2, T0, pos, af, g⟩ (.int k c) := ⟨y_add rfl hx hy hc⟩
theorem Y_sub {t t2 : TypeId} {x y : Operand} {k : IntKind} {m n c : Int} (hx : ev env x = some (.int k m)) (hy : ev env y = some (.int k n)) (hc : k.wrap (m - n) = c) : Yd P w0 env objs ⟨dd, .binOp .sub t x y t2, T0, pos, af, g⟩ (.int k c) := ⟨y_sub rfl hx hy hc⟩
theorem Y_mul {t t2 : TypeId} {x y : Operand} {k : IntKind} {m n c : Int} (hx : ev env x = some (.int k m)) (hy : ev env y = some (.int k n)) (hc : k.wrap (m * n) = c) : Yd P w0 env objs ⟨dd, .binOp .mul t x y t2, T0, pos, af, g⟩ (.int k c) := ⟨y_mul rfl hx hy hc⟩
theorem Y_index_s {T : TypeId} {x i : Operand} {s : ByteArray} {kk : IntKind} {n : Int} {j : Nat} (hx : ev env x = some (.str s)) (hi : ev env i = some (.int kk n)) (hT : P.underlying T = some .string) (hn : n = (j : Int)) (hk : j < s.size) : Yd P w0 env objs ⟨dd, .index T x i, T0, pos, af, g⟩ (.int .u8 (bat s j)) := ⟨y_index_s rfl hx hi hT hn hk⟩
theorem Y_not_t {t : TypeId} {x : Operand} {v : TV} (hx : ev env x = some v) (he : v = .bool true) : Yd P w0 env objs ⟨dd, .unOp .not t x, T0, pos, af, g⟩ (.bool false) := ⟨y_not_b (b := true) rfl (he ▸ hx)⟩
theorem Y_not_f {t : TypeId} {x : Operand} {v : TV} (hx : ev env x = some v) (he : v = .bool false) : Yd P w0 env objs ⟨dd, .unOp .not t x, T0, pos, af, g⟩ (.bool true) := ⟨y_not_b (b := false) rfl (he ▸ hx)⟩
theorem Y_not {t : TypeId} {x : Operand} {p : Prop} {i : Decidable p} {v : TV} (hx : ev env x = some v) (he : v = .bool (@decide p i)) : Yd P w0 env objs ⟨dd, .unOp .not t x, T0, pos, af, g⟩ (.bool (decide (¬ p))) := ⟨y_not rfl (he ▸ hx)⟩
theorem Y_not_b {t : TypeId} {x : Operand} {b : Bool} {v : TV} (hx : ev env x = some v) (he : v = .bool b) : Yd P w0 env objs ⟨dd, .unOp .not t x, T0, pos, af, g⟩ (.bool (!b)) := ⟨y_not_b rfl (he ▸ hx)⟩
theorem Y_eql_s {t t2 : TypeId} {x y : Operand} {s u : ByteArray} (hx : ev env x = some (.str s)) (hy : ev env y = some (.str u)) : Yd P w0 env objs ⟨dd, .binOp .eql t x y t2, T0, pos, af, g⟩ (.bool (decide (s = u))) := ⟨y_eql_s rfl hx hy⟩
theorem Y_neq_s {t t2 : TypeId} {x y : Operand} {s u : ByteArray} (hx : ev env x = some (.str s)) (hy : ev env y = some (.str u)) : Yd P w0 env objs ⟨dd, .binOp .neq t x y t2, T0, pos, af, g⟩ (.bool (decide (s ≠ u))) := ⟨y_neq_s rfl hx hy⟩
theorem Y_conv_int {src dst : TypeId} {x : Operand} {k k2 : IntKind} {m c : Int} (hx : ev env x = some (.int k m)) (hk : kdT dst = some k2) (hs : (P.underlying src).isSome = true) (hd : P.underlying dst = some (.int k2)) (hc : k2.wrap m = c) : Yd P w0 env objs ⟨dd, .convert src dst x, T0, pos, af, g⟩ (.int k2 c) := ⟨y_conv_int rfl hx hk hs hd hc⟩
theorem Y_nilCheck_cp {x : Operand} {f : Nat} {l : List TV} (hx : ev env x = some (.cp f l)) : Yd P w0 env objs ⟨dd, .nilCheck x, T0, pos, af, g⟩ (.cp f l) := ⟨y_nilCheck rfl hx (fun _ => .cp f l)⟩
theorem Y_nilCheck_mp {x : Operand} {s b off : Nat} {cells : List TV} (hx : ev env x = some (.mp s b off)) (hm : (s, b, TObj.box cells) ∈ objs) : Yd P w0 env objs ⟨dd, .nilCheck x, T0, pos, af, g⟩ (.mp s b off) := ⟨y_nilCheck rfl hx (fun _ => .mp s b off cells hm)⟩
theorem Y_nilCheck_me {x : Operand} {s b m j off : Nat} {rows : List (List TV)} {r0 : List TV} (hx : ev env x = some (.me s b m j off)) (hm : (s, b, TObj.row m rows) ∈ objs) (hr : rows[j]? = some r0) : Yd P w0 env objs ⟨dd, .nilCheck x, T0, pos, af, g⟩ (.me s b m j off) := ⟨y_nilCheck rfl hx (fun _ => .me s b m j off rows r0 hm hr)⟩
theorem Y_load_agg_me {T : TypeId} {x : Operand} {out : List TV} {s b m j off : Nat} {rows : List (List TV)} {r0 : List TV} (_hA : agT T = true) (hT : isAggB P T = true) (hi : (P.info? T).isSome = true) (hs : P.cellsOf T = szT T) (hx : ev env x = some (.me s b m j off)) (hm : (s, b, TObj.row m rows) ∈ objs) (hr : rows[j]? = some r0) (htk : Taken (szT T) (r0.drop off) out) : Yd P w0 env objs ⟨dd, .load T x, T0, pos, af, g⟩ (.agg out) := ⟨y_load_agg rfl hT hi hs hx (fun _ => .me s b m j off rows r0 hm hr) htk⟩
theorem Y_load_agg_cp {T : TypeId} {x : Operand} {out : List TV} {f : Nat} {l : List TV} (_hA : agT T = true) (hT : isAggB P T = true) (hi : (P.info? T).isSome = true) (hs : P.cellsOf T = szT T) (hx : ev env x = some (.cp f l)) (htk : Taken (szT T) (l) out) : Yd P w0 env objs ⟨dd, .load T x, T0, pos, af, g⟩ (.agg out) := ⟨y_load_agg rfl hT hi hs hx (fun _ => .cp f l) htk⟩
theorem Y_load_agg_mp {T : TypeId} {x : Operand} {out : List TV} {s b off : Nat} {cells : List TV} (_hA : agT T = true) (hT : isAggB P T = true) (hi : (P.info? T).isSome = true) (hs : P.cellsOf T = szT T) (hx : ev env x = some (.mp s b off)) (hm : (s, b, TObj.box cells) ∈ objs) (htk : Taken (szT T) (cells.drop off) out) : Yd P w0 env objs ⟨dd, .load T x, T0, pos, af, g⟩ (.agg out) := ⟨y_load_agg rfl hT hi hs hx (fun _ => .mp s b off cells hm) htk⟩
theorem Y_extract {x : Operand} {i : Nat} {l : List TV} {u : TV} (hx : ev env x = some (.tup l)) (ht : l[i]? = some u) : Yd P w0 env objs ⟨dd, .extract x i, T0, pos, af, g⟩ (u) := ⟨y_extract rfl hx ht⟩
theorem Y_or {t t2 : TypeId} {x y : Operand} {k : IntKind} {m n : Int} (hx : ev env x = some (.int k m)) (hy : ev env y = some (.int k n)) : Yd P w0 env objs ⟨dd, .binOp .or t x y t2, T0, pos, af, g⟩ (.int k (orI k m n)) := ⟨y_or rfl hx hy⟩
theorem Y_and {t t2 : TypeId} {x y : Operand} {k : IntKind} {m n : Int} (hx : ev env x = some (.int k m)) (hy : ev env y = some (.int k n)) : Yd P w0 env objs ⟨dd, .binOp .and t x y t2, T0, pos, af, g⟩ (.int k (andI k m n)) := ⟨y_and rfl hx hy⟩
theorem Y_field {T : TypeId} {x : Operand} {i : Nat} {l : List TV} {u : TV} (hx : ev env x = some (.agg l)) (hF : fieldB P T i = true) (hS : isScal P ((P.fieldsOf T).getD i default).type = true) (ht : l[ofT T i]? = some u) : Yd P w0 env objs ⟨dd, .field T x i, T0, pos, af, g⟩ (u) := ⟨y_field rfl hx hF hS ht⟩
theorem Y_slice_lh {T : TypeId} {x : Operand} {s : ByteArray} {lo hi : Operand} {k1 k2 : IntKind} {i j : Nat} {m n : Int} (hx : ev env x = some (.str s)) (hlo : ev env lo = some (.int k1 m)) (hhi : ev env hi = some (.int k2 n)) (hT : P.underlying T = some .string) (hm : m = (i : Int)) (hn : n = (j : Int)) (h1 : i ≤ j) (h2 : j ≤ s.size) : Yd P w0 env objs ⟨dd, .slice T x (some lo) (some hi) none, T0, pos, af, g⟩ (.str (s.extract i j)) := ⟨y_slice_lh rfl hx hlo hhi hT hm hn h1 h2⟩
theorem Y_slice_l {T : TypeId} {x : Operand} {s : ByteArray} {lo : Operand} {k1 : IntKind} {i : Nat} {m : Int} (hx : ev env x = some (.str s)) (hlo : ev env lo = some (.int k1 m)) (hT : P.underlying T = some .string) (hm : m = (i : Int)) (h1 : i ≤ s.size) : Yd P w0 env objs ⟨dd, .slice T x (some lo) none none, T0, pos, af, g⟩ (.str (s.extract i s.size)) := ⟨y_slice_l rfl hx hlo hT hm h1⟩
theorem Y_slice_h {T : TypeId} {x : Operand} {s : ByteArray} {hi : Operand} {k2 : IntKind} {j : Nat} {n : Int} (hx : ev env x = some (.str s)) (hhi : ev env hi = some (.int k2 n)) (hT : P.underlying T = some .string) (hn : n = (j : Int)) (h2 : j ≤ s.size) : Yd P w0 env objs ⟨dd, .slice T x none (some hi) none, T0, pos, af, g⟩ (.str (s.extract 0 j)) := ⟨y_slice_h rfl hx hhi hT hn h2⟩
theorem Y_quo {t t2 : TypeId} {x y : Operand} {k : IntKind} {m n c : Int} (hx : ev env x = some (.int k m)) (hy : ev env y = some (.int k n)) (hn : n ≠ 0) (hc : k.wrap (m.tdiv n) = c) : Yd P w0 env objs ⟨dd, .binOp .quo t x y t2, T0, pos, af, g⟩ (.int k c) := ⟨y_quo rfl hx hy hn hc⟩
theorem Y_rem {t t2 : TypeId} {x y : Operand} {k : IntKind} {m n c : Int} (hx : ev env x = some (.int k m)) (hy : ev env y = some (.int k n)) (hn : n ≠ 0) (hc : m.tmod n = c) : Yd P w0 env objs ⟨dd, .binOp .rem t x y t2, T0, pos, af, g⟩ (.int k c) := ⟨y_rem rfl hx hy hn hc⟩
theorem Y_add_s {t t2 : TypeId} {x y : Operand} {s u : ByteArray} (hx : ev env x = some (.str s)) (hy : ev env y = some (.str u)) (hl : s.size + u.size ≤ 9223372036854775807) : Yd P w0 env objs ⟨dd, .binOp .add t x y t2, T0, pos, af, g⟩ (.str (s ++ u)) := ⟨y_add_s rfl hx hy hl⟩
theorem Y_eql_b {t t2 : TypeId} {x y : Operand} {b c : Bool} (hx : ev env x = some (.bool b)) (hy : ev env y = some (.bool c)) (hu : P.underlying t = some .bool) : Yd P w0 env objs ⟨dd, .binOp .eql t x y t2, T0, pos, af, g⟩ (.bool (b == c)) := ⟨y_eql_b rfl hx hy hu⟩
theorem Y_neq_b {t t2 : TypeId} {x y : Operand} {b c : Bool} (hx : ev env x = some (.bool b)) (hy : ev env y = some (.bool c)) (hu : P.underlying t = some .bool) : Yd P w0 env objs ⟨dd, .binOp .neq t x y t2, T0, pos, af, g⟩ (.bool (b != c)) := ⟨y_neq_b rfl hx hy hu⟩
theorem Y_shl {t t2 : TypeId} {x y : Operand} {k k2 : IntKind} {m n : Int} (hx : ev env x = some (.int k m)) (hy : ev env y = some (.int k2 n)) (hn : 0 ≤ n) : Yd P w0 env objs ⟨dd, .binOp .shl t x y t2, T0, pos, af, g⟩ (.int k (shlI k m n)) := ⟨y_shl rfl hx hy hn⟩
theorem Y_eql_a {T t2 : TypeId} {x y : Operand} {l l' : List TV} (hx : ev env x = some (.agg l)) (hy : ev env y = some (.agg l')) (hT : feqT P T l l' = true) : Yd P w0 env objs ⟨dd, .binOp .eql T x y t2, T0, pos, af, g⟩ (.bool (eqL l l')) := ⟨y_eql_a rfl hx hy hT⟩
theorem Y_neq_a {T t2 : TypeId} {x y : Operand} {l l' : List TV} (hx : ev env x = some (.agg l)) (hy : ev env y = some (.agg l')) (hT : feqT P T l l' = true) : Yd P w0 env objs ⟨dd, .binOp .neq T x y t2, T0, pos, af, g⟩ (.bool (!(eqL l l'))) := ⟨y_neq_a rfl hx hy hT⟩
theorem o_y {op : Op} {tv : TV} (hy : Yd P w0 env objs ⟨some d, op, T0, pos, af, g⟩ tv) (hN : Nat.blt d N = true) (h : AL P w0 N ops Q rest ((d, tv) :: env) objs) : AO P w0 N ops Q ⟨some d, op, T0, pos, af, g⟩ rest env objs := ao_q rfl hN hy.go h
theorem d_y {K : Env → Prop} {op : Op} {tv : TV} (hy : Yd P w0 env objs ⟨some d, op, T0, pos, af, g⟩ tv) (hN : Nat.blt d N = true) (h : DR P w0 N ops objs K rest ((d, tv) :: env)) : DO P w0 N ops objs K ⟨some d, op, T0, pos, af, g⟩ rest env := ⟨fun hgr => .run _ _ _ _ _ rfl hN hgr hy.go h⟩
theorem u_y {K : Env → Prop} {op : Op} {tv : TV} (hy : ∀ objs, Yd P w0 env objs ⟨some d, op, T0, pos, af, none⟩ tv) (hN : Nat.blt d N = true) (h : DU P w0 N K rest ((d, tv) :: env)) : DU P w0 N K (⟨some d, op, T0, pos, af, none⟩ :: rest) env := .run _ _ _ _ _ rfl hN rfl (fun o => (hy o).go) h
end
/-- A goal that is handed on. -/
structure Bx (B : Prop) : Prop where
  go : B
theorem y_ {A : Prop} (h : A := by (first | (first | ((with_reducible first | apply Y_move | apply Y_assign | apply Y_nilCheck_cp); rfl) | ((with_reducible apply Y_pick_t); rfl; (with_reducible rfl); rfl) | ((with_reducible apply Y_pick_f); rfl; (with_reducible rfl); rfl) | ((with_reducible apply Y_load_me); rfl; kernel_rfl; rfl; (repeat (first | with_reducible exact mh | with_reducible refine mt ?_)); (first | (with_reducible assumption) | (refine row_map ?_; omega) | (refine set_row ?_; simp only [List.length_set, List.length_map]; omega) | exact rfl | assumption); rfl) | ((with_reducible apply Y_load_cp); rfl; kernel_rfl; rfl; rfl) | ((with_reducible apply Y_load_mp); rfl; kernel_rfl; rfl; (repeat (first | with_reducible exact mh | with_reducible refine mt ?_)); rfl) | ((with_reducible apply Y_fieldAddr); rfl; kernel_rfl; rfl) | ((with_reducible apply Y_indexAddr); rfl; rfl; kernel_rfl; kernel_rfl; kernel_rfl; rfl; (first | (with_reducible first | exact rfl | exact nat0 | exact nat1 | exact nat2 | exact nat3) | exact rfl | exact nat_sub (by omega) | omega); (first | (with_reducible assumption) | (refine row_map ?_; omega) | (refine set_row ?_; simp only [List.length_set, List.length_map]; omega) | exact rfl | assumption)) | ((with_reducible apply Y_indexAddr_ms); rfl; rfl; (repeat (first | with_reducible exact mh | with_reducible refine mt ?_)); kernel_rfl; kernel_rfl; kernel_rfl; (first | (with_reducible first | exact rfl | exact nat0 | exact nat1 | exact nat2 | exact nat3) | exact rfl | exact nat_sub (by omega) | omega); (first | assumption | omega); (first | with_reducible exact Nat.zero_add _ | rfl)) | ((with_reducible apply Y_len_s); rfl; kernel_rfl) | ((with_reducible apply Y_len_sl); rfl; kernel_rfl; (first | exact List.length_map _ | rfl)) | ((with_reducible apply Y_len_ms); rfl; kernel_rfl) | ((with_reducible apply Y_len_nils); rfl; kernel_rfl) | ((with_reducible first | apply Y_eql | apply Y_neq | apply Y_lss | apply Y_leq | apply Y_gtr | apply Y_geq | apply Y_extract | apply Y_or | apply Y_and); rfl; rfl) | ((with_reducible first | apply Y_add | apply Y_sub | apply Y_mul); rfl; rfl; (first | ((with_reducible first | refine w_n1 ?_ | refine w_n2 ?_ | refine w_nn ?_ | refine w_nm1 ?_ | refine IntWalk.i64_in _ ?_ | refine w_u8 _ ?_); omega) | ((with_reducible refine IntWalk.i64_in _ ?_); omega) | (with_reducible assumption) | exact rfl)) | ((with_reducible apply Y_index_s); rfl; rfl; kernel_rfl; (first | (with_reducible first | exact rfl | exact nat0 | exact nat1 | exact nat2 | exact nat3) | exact rfl | exact nat_sub (by omega) | omega); (first | assumption | omega)) | ((with_reducible apply Y_not_t); rfl; (with_reducible rfl)) | ((with_reducible apply Y_not_f); rfl; (with_reducible rfl)) | ((with_reducible apply Y_not); rfl; (with_reducible rfl)) | ((with_reducible apply Y_not_b); rfl; (with_reducible rfl)) | ((with_reducible first | apply Y_eql_s | apply Y_neq_s); rfl; rfl) | ((with_reducible apply Y_conv_int); rfl; rfl; kernel_rfl; kernel_rfl; (first | ((with_reducible first | refine w_n1 ?_ | refine w_n2 ?_ | refine w_nn ?_ | refine w_nm1 ?_ | refine IntWalk.i64_in _ ?_ | refine w_u8 _ ?_); omega) | ((with_reducible refine IntWalk.i64_in _ ?_); omega) | (with_reducible assumption) | exact rfl)) | ((with_reducible apply Y_nilCheck_mp); rfl; (repeat (first | with_reducible exact mh | with_reducible refine mt ?_))) | ((with_reducible apply Y_nilCheck_me); rfl; (repeat (first | with_reducible exact mh | with_reducible refine mt ?_)); (first | (with_reducible assumption) | (refine row_map ?_; omega) | (refine set_row ?_; simp only [List.length_set, List.length_map]; omega) | exact rfl | assumption)) | ((with_reducible apply Y_load_agg_me); rfl; kernel_rfl; kernel_rfl; kernel_rfl; rfl; (repeat (first | with_reducible exact mh | with_reducible refine mt ?_)); (first | (with_reducible assumption) | (refine row_map ?_; omega) | (refine set_row ?_; simp only [List.length_set, List.length_map]; omega) | exact rfl | assumption); (first | exact .zero _ | exact .succ _ _ _ _ (.zero _) | exact .succ _ _ _ _ (.succ _ _ _ _ (.zero _)) | exact .succ _ _ _ _ (.succ _ _ _ _ (.succ _ _ _ _ (.zero _))) | exact .succ _ _ _ _ (.succ _ _ _ _ (.succ _ _ _ _ (.succ _ _ _ _ (.zero _)))))) | ((with_reducible apply Y_load_agg_cp); rfl; kernel_rfl; kernel_rfl; kernel_rfl; rfl; (first | exact .zero _ | exact .succ _ _ _ _ (.zero _) | exact .succ _ _ _ _ (.succ _ _ _ _ (.zero _)) | exact .succ _ _ _ _ (.succ _ _ _ _ (.succ _ _ _ _ (.zero _))) | exact .succ _ _ _ _ (.succ _ _ _ _ (.succ _ _ _ _ (.succ _ _ _ _ (.zero _)))))) | ((with_reducible apply Y_load_agg_mp); rfl; kernel_rfl; kernel_rfl; kernel_rfl; rfl; (repeat (first | with_reducible exact mh | with_reducible refine mt ?_)); (first | exact .zero _ | exact .succ _ _ _ _ (.zero _) | exact .succ _ _ _ _ (.succ _ _ _ _ (.zero _)) | exact .succ _ _ _ _ (.succ _ _ _ _ (.succ _ _ _ _ (.zero _))) | exact .succ _ _ _ _ (.succ _ _ _ _ (.succ _ _ _ _ (.succ _ _ _ _ (.zero _)))))) | ((with_reducible apply Y_field); rfl; kernel_rfl; kernel_rfl; rfl) | ((with_reducible apply Y_slice_lh); rfl; rfl; rfl; kernel_rfl; (first | (with_reducible first | exact rfl | exact nat0 | exact nat1 | exact nat2 | exact nat3) | exact rfl | exact nat_sub (by omega) | omega); (first | (with_reducible first | exact rfl | exact nat0 | exact nat1 | exact nat2 | exact nat3) | exact rfl | exact nat_sub (by omega) | omega); (first | assumption | omega); (first | assumption | omega)) | ((with_reducible apply Y_slice_l); rfl; rfl; kernel_rfl; (first | (with_reducible first | exact rfl | exact nat0 | exact nat1 | exact nat2 | exact nat3) | exact rfl | exact nat_sub (by omega) | omega); (first | assumption | omega)) | ((with_reducible apply Y_slice_h); rfl; rfl; kernel_rfl; (first | (with_reducible first | exact rfl | exact nat0 | exact nat1 | exact nat2 | exact nat3) | exact rfl | exact nat_sub (by omega) | omega); (first | assumption | omega)) | ((with_reducible apply Y_quo); rfl; rfl; omega; (first | ((with_reducible first | refine w_n1 ?_ | refine w_n2 ?_ | refine w_nn ?_ | refine w_nm1 ?_ | refine IntWalk.i64_in _ ?_ | refine w_u8 _ ?_); omega) | ((with_reducible refine IntWalk.i64_in _ ?_); omega) | (with_reducible assumption) | exact rfl)) | ((with_reducible apply Y_rem); rfl; rfl; omega; exact rfl) | ((with_reducible apply Y_add_s); rfl; rfl; (first | assumption | omega)) | ((with_reducible first | apply Y_eql_b | apply Y_neq_b); rfl; rfl; kernel_rfl) | ((with_reducible apply Y_shl); rfl; rfl; omega) | ((with_reducible first | apply Y_eql_a | apply Y_neq_a); rfl; rfl; kernel_rfl)) | fail)) : A := h
theorem yu_ {A : Prop} (h : A := by (first | (intro objs; first | ((with_reducible first | apply Y_move | apply Y_assign | apply Y_nilCheck_cp); rfl) | ((with_reducible apply Y_load_cp); rfl; kernel_rfl; rfl; rfl) | ((with_reducible apply Y_fieldAddr); rfl; kernel_rfl; rfl) | ((with_reducible apply Y_indexAddr); rfl; rfl; kernel_rfl; kernel_rfl; kernel_rfl; rfl; (first | (with_reducible first | exact rfl | exact nat0 | exact nat1 | exact nat2 | exact nat3) | exact rfl | exact nat_sub (by omega) | omega); (first | (with_reducible assumption) | (refine row_map ?_; omega) | (refine set_row ?_; simp only [List.length_set, List.length_map]; omega) | exact rfl | assumption)) | ((with_reducible apply Y_len_s); rfl; kernel_rfl) | ((with_reducible apply Y_len_sl); rfl; kernel_rfl; (first | exact List.length_map _ | rfl)) | ((with_reducible first | apply Y_eql | apply Y_neq | apply Y_lss | apply Y_leq | apply Y_gtr | apply Y_geq | apply Y_extract); rfl; rfl) | ((with_reducible first | apply Y_add | apply Y_sub | apply Y_mul); rfl; rfl; (first | ((with_reducible first | refine w_n1 ?_ | refine w_n2 ?_ | refine w_nn ?_ | refine w_nm1 ?_ | refine IntWalk.i64_in _ ?_ | refine w_u8 _ ?_); omega) | ((with_reducible refine IntWalk.i64_in _ ?_); omega) | (with_reducible assumption) | exact rfl)) | ((with_reducible apply Y_index_s); rfl; rfl; kernel_rfl; (first | (with_reducible first | exact rfl | exact nat0 | exact nat1 | exact nat2 | exact nat3) | exact rfl | exact nat_sub (by omega) | omega); (first | assumption | omega)) | ((with_reducible apply Y_conv_int); rfl; rfl; kernel_rfl; kernel_rfl; (first | ((with_reducible first | refine w_n1 ?_ | refine w_n2 ?_ | refine w_nn ?_ | refine w_nm1 ?_ | refine IntWalk.i64_in _ ?_ | refine w_u8 _ ?_); omega) | ((with_reducible refine IntWalk.i64_in _ ?_); omega) | (with_reducible assumption) | exact rfl)) | ((with_reducible apply Y_load_agg_cp); rfl; kernel_rfl; kernel_rfl; kernel_rfl; rfl; (first | exact .zero _ | exact .succ _ _ _ _ (.zero _) | exact .succ _ _ _ _ (.succ _ _ _ _ (.zero _)) | exact .succ _ _ _ _ (.succ _ _ _ _ (.succ _ _ _ _ (.zero _))) | exact .succ _ _ _ _ (.succ _ _ _ _ (.succ _ _ _ _ (.succ _ _ _ _ (.zero _))))))) | fail)) : A := h
theorem rr_ {A : Prop} (h : A := by (first | with_reducible rfl | fail)) : A := h
theorem dd_ {A : Prop} (h : A := by (first | assumption | omega | fail)) : A := h
theorem e_alloc {A B : Prop} (h : B) (hi : Bx B → A := by (first | (intro hB; (with_reducible apply o_alloc); rfl; rfl; kernel_rfl; exact hB.go) | fail)) : A := hi ⟨h⟩
theorem e_own {A B : Prop} (h : B) (hi : Bx B → A := by (first | (intro hB; (with_reducible apply o_own); rfl; rfl; kernel_rfl; kernel_rfl; rfl; kernel_rfl; rfl; rfl; rfl; rfl; exact hB.go) | fail)) : A := hi ⟨h⟩
theorem e_make {A B : Prop} (h : B) (hi : Bx B → A := by (first | (intro hB; (with_reducible apply o_make); rfl; rfl; rfl; (first | (with_reducible first | exact rfl | exact nat0 | exact nat1 | exact nat2 | exact nat3) | exact rfl | exact nat_sub (by omega) | omega); kernel_rfl; kernel_rfl; rfl; rfl; kernel_rfl; omega; exact hB.go) | fail)) : A := hi ⟨h⟩
theorem e_box {A B : Prop} (h : B) (hi : Bx B → A := by (first | (intro hB; (with_reducible apply o_box); rfl; rfl; rfl; exact hB.go) | fail)) : A := hi ⟨h⟩
theorem e_lit {A B : Prop} (h : B) (hi : Bx B → A := by (first | (intro hB; (with_reducible apply o_lit); rfl; rfl; kernel_rfl; kernel_rfl; rfl; kernel_rfl; rfl; rfl; rfl; rfl; exact hB.go) | fail)) : A := hi ⟨h⟩
theorem e_litd {A B : Prop} (h : B) (hi : Bx B → A := by (first | (intro hB; (with_reducible apply d_lit); rfl; rfl; kernel_rfl; kernel_rfl; rfl; kernel_rfl; rfl; rfl; rfl; rfl; exact hB.go) | fail)) : A := hi ⟨h⟩
theorem e_storep {A B : Prop} (h : B) (hi : Bx B → A := by (first | (intro hB; (with_reducible apply o_store_mp); rfl; rfl; rfl; kernel_rfl; (repeat (first | with_reducible exact mh | with_reducible refine mt ?_)); (first | exact .nil _ | exact .put _ _ _ _ _ (.nil _) | exact .skip _ _ _ _ _ (.put _ _ _ _ _ (.nil _)) | exact .skip _ _ _ _ _ (.skip _ _ _ _ _ (.put _ _ _ _ _ (.nil _))) | (repeat (first | exact .nil _ | apply Splice.put | apply Splice.skip))); (repeat (first | with_reducible exact Upd.head _ | with_reducible apply Upd.tail)); kernel_rfl; exact hB.go) | fail)) : A := hi ⟨h⟩
theorem e_store {A B : Prop} (h : B) (hi : Bx B → A := by (first | (intro hB; (with_reducible apply o_store_me); rfl; rfl; rfl; kernel_rfl; (repeat (first | with_reducible exact mh | with_reducible refine mt ?_)); (first | (with_reducible assumption) | (refine row_map ?_; omega) | (refine set_row ?_; simp only [List.length_set, List.length_map]; omega) | exact rfl | assumption); (first | exact .nil _ | exact .put _ _ _ _ _ (.nil _) | exact .skip _ _ _ _ _ (.put _ _ _ _ _ (.nil _)) | exact .skip _ _ _ _ _ (.skip _ _ _ _ _ (.put _ _ _ _ _ (.nil _))) | (repeat (first | exact .nil _ | apply Splice.put | apply Splice.skip))); kernel_rfl; rfl; (repeat (first | with_reducible exact Upd.head _ | with_reducible apply Upd.tail)); exact hB.go) | fail)) : A := hi ⟨h⟩
theorem e_app {A B : Prop} (h : B) (hi : Bx B → A := by (first | (intro hB; (with_reducible apply o_append); rfl; rfl; rfl; kernel_rfl; (repeat (first | with_reducible exact mh | with_reducible refine mt ?_)); (first | with_reducible assumption | exact bytR_length _ | exact intR_length _ | exact strR_length _ | exact List.length_map _ | assumption | rfl); (first | (show List.length _ = 1; rfl) | (show List.length _ = 2; rfl) | (show List.length _ = 0; rfl) | (show List.length _ = 3; rfl) | (first | with_reducible assumption | exact bytR_length _ | exact intR_length _ | exact strR_length _ | exact List.length_map _ | assumption | rfl)); omega; rfl; (intro bq; (repeat (first | with_reducible exact Upd.head _ | with_reducible apply Upd.tail))); exact hB.go) | fail)) : A := hi ⟨h⟩
theorem e_appq {A B : Prop} (h : B) (hi : Bx B → A := by (first | (intro hB; (with_reducible apply o_append_q); rfl; rfl; rfl; kernel_rfl; (repeat (first | with_reducible exact mh | with_reducible refine mt ?_)); (with_reducible assumption); (first | assumption | omega); (first | (show List.length _ = 1; rfl) | (show List.length _ = 2; rfl) | (show List.length _ = 0; rfl) | (show List.length _ = 3; rfl) | (first | with_reducible assumption | exact bytR_length _ | exact intR_length _ | exact strR_length _ | exact List.length_map _ | assumption | rfl)); omega; (intro bq pq; (repeat (first | with_reducible exact Upd.head _ | with_reducible apply Upd.tail))); exact hB.go) | fail)) : A := hi ⟨h⟩
theorem e_build {A B : Prop} (h : B) (hi : Bx B → A := by (first | (intro hB; (with_reducible apply o_build); rfl; rfl; (repeat (first | exact TB.nil _ | ((with_reducible apply TB.cons); rfl; rfl; (first | exact .nil _ | exact .put _ _ _ _ _ (.nil _) | exact .skip _ _ _ _ _ (.put _ _ _ _ _ (.nil _)) | exact .skip _ _ _ _ _ (.skip _ _ _ _ _ (.put _ _ _ _ _ (.nil _))) | (repeat (first | exact .nil _ | apply Splice.put | apply Splice.skip))); kernel_rfl))); kernel_rfl; kernel_rfl; exact hB.go) | fail)) : A := hi ⟨h⟩
theorem e_buildd {A B : Prop} (h : B) (hi : Bx B → A := by (first | (intro hB; (with_reducible apply d_build); rfl; rfl; (repeat (first | exact TB.nil _ | ((with_reducible apply TB.cons); rfl; rfl; (first | exact .nil _ | exact .put _ _ _ _ _ (.nil _) | exact .skip _ _ _ _ _ (.put _ _ _ _ _ (.nil _)) | exact .skip _ _ _ _ _ (.skip _ _ _ _ _ (.put _ _ _ _ _ (.nil _))) | (repeat (first | exact .nil _ | apply Splice.put | apply Splice.skip))); kernel_rfl))); kernel_rfl; kernel_rfl; exact hB.go) | fail)) : A := hi ⟨h⟩
theorem e_slms {A B : Prop} (h : B) (hi : Bx B → A := by (first | (intro hB; (with_reducible apply o_slice_ms); rfl; rfl; rfl; (repeat (first | with_reducible exact mh | with_reducible refine mt ?_)); kernel_rfl; kernel_rfl; kernel_rfl; (first | (with_reducible first | exact rfl | exact nat0 | exact nat1 | exact nat2 | exact nat3) | exact rfl | exact nat_sub (by omega) | omega); (first | assumption | omega); exact hB.go) | fail)) : A := hi ⟨h⟩
theorem e_slh {A B : Prop} (h : B) (hi : Bx B → A := by (first | (intro hB; (with_reducible apply o_slice_h_sl); rfl; rfl; rfl; kernel_rfl; kernel_rfl; (first | (with_reducible first | exact rfl | exact nat0 | exact nat1 | exact nat2 | exact nat3) | exact rfl | exact nat_sub (by omega) | omega); (first | assumption | omega); (first | (with_reducible assumption) | rfl); exact hB.go) | fail)) : A := hi ⟨h⟩
theorem e_slhd {A B : Prop} (h : B) (hi : Bx B → A := by (first | (intro hB; (with_reducible apply d_slice_h_sl); rfl; rfl; rfl; kernel_rfl; kernel_rfl; (first | (with_reducible first | exact rfl | exact nat0 | exact nat1 | exact nat2 | exact nat3) | exact rfl | exact nat_sub (by omega) | omega); (first | assumption | omega); (first | (with_reducible assumption) | rfl); exact hB.go) | fail)) : A := hi ⟨h⟩
theorem e_sll {A B : Prop} (h : B) (hi : Bx B → A := by (first | (intro hB; (with_reducible apply o_slice_l_sl); rfl; rfl; rfl; kernel_rfl; kernel_rfl; kernel_rfl; (first | (with_reducible first | exact rfl | exact nat0 | exact nat1 | exact nat2 | exact nat3) | exact rfl | exact nat_sub (by omega) | omega); (first | assumption | omega); (first | (with_reducible assumption) | rfl); exact hB.go) | fail)) : A := hi ⟨h⟩
theorem e_mkf {A B : Prop} (h : B) (hi : Bx B → A := by (first | (intro hB; (with_reducible apply o_makeFunc); rfl; (repeat (first | exact Evs.nil | ((with_reducible apply Evs.cons); rfl))); exact hB.go) | fail)) : A := hi ⟨h⟩
theorem we_ {A : Prop} (h : A := by (first | (first | rfl | exact lk_ms rfl (by first | omega | (simp; done) | (simp; omega)) | exact lk_int rfl (by simp [*]) | exact lk_bool rfl (by simp [*]) | exact lk_str rfl (by simp [*])) | fail)) : A := h
theorem pk_ {A : Prop} (h : A := by (first | ((try dsimp only); (repeat (first | with_reducible exact Pick.refl _ | with_reducible exact Pick.nil _ | (apply Pick.consE; (repeat (first | with_reducible exact DelS.head _ | with_reducible apply DelS.tail)); (first | with_reducible rfl | (focus (simp [intR, nts]; done)) | (focus (simp [intR, nts]; omega)) | rfl)) | ((fail_if_success (apply Pick.consE)); refine Pick.drop ?_)))) | fail)) : A := h
theorem nw_ {A : Prop} (h : A := by (first | (repeat (first | exact Weak.envNil | refine Weak.envCons (by first | rfl | exact lk_ms rfl (by first | omega | (simp; done) | (simp; omega)) | exact lk_int rfl (by simp [*]) | exact lk_bool rfl (by simp [*]) | exact lk_str rfl (by simp [*])) ?_)) | fail)) : A := h
theorem od_ {A : Prop} (h : A := by (first | (repeat (first | exact Weak.envNil | refine Weak.envCons rfl ?_)) | fail)) : A := h
theorem x_ {A : Prop} (h : A := by (first | (first | exact .inl rfl | exact .inr rfl) | fail)) : A := h
theorem mm_ {A : Prop} (h : A := by (first | ((repeat (first | with_reducible exact mh | with_reducible refine mt ?_))) | fail)) : A := h
theorem kp_ {A : Prop} (h : A := by (first | (repeat (first | exact Kept.nil | (apply Kept.cons; rfl))) | fail)) : A := h
section
variable {P : Program} {w0 : World} {G : World → Prop} {f : Nat} {args : List TV} {r : Nat → TV}
/-- A call that is handed on. -/
structure Cx (P : Program) (w0 : World) (G : World → Prop) (f : Nat) (args : List TV) (r : Nat → TV) (B : Prop) : Prop where
  hG : G w0
  hst : Stable G
  ct : Ct P G f args r
  go : B
theorem o_call2 {N : Nat} {Q : Exit → Act → World → Prop} {env : Env} {objs : Objs} {ops : Array Oper} {rest : List Oper} {d T0 : Nat} {pos : String} {af : Array Edge} {g : Option (Nat × Bool)} {xs : List Operand} {ts : Array TypeId} (hN : Nat.blt d N = true) (hc : callB P f = true) (hct : Ct P G f args r) (hargs : Args env objs xs args) (hG : G w0) (hst : Stable G) (h : AL P w0 N ops Q rest ((d, r w0.heap.size) :: env) objs) : AO P w0 N ops Q ⟨some d, .call { callee := .value (.func f), args := xs.toArray, argTypes := ts }, T0, pos, af, g⟩ rest env objs := o_call hN hc hargs hG hst hct h
theorem d_call2 {N : Nat} {K : Env → Prop} {env : Env} {objs : Objs} {ops : Array Oper} {rest : List Oper} {d T0 : Nat} {pos : String} {af : Array Edge} {g : Option (Nat × Bool)} {xs : List Operand} {ts : Array TypeId} (hN : Nat.blt d N = true) (hc : callB P f = true) (hct : Ct P G f args r) (hargs : Args env objs xs args) (hG : G w0) (hst : Stable G) (h : DR P w0 N ops objs K rest ((d, r w0.heap.size) :: env)) : DO P w0 N ops objs K ⟨some d, .call { callee := .value (.func f), args := xs.toArray, argTypes := ts }, T0, pos, af, g⟩ rest env := d_call hN hc hargs hG hst hct h
theorem e_call {A B : Prop} (hG : G w0) (hst : Stable G) (hct : Ct P G f args r) (h : B) (hi : Cx P w0 G f args r B → A := by (first | (intro hB; (with_reducible apply o_call2); rfl; kernel_rfl; exact (Cx.ct hB); ((repeat (first | exact Args.nil | ((with_reducible apply Args.cons); rfl; exact .same _)))); exact (Cx.hG hB); exact (Cx.hst hB); exact (Cx.go hB)) | fail)) : A := hi ⟨hG, hst, hct, h⟩
theorem e_calld {A B : Prop} (hG : G w0) (hst : Stable G) (hct : Ct P G f args r) (h : B) (hi : Cx P w0 G f args r B → A := by (first | (intro hB; (with_reducible apply d_call2); rfl; kernel_rfl; exact (Cx.ct hB); ((repeat (first | exact Args.nil | ((with_reducible apply Args.cons); rfl; exact .same _)))); exact (Cx.hG hB); exact (Cx.hst hB); exact (Cx.go hB)) | fail)) : A := hi ⟨hG, hst, hct, h⟩
theorem e_calldv {A B : Prop} (hG : G w0) (hst : Stable G) (hct : Ct P G f args r) (h : B) (hi : Cx P w0 G f args r B → A := by (first | (intro hB; (with_reducible apply d_call2); rfl; kernel_rfl; exact (Cx.ct hB); ((repeat (first | exact Args.nil | ((with_reducible apply Args.cons); rfl; (first | with_reducible exact View.same _ | ((with_reducible apply View.msAll); (repeat (first | with_reducible exact mh | with_reducible refine mt ?_)); (first | with_reducible assumption | exact bytR_length _ | exact intR_length _ | exact strR_length _ | exact List.length_map _ | assumption | rfl)) | ((with_reducible apply view_code); (repeat (first | with_reducible exact mh | with_reducible refine mt ?_)); (first | with_reducible assumption | exact bytR_length _ | exact intR_length _ | exact strR_length _ | exact List.length_map _ | assumption | rfl))))))); exact (Cx.hG hB); exact (Cx.hst hB); exact (Cx.go hB)) | fail)) : A := hi ⟨hG, hst, hct, h⟩
end
end Go.Proofs.YthpdkhejeookhaaGreatDoor
/- What the arguments of a law are to the walk. -/
namespace Go.Proofs.YthpdkhejeookhaaGreatDoor
open Go Go.RowKit
mutual
def PT.tvs : PT → List TV
  | .int k n => [.int k n]
  | .bool b => [.bool b]
  | .str s => [.str s]
  | .agg l => PT.tvsL l
  | .sl _ _ m l => [.sl 0 m (PT.rowsL l)]
def PT.tvsL : List PT → List TV
  | [] => []
  | t :: r => PT.tvs t ++ PT.tvsL r
def PT.rowsL : List PT → List (List TV)
  | [] => []
  | t :: r => PT.tvs t :: PT.rowsL r
end
theorem PT.rowsL_map (l : List PT) : PT.rowsL l = l.map PT.tvs := by
  induction l with
  | nil => rfl
  | cons t r ih => simp [PT.rowsL, ih]
theorem PT.rows_flat (l : List PT) : (PT.rowsL l).flatten = PT.tvsL l := by
  induction l with
  | nil => rfl
  | cons t r ih => simp [PT.rowsL, PT.tvsL, ih]
def TvOk (w : World) (ts : List TV) (vs : List Value) : Prop := ts.length = vs.length ∧ (∀ t ∈ ts, t.isCell = true) ∧ ∀ (i : Nat) (t : TV) (v : Value), ts[i]? = some t → vs[i]? = some v → Rep w [] t v
theorem TvOk.append {w : World} {a b : List TV} {x y : List Value} (h : TvOk w a x) (k : TvOk w b y) : TvOk w (a ++ b) (x ++ y) := by
  refine ⟨by simp [h.1, k.1], fun t ht => ?_, fun i t v ht hv => ?_⟩
  · rcases List.mem_append.1 ht with ht | ht
    · exact h.2.1 t ht
    · exact k.2.1 t ht
  · by_cases hi : i < a.length
    · rw [List.getElem?_append_left hi] at ht
      rw [List.getElem?_append_left (by rw [← h.1]; exact hi)] at hv
      exact h.2.2 i t v ht hv
    · rw [List.getElem?_append_right (by omega)] at ht
      rw [List.getElem?_append_right (by rw [← h.1]; omega)] at hv
      rw [← h.1] at hv
      exact k.2.2 _ t v ht hv
theorem TvOk.one {w : World} {t : TV} {v : Value} (h : Rep w [] t v) (hc : t.isCell = true) : TvOk w [t] [v] := ⟨rfl, by simpa using hc, fun i u x hu hx => by
  cases i with
  | zero => simp at hu hx; subst hu; subst hx; exact h
  | succ i => simp at hu⟩
mutual
theorem tv_ok (w : World) (S : Nat → Prop) : ∀ t : PT, Seen w S t → TvOk w t.tvs t.cells
  | .int k n, _ => .one (.int k n) rfl
  | .bool b, _ => .one (.bool b) rfl
  | .str s, _ => .one (.str s) rfl
  | .agg l, h => by
    simp only [PT.tvs, PT.cells]
    simp only [Seen] at h
    exact tvL_ok w S l h
  | .sl A c m l, h => by
    simp only [PT.tvs, PT.cells]
    simp only [Seen] at h
    obtain ⟨h1, h2, h3, h4, h5⟩ := h
    have h6 := tvL_ok w S l h5
    have hlen : (PT.rowsL l).length = l.length := by rw [PT.rowsL_map]; simp
    refine .one ?_ rfl
    have key : ∀ j, ∃ u, ∀ t, (PT.tvsL l)[j]? = some t → ∃ b o, A = some ⟨b, o, none⟩ ∧ w.cell? ⟨b, o + j, none⟩ = some u ∧ Rep w [] t u := fun j => by
      cases hj : (PT.cellsL l)[j]? with
      | none =>
        refine ⟨undef, fun t ht => ?_⟩
        have : j < (PT.tvsL l).length := (List.getElem?_eq_some_iff.1 ht).1
        rw [h6.1] at this
        rw [List.getElem?_eq_getElem this] at hj; cases hj
      | some u =>
        refine ⟨u, fun t ht => ?_⟩
        obtain ⟨b, o, e1, _, e2⟩ := h3 j u hj
        exact ⟨b, o, e1, e2, h6.2.2 j t u ht hj⟩
    have hr := Rep.sl (w := w) (objs := []) 0 m (PT.rowsL l) A c (by omega) h2 (fun r hr => by
        rw [PT.rowsL_map] at hr
        obtain ⟨t, ht, rfl⟩ := List.mem_map.1 hr
        rw [← h4 t ht]
        exact (seenL_mem w S l h5 t ht).1) (fun t ht => by rw [PT.rows_flat] at ht; exact h6.2.1 t ht) (fun j => Classical.choose (key j))
      (fun j t hj => by
        rw [PT.rows_flat] at hj
        obtain ⟨b, o, e1, e2, _⟩ := Classical.choose_spec (key j) t hj
        exact ⟨b, o, e1, zz_nil b, e2⟩)
      (fun j t hj => by
        rw [PT.rows_flat] at hj
        obtain ⟨b, o, _, _, e3⟩ := Classical.choose_spec (key j) t hj
        exact e3)
    rw [hlen] at hr
    exact hr
theorem tvL_ok (w : World) (S : Nat → Prop) : ∀ l : List PT, SeenL w S l → TvOk w (PT.tvsL l) (PT.cellsL l)
  | [], _ => ⟨rfl, by simp [PT.tvsL], by simp [PT.tvsL]⟩
  | t :: r, h => by
    simp only [PT.tvsL, PT.cellsL]
    simp only [SeenL] at h
    exact (tv_ok w S t h.1).append (tvL_ok w S r h.2)
theorem seenL_mem (w : World) (S : Nat → Prop) : ∀ l : List PT, SeenL w S l → ∀ t ∈ l, TvOk w t.tvs t.cells
  | [], _, t, ht => by simp at ht
  | x :: r, h, t, ht => by
    simp only [SeenL] at h
    rcases List.mem_cons.1 ht with e | ht
    · rw [e]; exact tv_ok w S x h.1
    · exact seenL_mem w S r h.2 t ht
end
end Go.Proofs.YthpdkhejeookhaaGreatDoor
