/- Part 6 of the proof: the texts EngAA, TvA. -/
import Derived.Test.YthpdkhejeookhaaGreatDoorPart5
import Derived.Test.YthpdkhejeookhaaGreatDoorPart2
/- The abstract walk, part 20: the rules with their side goals as default arguments. Written by gen_eng2.py. -/
namespace Go.Proofs.YthpdkhejeookhaaGreatDoor
open Go Go.RowKit
section
structure Yd (P : Program) (w0 : World) (env : Env) (objs : bp) (o : Oper) (tv : TV) : Prop where
  go : bs P w0 env objs o tv
variable {P : Program} {w0 : World} {N : Nat} {Q : Exit → Act → World → Prop} {env : Env} {objs : bp} {ops : Array Oper} {rest : List Oper} {d T0 : Nat} {dd : Option Nat} {pos : String} {af : Array Edge} {g : Option (Nat × Bool)}
theorem tq {x : Operand} {tv : TV} (hx : ev env x = some tv) : Yd P w0 env objs ⟨dd, .move x, T0, pos, af, g⟩ (tv) := ⟨yj rfl hx⟩
theorem m8 {x : Operand} {tv : TV} (hx : ev env x = some tv) : Yd P w0 env objs ⟨dd, .assign x, T0, pos, af, g⟩ (tv) := ⟨rj rfl hx⟩
theorem q7 {c x y : Operand} {tv cv : TV} (hc : ev env c = some cv) (he : cv = .bool true) (hx : ev env x = some tv) : Yd P w0 env objs ⟨dd, .pick c x y, T0, pos, af, g⟩ (tv) := ⟨vH rfl hc he hx⟩
theorem qN {c x y : Operand} {tv cv : TV} (hc : ev env c = some cv) (he : cv = .bool false) (hx : ev env y = some tv) : Yd P w0 env objs ⟨dd, .pick c x y, T0, pos, af, g⟩ (tv) := ⟨vN rfl hc he hx⟩
theorem o9 {T : TypeId} {x : Operand} {c : TV} {rr : List TV} {s b m j off : Nat} {rows : List (List TV)} {r0 : List TV} (_hA : agT T = false) (hT : fT P T = true) (hx : ev env x = some (.me s b m j off)) (hm : (s, b, ca.row m rows) ∈ objs) (hr : rows[j]? = some r0) (hl : r0.drop off = c :: rr) : Yd P w0 env objs ⟨dd, .load T x, T0, pos, af, g⟩ (c) := ⟨uw rfl hT hx (fun _ => .me s b m j off rows r0 hm hr) hl⟩
theorem ku {T : TypeId} {x : Operand} {c : TV} {rr : List TV} {f : Nat} {l : List TV} (_hA : agT T = false) (hT : fT P T = true) (hx : ev env x = some (.cp f l)) (hl : l = c :: rr) : Yd P w0 env objs ⟨dd, .load T x, T0, pos, af, g⟩ (c) := ⟨uw rfl hT hx (fun _ => .cp f l) hl⟩
theorem nE {T : TypeId} {x : Operand} {c : TV} {rr : List TV} {s b off : Nat} {cells : List TV} (_hA : agT T = false) (hT : fT P T = true) (hx : ev env x = some (.mp s b off)) (hm : (s, b, ca.box cells) ∈ objs) (hl : cells.drop off = c :: rr) : Yd P w0 env objs ⟨dd, .load T x, T0, pos, af, g⟩ (c) := ⟨uw rfl hT hx (fun _ => .mp s b off cells hm) hl⟩
theorem gH {T : TypeId} {x : Operand} {tv tv2 : TV} {i : Nat} (hx : ev env x = some tv) (hF : j3 P T i = true) (ht : xL (ofT T i) tv = some tv2) : Yd P w0 env objs ⟨dd, .fieldAddr T x i, T0, pos, af, g⟩ (tv2) := ⟨qt rfl hx hF ht⟩
theorem gD {T : TypeId} {x i : Operand} {f m : Nat} {rows : List (List TV)} {kk : IntKind} {n : Int} {j : Nat} {r : List TV} (hx : ev env x = some (.sl f m rows)) (hi : ev env i = some (.int kk n)) (hT : P.underlying T = some (.slice (P.elem T))) (hI : (P.info? (P.elem T)).isSome = true) (hm : P.cellsOf (P.elem T) = m) (hm0 : Nat.blt 0 m = true) (hn : n = (j : Int)) (hr : rows[j]? = some r) : Yd P w0 env objs ⟨dd, .indexAddr T x i, T0, pos, af, g⟩ (.cp f r) := ⟨pR rfl hx hi hT hI hm hm0 hn hr⟩
theorem gA {T : TypeId} {x i : Operand} {s b off len m : Nat} {rows : List (List TV)} {kk : IntKind} {n : Int} {j jj : Nat} (hx : ev env x = some (.ms s b off len)) (hi : ev env i = some (.int kk n)) (hobj : (s, b, ca.row m rows) ∈ objs) (hT : P.underlying T = some (.slice (P.elem T))) (hI : (P.info? (P.elem T)).isSome = true) (hm : P.cellsOf (P.elem T) = m) (hn : n = (j : Int)) (hk : j < len) (hkk : off + j = jj) : Yd P w0 env objs ⟨dd, .indexAddr T x i, T0, pos, af, g⟩ (.me s b m jj 0) := ⟨hkk ▸ kR rfl hx hi hobj hT hI hm hn hk⟩
theorem qa {x : Operand} {t : TypeId} {s : ByteArray} (hx : ev env x = some (.str s)) (hT : P.underlying t = some .string) : Yd P w0 env objs ⟨dd, .call { callee := .builtin .len, args := #[x], argTypes := #[t] }, T0, pos, af, g⟩ (.int .i64 (s.size : Int)) := ⟨xt rfl hx hT⟩
theorem ni {x : Operand} {t : TypeId} {f m n : Nat} {rows : List (List TV)} (hx : ev env x = some (.sl f m rows)) (hT : P.underlying t = some (.slice (P.elem t))) (hn : rows.length = n) : Yd P w0 env objs ⟨dd, .call { callee := .builtin .len, args := #[x], argTypes := #[t] }, T0, pos, af, g⟩ (.int .i64 (n : Int)) := ⟨wk rfl hx hT hn⟩
theorem q1 {x : Operand} {t : TypeId} {s b off len : Nat} (hx : ev env x = some (.ms s b off len)) (hT : P.underlying t = some (.slice (P.elem t))) : Yd P w0 env objs ⟨dd, .call { callee := .builtin .len, args := #[x], argTypes := #[t] }, T0, pos, af, g⟩ (.int .i64 (len : Int)) := ⟨vM rfl hx hT⟩
theorem lr {x : Operand} {t : TypeId} (hx : ev env x = some .nils) (hT : P.underlying t = some (.slice (P.elem t))) : Yd P w0 env objs ⟨dd, .call { callee := .builtin .len, args := #[x], argTypes := #[t] }, T0, pos, af, g⟩ (.int .i64 0) := ⟨sa rfl hx hT⟩
theorem xN {t t2 : TypeId} {x y : Operand} {k : IntKind} {m n : Int} (hx : ev env x = some (.int k m)) (hy : ev env y = some (.int k n)) : Yd P w0 env objs ⟨dd, .binOp .eql t x y t2, T0, pos, af, g⟩ (.bool (decide (m = n))) := ⟨yY rfl hx hy⟩
theorem xd {t t2 : TypeId} {x y : Operand} {k : IntKind} {m n : Int} (hx : ev env x = some (.int k m)) (hy : ev env y = some (.int k n)) : Yd P w0 env objs ⟨dd, .binOp .neq t x y t2, T0, pos, af, g⟩ (.bool (decide (m ≠ n))) := ⟨zl rfl hx hy⟩
theorem xj {t t2 : TypeId} {x y : Operand} {k : IntKind} {m n : Int} (hx : ev env x = some (.int k m)) (hy : ev env y = some (.int k n)) : Yd P w0 env objs ⟨dd, .binOp .lss t x y t2, T0, pos, af, g⟩ (.bool (decide (m < n))) := ⟨yM rfl hx hy⟩
theorem wT {t t2 : TypeId} {x y : Operand} {k : IntKind} {m n : Int} (hx : ev env x = some (.int k m)) (hy : ev env y = some (.int k n)) : Yd P w0 env objs ⟨dd, .binOp .leq t x y t2, T0, pos, af, g⟩ (.bool (decide (m ≤ n))) := ⟨zk rfl hx hy⟩
theorem xE {t t2 : TypeId} {x y : Operand} {k : IntKind} {m n : Int} (hx : ev env x = some (.int k m)) (hy : ev env y = some (.int k n)) : Yd P w0 env objs ⟨dd, .binOp .gtr t x y t2, T0, pos, af, g⟩ (.bool (decide (n < m))) := ⟨zz rfl hx hy⟩
theorem xG {t t2 : TypeId} {x y : Operand} {k : IntKind} {m n : Int} (hx : ev env x = some (.int k m)) (hy : ev env y = some (.int k n)) : Yd P w0 env objs ⟨dd, .binOp .geq t x y t2, T0, pos, af, g⟩ (.bool (decide (n ≤ m))) := ⟨zy rfl hx hy⟩
theorem w7 {t t2 : TypeId} {x y : Operand} {k : IntKind} {m n c : Int} (hx : ev env x = some (.int k m)) (hy : ev env y = some (.int k n)) (hc : k.wrap (m + n) = c) : Yd P w0 env objs ⟨dd, .binOp .add t x y t2, T0, pos, af, g⟩ (.int k c) := ⟨zi rfl hx hy hc⟩
theorem xm {t t2 : TypeId} {x y : Operand} {k : IntKind} {m n c : Int} (hx : ev env x = some (.int k m)) (hy : ev env y = some (.int k n)) (hc : k.wrap (m - n) = c) : Yd P w0 env objs ⟨dd, .binOp .sub t x y t2, T0, pos, af, g⟩ (.int k c) := ⟨yN rfl hx hy hc⟩
theorem xz {t t2 : TypeId} {x y : Operand} {k : IntKind} {m n c : Int} (hx : ev env x = some (.int k m)) (hy : ev env y = some (.int k n)) (hc : k.wrap (m * n) = c) : Yd P w0 env objs ⟨dd, .binOp .mul t x y t2, T0, pos, af, g⟩ (.int k c) := ⟨yP rfl hx hy hc⟩
theorem kL {T : TypeId} {x i : Operand} {s : ByteArray} {kk : IntKind} {n : Int} {j : Nat} (hx : ev env x = some (.str s)) (hi : ev env i = some (.int kk n)) (hT : P.underlying T = some .string) (hn : n = (j : Int)) (hk : j < s.size) : Yd P w0 env objs ⟨dd, .index T x i, T0, pos, af, g⟩ (.int .u8 (bat s j)) := ⟨ux rfl hx hi hT hn hk⟩
theorem uR {t : TypeId} {x : Operand} {v : TV} (hx : ev env x = some v) (he : v = .bool true) : Yd P w0 env objs ⟨dd, .unOp .not t x, T0, pos, af, g⟩ (.bool false) := ⟨pA (b := true) rfl (he ▸ hx)⟩
theorem uW {t : TypeId} {x : Operand} {v : TV} (hx : ev env x = some v) (he : v = .bool false) : Yd P w0 env objs ⟨dd, .unOp .not t x, T0, pos, af, g⟩ (.bool true) := ⟨pA (b := false) rfl (he ▸ hx)⟩
theorem x8 {t : TypeId} {x : Operand} {p : Prop} {i : Decidable p} {v : TV} (hx : ev env x = some v) (he : v = .bool (@decide p i)) : Yd P w0 env objs ⟨dd, .unOp .not t x, T0, pos, af, g⟩ (.bool (decide (¬ p))) := ⟨yQ rfl (he ▸ hx)⟩
theorem tE {t : TypeId} {x : Operand} {b : Bool} {v : TV} (hx : ev env x = some v) (he : v = .bool b) : Yd P w0 env objs ⟨dd, .unOp .not t x, T0, pos, af, g⟩ (.bool (!b)) := ⟨pA rfl (he ▸ hx)⟩
theorem tD {t t2 : TypeId} {x y : Operand} {s u : ByteArray} (hx : ev env x = some (.str s)) (hy : ev env y = some (.str u)) : Yd P w0 env objs ⟨dd, .binOp .eql t x y t2, T0, pos, af, g⟩ (.bool (decide (s = u))) := ⟨xK rfl hx hy⟩
theorem tA {t t2 : TypeId} {x y : Operand} {s u : ByteArray} (hx : ev env x = some (.str s)) (hy : ev env y = some (.str u)) : Yd P w0 env objs ⟨dd, .binOp .neq t x y t2, T0, pos, af, g⟩ (.bool (decide (s ≠ u))) := ⟨xl rfl hx hy⟩
theorem i8 {src dst : TypeId} {x : Operand} {k k2 : IntKind} {m c : Int} (hx : ev env x = some (.int k m)) (hk : kdT dst = some k2) (hs : (P.underlying src).isSome = true) (hd : P.underlying dst = some (.int k2)) (hc : k2.wrap m = c) : Yd P w0 env objs ⟨dd, .convert src dst x, T0, pos, af, g⟩ (.int k2 c) := ⟨sg rfl hx hk hs hd hc⟩
theorem fe {x : Operand} {f : Nat} {l : List TV} (hx : ev env x = some (.cp f l)) : Yd P w0 env objs ⟨dd, .nilCheck x, T0, pos, af, g⟩ (.cp f l) := ⟨i9 rfl hx (fun _ => .cp f l)⟩
theorem iO {x : Operand} {s b off : Nat} {cells : List TV} (hx : ev env x = some (.mp s b off)) (hm : (s, b, ca.box cells) ∈ objs) : Yd P w0 env objs ⟨dd, .nilCheck x, T0, pos, af, g⟩ (.mp s b off) := ⟨i9 rfl hx (fun _ => .mp s b off cells hm)⟩
theorem ig {x : Operand} {s b m j off : Nat} {rows : List (List TV)} {r0 : List TV} (hx : ev env x = some (.me s b m j off)) (hm : (s, b, ca.row m rows) ∈ objs) (hr : rows[j]? = some r0) : Yd P w0 env objs ⟨dd, .nilCheck x, T0, pos, af, g⟩ (.me s b m j off) := ⟨i9 rfl hx (fun _ => .me s b m j off rows r0 hm hr)⟩
theorem gV {T : TypeId} {x : Operand} {out : List TV} {s b m j off : Nat} {rows : List (List TV)} {r0 : List TV} (_hA : agT T = true) (hT : iy P T = true) (hi : (P.info? T).isSome = true) (hs : P.cellsOf T = szT T) (hx : ev env x = some (.me s b m j off)) (hm : (s, b, ca.row m rows) ∈ objs) (hr : rows[j]? = some r0) (htk : er (szT T) (r0.drop off) out) : Yd P w0 env objs ⟨dd, .load T x, T0, pos, af, g⟩ (.agg out) := ⟨eL rfl hT hi hs hx (fun _ => .me s b m j off rows r0 hm hr) htk⟩
theorem fa {T : TypeId} {x : Operand} {out : List TV} {f : Nat} {l : List TV} (_hA : agT T = true) (hT : iy P T = true) (hi : (P.info? T).isSome = true) (hs : P.cellsOf T = szT T) (hx : ev env x = some (.cp f l)) (htk : er (szT T) (l) out) : Yd P w0 env objs ⟨dd, .load T x, T0, pos, af, g⟩ (.agg out) := ⟨eL rfl hT hi hs hx (fun _ => .cp f l) htk⟩
theorem iE {T : TypeId} {x : Operand} {out : List TV} {s b off : Nat} {cells : List TV} (_hA : agT T = true) (hT : iy P T = true) (hi : (P.info? T).isSome = true) (hs : P.cellsOf T = szT T) (hx : ev env x = some (.mp s b off)) (hm : (s, b, ca.box cells) ∈ objs) (htk : er (szT T) (cells.drop off) out) : Yd P w0 env objs ⟨dd, .load T x, T0, pos, af, g⟩ (.agg out) := ⟨eL rfl hT hi hs hx (fun _ => .mp s b off cells hm) htk⟩
theorem ka {x : Operand} {i : Nat} {l : List TV} {u : TV} (hx : ev env x = some (.tup l)) (ht : l[i]? = some u) : Yd P w0 env objs ⟨dd, .extract x i, T0, pos, af, g⟩ (u) := ⟨tZ rfl hx ht⟩
theorem zE {t t2 : TypeId} {x y : Operand} {k : IntKind} {m n : Int} (hx : ev env x = some (.int k m)) (hy : ev env y = some (.int k n)) : Yd P w0 env objs ⟨dd, .binOp .or t x y t2, T0, pos, af, g⟩ (.int k (orI k m n)) := ⟨zM rfl hx hy⟩
theorem yz {t t2 : TypeId} {x y : Operand} {k : IntKind} {m n : Int} (hx : ev env x = some (.int k m)) (hy : ev env y = some (.int k n)) : Yd P w0 env objs ⟨dd, .binOp .and t x y t2, T0, pos, af, g⟩ (.int k (zI k m n)) := ⟨yX rfl hx hy⟩
theorem uS {T : TypeId} {x : Operand} {i : Nat} {l : List TV} {u : TV} (hx : ev env x = some (.agg l)) (hF : j3 P T i = true) (hS : fT P ((P.fieldsOf T).getD i default).type = true) (ht : l[ofT T i]? = some u) : Yd P w0 env objs ⟨dd, .field T x i, T0, pos, af, g⟩ (u) := ⟨xv rfl hx hF hS ht⟩
theorem ly {T : TypeId} {x : Operand} {s : ByteArray} {lo hi : Operand} {k1 k2 : IntKind} {i j : Nat} {m n : Int} (hx : ev env x = some (.str s)) (hlo : ev env lo = some (.int k1 m)) (hhi : ev env hi = some (.int k2 n)) (hT : P.underlying T = some .string) (hm : m = (i : Int)) (hn : n = (j : Int)) (h1 : i ≤ j) (h2 : j ≤ s.size) : Yd P w0 env objs ⟨dd, .slice T x (some lo) (some hi) none, T0, pos, af, g⟩ (.str (s.extract i j)) := ⟨sW rfl hx hlo hhi hT hm hn h1 h2⟩
theorem oX {T : TypeId} {x : Operand} {s : ByteArray} {lo : Operand} {k1 : IntKind} {i : Nat} {m : Int} (hx : ev env x = some (.str s)) (hlo : ev env lo = some (.int k1 m)) (hT : P.underlying T = some .string) (hm : m = (i : Int)) (h1 : i ≤ s.size) : Yd P w0 env objs ⟨dd, .slice T x (some lo) none none, T0, pos, af, g⟩ (.str (s.extract i s.size)) := ⟨ti rfl hx hlo hT hm h1⟩
theorem og {T : TypeId} {x : Operand} {s : ByteArray} {hi : Operand} {k2 : IntKind} {j : Nat} {n : Int} (hx : ev env x = some (.str s)) (hhi : ev env hi = some (.int k2 n)) (hT : P.underlying T = some .string) (hn : n = (j : Int)) (h2 : j ≤ s.size) : Yd P w0 env objs ⟨dd, .slice T x none (some hi) none, T0, pos, af, g⟩ (.str (s.extract 0 j)) := ⟨tB rfl hx hhi hT hn h2⟩
theorem yq {t t2 : TypeId} {x y : Operand} {k : IntKind} {m n c : Int} (hx : ev env x = some (.int k m)) (hy : ev env y = some (.int k n)) (hn : n ≠ 0) (hc : k.wrap (m.tdiv n) = c) : Yd P w0 env objs ⟨dd, .binOp .quo t x y t2, T0, pos, af, g⟩ (.int k c) := ⟨zh rfl hx hy hn hc⟩
theorem yd {t t2 : TypeId} {x y : Operand} {k : IntKind} {m n c : Int} (hx : ev env x = some (.int k m)) (hy : ev env y = some (.int k n)) (hn : n ≠ 0) (hc : m.tmod n = c) : Yd P w0 env objs ⟨dd, .binOp .rem t x y t2, T0, pos, af, g⟩ (.int k c) := ⟨yV rfl hx hy hn hc⟩
theorem tH {t t2 : TypeId} {x y : Operand} {s u : ByteArray} (hx : ev env x = some (.str s)) (hy : ev env y = some (.str u)) (hl : s.size + u.size ≤ 9223372036854775807) : Yd P w0 env objs ⟨dd, .binOp .add t x y t2, T0, pos, af, g⟩ (.str (s ++ u)) := ⟨xS rfl hx hy hl⟩
theorem uP {t t2 : TypeId} {x y : Operand} {b c : Bool} (hx : ev env x = some (.bool b)) (hy : ev env y = some (.bool c)) (hu : P.underlying t = some .bool) : Yd P w0 env objs ⟨dd, .binOp .eql t x y t2, T0, pos, af, g⟩ (.bool (b == c)) := ⟨wZ rfl hx hy hu⟩
theorem uI {t t2 : TypeId} {x y : Operand} {b c : Bool} (hx : ev env x = some (.bool b)) (hy : ev env y = some (.bool c)) (hu : P.underlying t = some .bool) : Yd P w0 env objs ⟨dd, .binOp .neq t x y t2, T0, pos, af, g⟩ (.bool (b != c)) := ⟨wU rfl hx hy hu⟩
theorem yB {t t2 : TypeId} {x y : Operand} {k k2 : IntKind} {m n : Int} (hx : ev env x = some (.int k m)) (hy : ev env y = some (.int k2 n)) (hn : 0 ≤ n) : Yd P w0 env objs ⟨dd, .binOp .shl t x y t2, T0, pos, af, g⟩ (.int k (yK k m n)) := ⟨yS rfl hx hy hn⟩
theorem uQ {T t2 : TypeId} {x y : Operand} {l l' : List TV} (hx : ev env x = some (.agg l)) (hy : ev env y = some (.agg l')) (hT : wH P T l l' = true) : Yd P w0 env objs ⟨dd, .binOp .eql T x y t2, T0, pos, af, g⟩ (.bool (eqL l l')) := ⟨xa rfl hx hy hT⟩
theorem tF {T t2 : TypeId} {x y : Operand} {l l' : List TV} (hx : ev env x = some (.agg l)) (hy : ev env y = some (.agg l')) (hT : wH P T l l' = true) : Yd P w0 env objs ⟨dd, .binOp .neq T x y t2, T0, pos, af, g⟩ (.bool (!(eqL l l'))) := ⟨xy rfl hx hy hT⟩
theorem o_y {op : Op} {tv : TV} (hy : Yd P w0 env objs ⟨some d, op, T0, pos, af, g⟩ tv) (hN : Nat.blt d N = true) (h : AL P w0 N ops Q rest ((d, tv) :: env) objs) : AO P w0 N ops Q ⟨some d, op, T0, pos, af, g⟩ rest env objs := sf rfl hN hy.go h
theorem d_y {K : Env → Prop} {op : Op} {tv : TV} (hy : Yd P w0 env objs ⟨some d, op, T0, pos, af, g⟩ tv) (hN : Nat.blt d N = true) (h : DR P w0 N ops objs K rest ((d, tv) :: env)) : DO P w0 N ops objs K ⟨some d, op, T0, pos, af, g⟩ rest env := ⟨fun hgr => .run _ _ _ _ _ rfl hN hgr hy.go h⟩
theorem u_y {K : Env → Prop} {op : Op} {tv : TV} (hy : ∀ objs, Yd P w0 env objs ⟨some d, op, T0, pos, af, none⟩ tv) (hN : Nat.blt d N = true) (h : DU P w0 N K rest ((d, tv) :: env)) : DU P w0 N K (⟨some d, op, T0, pos, af, none⟩ :: rest) env := .run _ _ _ _ _ rfl hN rfl (fun o => (hy o).go) h
end
structure Bx (B : Prop) : Prop where
  go : B
theorem y_ {A : Prop} (h : A := by (first | (first | ((with_reducible first | apply tq | apply m8 | apply fe); rfl) | ((with_reducible apply q7); rfl; (with_reducible rfl); rfl) | ((with_reducible apply qN); rfl; (with_reducible rfl); rfl) | ((with_reducible apply o9); rfl; kernel_rfl; rfl; (repeat (first | with_reducible exact mh | with_reducible refine mt ?_)); (first | (with_reducible assumption) | (refine bg ?_; omega) | (refine eH ?_; simp only [List.length_set, List.length_map]; omega) | exact rfl | assumption); rfl) | ((with_reducible apply ku); rfl; kernel_rfl; rfl; rfl) | ((with_reducible apply nE); rfl; kernel_rfl; rfl; (repeat (first | with_reducible exact mh | with_reducible refine mt ?_)); rfl) | ((with_reducible apply gH); rfl; kernel_rfl; rfl) | ((with_reducible apply gD); rfl; rfl; kernel_rfl; kernel_rfl; kernel_rfl; rfl; (first | (with_reducible first | exact rfl | exact lb | exact ll | exact lp | exact ld) | exact rfl | exact cn (by omega) | omega); (first | (with_reducible assumption) | (refine bg ?_; omega) | (refine eH ?_; simp only [List.length_set, List.length_map]; omega) | exact rfl | assumption)) | ((with_reducible apply gA); rfl; rfl; (repeat (first | with_reducible exact mh | with_reducible refine mt ?_)); kernel_rfl; kernel_rfl; kernel_rfl; (first | (with_reducible first | exact rfl | exact lb | exact ll | exact lp | exact ld) | exact rfl | exact cn (by omega) | omega); (first | assumption | omega); (first | with_reducible exact Nat.zero_add _ | rfl)) | ((with_reducible apply qa); rfl; kernel_rfl) | ((with_reducible apply ni); rfl; kernel_rfl; (first | exact List.length_map _ | rfl)) | ((with_reducible apply q1); rfl; kernel_rfl) | ((with_reducible apply lr); rfl; kernel_rfl) | ((with_reducible first | apply xN | apply xd | apply xj | apply wT | apply xE | apply xG | apply ka | apply zE | apply yz); rfl; rfl) | ((with_reducible first | apply w7 | apply xm | apply xz); rfl; rfl; (first | ((with_reducible first | refine wB ?_ | refine ws ?_ | refine wJ ?_ | refine oy ?_ | refine IntWalk.i64_in _ ?_ | refine wC _ ?_); omega) | ((with_reducible refine IntWalk.i64_in _ ?_); omega) | (with_reducible assumption) | exact rfl)) | ((with_reducible apply kL); rfl; rfl; kernel_rfl; (first | (with_reducible first | exact rfl | exact lb | exact ll | exact lp | exact ld) | exact rfl | exact cn (by omega) | omega); (first | assumption | omega)) | ((with_reducible apply uR); rfl; (with_reducible rfl)) | ((with_reducible apply uW); rfl; (with_reducible rfl)) | ((with_reducible apply x8); rfl; (with_reducible rfl)) | ((with_reducible apply tE); rfl; (with_reducible rfl)) | ((with_reducible first | apply tD | apply tA); rfl; rfl) | ((with_reducible apply i8); rfl; rfl; kernel_rfl; kernel_rfl; (first | ((with_reducible first | refine wB ?_ | refine ws ?_ | refine wJ ?_ | refine oy ?_ | refine IntWalk.i64_in _ ?_ | refine wC _ ?_); omega) | ((with_reducible refine IntWalk.i64_in _ ?_); omega) | (with_reducible assumption) | exact rfl)) | ((with_reducible apply iO); rfl; (repeat (first | with_reducible exact mh | with_reducible refine mt ?_))) | ((with_reducible apply ig); rfl; (repeat (first | with_reducible exact mh | with_reducible refine mt ?_)); (first | (with_reducible assumption) | (refine bg ?_; omega) | (refine eH ?_; simp only [List.length_set, List.length_map]; omega) | exact rfl | assumption)) | ((with_reducible apply gV); rfl; kernel_rfl; kernel_rfl; kernel_rfl; rfl; (repeat (first | with_reducible exact mh | with_reducible refine mt ?_)); (first | (with_reducible assumption) | (refine bg ?_; omega) | (refine eH ?_; simp only [List.length_set, List.length_map]; omega) | exact rfl | assumption); (first | exact .zero _ | exact .succ _ _ _ _ (.zero _) | exact .succ _ _ _ _ (.succ _ _ _ _ (.zero _)) | exact .succ _ _ _ _ (.succ _ _ _ _ (.succ _ _ _ _ (.zero _))) | exact .succ _ _ _ _ (.succ _ _ _ _ (.succ _ _ _ _ (.succ _ _ _ _ (.zero _)))) | (repeat (first | exact .zero _ | apply er.succ)))) | ((with_reducible apply fa); rfl; kernel_rfl; kernel_rfl; kernel_rfl; rfl; (first | exact .zero _ | exact .succ _ _ _ _ (.zero _) | exact .succ _ _ _ _ (.succ _ _ _ _ (.zero _)) | exact .succ _ _ _ _ (.succ _ _ _ _ (.succ _ _ _ _ (.zero _))) | exact .succ _ _ _ _ (.succ _ _ _ _ (.succ _ _ _ _ (.succ _ _ _ _ (.zero _)))) | (repeat (first | exact .zero _ | apply er.succ)))) | ((with_reducible apply iE); rfl; kernel_rfl; kernel_rfl; kernel_rfl; rfl; (repeat (first | with_reducible exact mh | with_reducible refine mt ?_)); (first | exact .zero _ | exact .succ _ _ _ _ (.zero _) | exact .succ _ _ _ _ (.succ _ _ _ _ (.zero _)) | exact .succ _ _ _ _ (.succ _ _ _ _ (.succ _ _ _ _ (.zero _))) | exact .succ _ _ _ _ (.succ _ _ _ _ (.succ _ _ _ _ (.succ _ _ _ _ (.zero _)))) | (repeat (first | exact .zero _ | apply er.succ)))) | ((with_reducible apply uS); rfl; kernel_rfl; kernel_rfl; rfl) | ((with_reducible apply ly); rfl; rfl; rfl; kernel_rfl; (first | (with_reducible first | exact rfl | exact lb | exact ll | exact lp | exact ld) | exact rfl | exact cn (by omega) | omega); (first | (with_reducible first | exact rfl | exact lb | exact ll | exact lp | exact ld) | exact rfl | exact cn (by omega) | omega); (first | assumption | omega); (first | assumption | omega)) | ((with_reducible apply oX); rfl; rfl; kernel_rfl; (first | (with_reducible first | exact rfl | exact lb | exact ll | exact lp | exact ld) | exact rfl | exact cn (by omega) | omega); (first | assumption | omega)) | ((with_reducible apply og); rfl; rfl; kernel_rfl; (first | (with_reducible first | exact rfl | exact lb | exact ll | exact lp | exact ld) | exact rfl | exact cn (by omega) | omega); (first | assumption | omega)) | ((with_reducible apply yq); rfl; rfl; omega; (first | ((with_reducible first | refine wB ?_ | refine ws ?_ | refine wJ ?_ | refine oy ?_ | refine IntWalk.i64_in _ ?_ | refine wC _ ?_); omega) | ((with_reducible refine IntWalk.i64_in _ ?_); omega) | (with_reducible assumption) | exact rfl)) | ((with_reducible apply yd); rfl; rfl; omega; exact rfl) | ((with_reducible apply tH); rfl; rfl; (first | assumption | omega)) | ((with_reducible first | apply uP | apply uI); rfl; rfl; kernel_rfl) | ((with_reducible apply yB); rfl; rfl; omega) | ((with_reducible first | apply uQ | apply tF); rfl; rfl; kernel_rfl)) | fail)) : A := h
theorem yu_ {A : Prop} (h : A := by (first | (intro objs; first | ((with_reducible first | apply tq | apply m8 | apply fe); rfl) | ((with_reducible apply ku); rfl; kernel_rfl; rfl; rfl) | ((with_reducible apply gH); rfl; kernel_rfl; rfl) | ((with_reducible apply gD); rfl; rfl; kernel_rfl; kernel_rfl; kernel_rfl; rfl; (first | (with_reducible first | exact rfl | exact lb | exact ll | exact lp | exact ld) | exact rfl | exact cn (by omega) | omega); (first | (with_reducible assumption) | (refine bg ?_; omega) | (refine eH ?_; simp only [List.length_set, List.length_map]; omega) | exact rfl | assumption)) | ((with_reducible apply qa); rfl; kernel_rfl) | ((with_reducible apply ni); rfl; kernel_rfl; (first | exact List.length_map _ | rfl)) | ((with_reducible first | apply xN | apply xd | apply xj | apply wT | apply xE | apply xG | apply ka); rfl; rfl) | ((with_reducible first | apply w7 | apply xm | apply xz); rfl; rfl; (first | ((with_reducible first | refine wB ?_ | refine ws ?_ | refine wJ ?_ | refine oy ?_ | refine IntWalk.i64_in _ ?_ | refine wC _ ?_); omega) | ((with_reducible refine IntWalk.i64_in _ ?_); omega) | (with_reducible assumption) | exact rfl)) | ((with_reducible apply kL); rfl; rfl; kernel_rfl; (first | (with_reducible first | exact rfl | exact lb | exact ll | exact lp | exact ld) | exact rfl | exact cn (by omega) | omega); (first | assumption | omega)) | ((with_reducible apply i8); rfl; rfl; kernel_rfl; kernel_rfl; (first | ((with_reducible first | refine wB ?_ | refine ws ?_ | refine wJ ?_ | refine oy ?_ | refine IntWalk.i64_in _ ?_ | refine wC _ ?_); omega) | ((with_reducible refine IntWalk.i64_in _ ?_); omega) | (with_reducible assumption) | exact rfl)) | ((with_reducible apply fa); rfl; kernel_rfl; kernel_rfl; kernel_rfl; rfl; (first | exact .zero _ | exact .succ _ _ _ _ (.zero _) | exact .succ _ _ _ _ (.succ _ _ _ _ (.zero _)) | exact .succ _ _ _ _ (.succ _ _ _ _ (.succ _ _ _ _ (.zero _))) | exact .succ _ _ _ _ (.succ _ _ _ _ (.succ _ _ _ _ (.succ _ _ _ _ (.zero _)))) | (repeat (first | exact .zero _ | apply er.succ))))) | fail)) : A := h
theorem rr_ {A : Prop} (h : A := by (first | with_reducible rfl | fail)) : A := h
theorem dd_ {A : Prop} (h : A := by (first | assumption | omega | fail)) : A := h
theorem aI {A B : Prop} (h : B) (hi : Bx B → A := by (first | (intro hB; (with_reducible apply xr); rfl; rfl; kernel_rfl; exact hB.go) | fail)) : A := hi ⟨h⟩
theorem la {A B : Prop} (h : B) (hi : Bx B → A := by (first | (intro hB; (with_reducible apply vC); rfl; rfl; kernel_rfl; kernel_rfl; rfl; kernel_rfl; rfl; rfl; rfl; rfl; exact hB.go) | fail)) : A := hi ⟨h⟩
theorem eQ {A B : Prop} (h : B) (hi : Bx B → A := by (first | (intro hB; (with_reducible apply yD); rfl; rfl; rfl; (first | (with_reducible first | exact rfl | exact lb | exact ll | exact lp | exact ld) | exact rfl | exact cn (by omega) | omega); kernel_rfl; kernel_rfl; rfl; rfl; kernel_rfl; omega; exact hB.go) | fail)) : A := hi ⟨h⟩
theorem bf {A B : Prop} (h : B) (hi : Bx B → A := by (first | (intro hB; (with_reducible apply y0); rfl; rfl; rfl; exact hB.go) | fail)) : A := hi ⟨h⟩
theorem dk {A B : Prop} (h : B) (hi : Bx B → A := by (first | (intro hB; (with_reducible apply zt); rfl; rfl; kernel_rfl; kernel_rfl; rfl; kernel_rfl; rfl; rfl; rfl; rfl; exact hB.go) | fail)) : A := hi ⟨h⟩
theorem ye {A B : Prop} (h : B) (hi : Bx B → A := by (first | (intro hB; (with_reducible apply zq); rfl; rfl; kernel_rfl; kernel_rfl; rfl; kernel_rfl; rfl; rfl; rfl; rfl; exact hB.go) | fail)) : A := hi ⟨h⟩
theorem aA {A B : Prop} (h : B) (hi : Bx B → A := by (first | (intro hB; (with_reducible apply sS); rfl; rfl; rfl; kernel_rfl; (repeat (first | with_reducible exact mh | with_reducible refine mt ?_)); (first | exact .nil _ | exact .put _ _ _ _ _ (.nil _) | exact .skip _ _ _ _ _ (.put _ _ _ _ _ (.nil _)) | exact .skip _ _ _ _ _ (.skip _ _ _ _ _ (.put _ _ _ _ _ (.nil _))) | (repeat (first | exact .nil _ | apply de.put | apply de.skip))); (repeat (first | with_reducible exact Upd.head _ | with_reducible apply Upd.tail)); kernel_rfl; exact hB.go) | fail)) : A := hi ⟨h⟩
theorem cE {A B : Prop} (h : B) (hi : Bx B → A := by (first | (intro hB; (with_reducible apply sb); rfl; rfl; rfl; kernel_rfl; (repeat (first | with_reducible exact mh | with_reducible refine mt ?_)); (first | (with_reducible assumption) | (refine bg ?_; omega) | (refine eH ?_; simp only [List.length_set, List.length_map]; omega) | exact rfl | assumption); (first | exact .nil _ | exact .put _ _ _ _ _ (.nil _) | exact .skip _ _ _ _ _ (.put _ _ _ _ _ (.nil _)) | exact .skip _ _ _ _ _ (.skip _ _ _ _ _ (.put _ _ _ _ _ (.nil _))) | (repeat (first | exact .nil _ | apply de.put | apply de.skip))); kernel_rfl; rfl; (repeat (first | with_reducible exact Upd.head _ | with_reducible apply Upd.tail)); exact hB.go) | fail)) : A := hi ⟨h⟩
theorem oU {A B : Prop} (h : B) (hi : Bx B → A := by (first | (intro hB; (with_reducible apply fg); rfl; rfl; rfl; kernel_rfl; (repeat (first | with_reducible exact mh | with_reducible refine mt ?_)); (first | with_reducible assumption | exact db _ | exact aS _ | exact da _ | exact List.length_map _ | assumption | rfl); (first | (show List.length _ = 1; rfl) | (show List.length _ = 2; rfl) | (show List.length _ = 0; rfl) | (show List.length _ = 3; rfl) | (first | with_reducible assumption | exact db _ | exact aS _ | exact da _ | exact List.length_map _ | assumption | rfl)); omega; rfl; (intro bq; (repeat (first | with_reducible exact Upd.head _ | with_reducible apply Upd.tail))); exact hB.go) | fail)) : A := hi ⟨h⟩
theorem x3 {A B : Prop} (h : B) (hi : Bx B → A := by (first | (intro hB; (with_reducible apply r4); rfl; rfl; rfl; kernel_rfl; (repeat (first | with_reducible exact mh | with_reducible refine mt ?_)); (with_reducible assumption); (first | assumption | omega); (first | (show List.length _ = 1; rfl) | (show List.length _ = 2; rfl) | (show List.length _ = 0; rfl) | (show List.length _ = 3; rfl) | (first | with_reducible assumption | exact db _ | exact aS _ | exact da _ | exact List.length_map _ | assumption | rfl)); omega; (intro bq pq; (repeat (first | with_reducible exact Upd.head _ | with_reducible apply Upd.tail))); exact hB.go) | fail)) : A := hi ⟨h⟩
theorem je {A B : Prop} (h : B) (hi : Bx B → A := by (first | (intro hB; (with_reducible apply wP); rfl; rfl; (repeat (first | exact TB.nil _ | ((with_reducible apply TB.cons); rfl; rfl; (first | exact .nil _ | exact .put _ _ _ _ _ (.nil _) | exact .skip _ _ _ _ _ (.put _ _ _ _ _ (.nil _)) | exact .skip _ _ _ _ _ (.skip _ _ _ _ _ (.put _ _ _ _ _ (.nil _))) | (repeat (first | exact .nil _ | apply de.put | apply de.skip))); kernel_rfl))); kernel_rfl; kernel_rfl; exact hB.go) | fail)) : A := hi ⟨h⟩
theorem vL {A B : Prop} (h : B) (hi : Bx B → A := by (first | (intro hB; (with_reducible apply xh); rfl; rfl; (repeat (first | exact TB.nil _ | ((with_reducible apply TB.cons); rfl; rfl; (first | exact .nil _ | exact .put _ _ _ _ _ (.nil _) | exact .skip _ _ _ _ _ (.put _ _ _ _ _ (.nil _)) | exact .skip _ _ _ _ _ (.skip _ _ _ _ _ (.put _ _ _ _ _ (.nil _))) | (repeat (first | exact .nil _ | apply de.put | apply de.skip))); kernel_rfl))); kernel_rfl; kernel_rfl; exact hB.go) | fail)) : A := hi ⟨h⟩
theorem wu {A B : Prop} (h : B) (hi : Bx B → A := by (first | (intro hB; (with_reducible apply sC); rfl; rfl; rfl; (repeat (first | with_reducible exact mh | with_reducible refine mt ?_)); kernel_rfl; kernel_rfl; kernel_rfl; (first | (with_reducible first | exact rfl | exact lb | exact ll | exact lp | exact ld) | exact rfl | exact cn (by omega) | omega); (first | assumption | omega); exact hB.go) | fail)) : A := hi ⟨h⟩
theorem rW {A B : Prop} (h : B) (hi : Bx B → A := by (first | (intro hB; (with_reducible apply pe); rfl; rfl; rfl; kernel_rfl; kernel_rfl; (first | (with_reducible first | exact rfl | exact lb | exact ll | exact lp | exact ld) | exact rfl | exact cn (by omega) | omega); (first | assumption | omega); (first | (with_reducible assumption) | rfl); exact hB.go) | fail)) : A := hi ⟨h⟩
theorem ic {A B : Prop} (h : B) (hi : Bx B → A := by (first | (intro hB; (with_reducible apply nH); rfl; rfl; rfl; kernel_rfl; kernel_rfl; (first | (with_reducible first | exact rfl | exact lb | exact ll | exact lp | exact ld) | exact rfl | exact cn (by omega) | omega); (first | assumption | omega); (first | (with_reducible assumption) | rfl); exact hB.go) | fail)) : A := hi ⟨h⟩
theorem yg {A B : Prop} (h : B) (hi : Bx B → A := by (first | (intro hB; (with_reducible apply oG); rfl; rfl; rfl; kernel_rfl; kernel_rfl; kernel_rfl; (first | (with_reducible first | exact rfl | exact lb | exact ll | exact lp | exact ld) | exact rfl | exact cn (by omega) | omega); (first | assumption | omega); (first | (with_reducible assumption) | rfl); exact hB.go) | fail)) : A := hi ⟨h⟩
theorem jF {A B : Prop} (h : B) (hi : Bx B → A := by (first | (intro hB; (with_reducible apply sK); rfl; (repeat (first | exact Evs.nil | ((with_reducible apply Evs.cons); rfl))); exact hB.go) | fail)) : A := hi ⟨h⟩
theorem we_ {A : Prop} (h : A := by (first | (first | rfl | exact x9 rfl (by first | omega | (simp; done) | (simp; omega)) | exact wF rfl (by simp [*]) | exact fN rfl (by simp [*]) | exact wA rfl (by simp [*])) | fail)) : A := h
theorem pk_ {A : Prop} (h : A := by (first | ((try dsimp only); (repeat (first | with_reducible exact dV.refl _ | with_reducible exact dV.nil _ | (apply dV.consE; (repeat (first | with_reducible exact tg.head _ | with_reducible apply tg.tail)); (first | with_reducible rfl | (focus (simp [bv, nts]; done)) | (focus (simp [bv, nts]; omega)) | rfl)) | ((fail_if_success (apply dV.consE)); refine dV.drop ?_)))) | fail)) : A := h
theorem nw_ {A : Prop} (h : A := by (first | (repeat (first | exact bj.envNil | refine bj.envCons (by first | rfl | exact x9 rfl (by first | omega | (simp; done) | (simp; omega)) | exact wF rfl (by simp [*]) | exact fN rfl (by simp [*]) | exact wA rfl (by simp [*])) ?_)) | fail)) : A := h
theorem od_ {A : Prop} (h : A := by (first | (repeat (first | exact bj.envNil | refine bj.envCons rfl ?_)) | fail)) : A := h
theorem x_ {A : Prop} (h : A := by (first | (first | exact .inl rfl | exact .inr rfl) | fail)) : A := h
theorem mm_ {A : Prop} (h : A := by (first | ((repeat (first | with_reducible exact mh | with_reducible refine mt ?_))) | fail)) : A := h
theorem kp_ {A : Prop} (h : A := by (first | (repeat (first | exact gn.nil | (apply gn.cons; rfl))) | fail)) : A := h
section
variable {P : Program} {w0 : World} {G : World → Prop} {f : Nat} {args : List TV} {r : Nat → TV}
structure Cx (P : Program) (w0 : World) (G : World → Prop) (f : Nat) (args : List TV) (r : Nat → TV) (B : Prop) : Prop where
  hG : G w0
  hst : aY G
  ct : Ct P G f args r
  go : B
theorem tW {N : Nat} {Q : Exit → Act → World → Prop} {env : Env} {objs : bp} {ops : Array Oper} {rest : List Oper} {d T0 : Nat} {pos : String} {af : Array Edge} {g : Option (Nat × Bool)} {xs : List Operand} {ts : Array TypeId} (hN : Nat.blt d N = true) (hc : fD P f = true) (hct : Ct P G f args r) (hargs : dU env objs xs args) (hG : G w0) (hst : aY G) (h : AL P w0 N ops Q rest ((d, r w0.heap.size) :: env) objs) : AO P w0 N ops Q ⟨some d, .call { callee := .value (.func f), args := xs.toArray, argTypes := ts }, T0, pos, af, g⟩ rest env objs := yr hN hc hargs hG hst hct h
theorem ui {N : Nat} {K : Env → Prop} {env : Env} {objs : bp} {ops : Array Oper} {rest : List Oper} {d T0 : Nat} {pos : String} {af : Array Edge} {g : Option (Nat × Bool)} {xs : List Operand} {ts : Array TypeId} (hN : Nat.blt d N = true) (hc : fD P f = true) (hct : Ct P G f args r) (hargs : dU env objs xs args) (hG : G w0) (hst : aY G) (h : DR P w0 N ops objs K rest ((d, r w0.heap.size) :: env)) : DO P w0 N ops objs K ⟨some d, .call { callee := .value (.func f), args := xs.toArray, argTypes := ts }, T0, pos, af, g⟩ rest env := wt hN hc hargs hG hst hct h
theorem aw {A B : Prop} (hG : G w0) (hst : aY G) (hct : Ct P G f args r) (h : B) (hi : Cx P w0 G f args r B → A := by (first | (intro hB; (with_reducible apply tW); rfl; kernel_rfl; exact (Cx.ct hB); ((repeat (first | exact dU.nil | ((with_reducible apply dU.cons); rfl; exact .same _)))); exact (Cx.hG hB); exact (Cx.hst hB); exact (Cx.go hB)) | fail)) : A := hi ⟨hG, hst, hct, h⟩
theorem ay {A B : Prop} (hG : G w0) (hst : aY G) (hct : Ct P G f args r) (h : B) (hi : Cx P w0 G f args r B → A := by (first | (intro hB; (with_reducible apply ui); rfl; kernel_rfl; exact (Cx.ct hB); ((repeat (first | exact dU.nil | ((with_reducible apply dU.cons); rfl; exact .same _)))); exact (Cx.hG hB); exact (Cx.hst hB); exact (Cx.go hB)) | fail)) : A := hi ⟨hG, hst, hct, h⟩
theorem xD {A B : Prop} (hG : G w0) (hst : aY G) (hct : Ct P G f args r) (h : B) (hi : Cx P w0 G f args r B → A := by (first | (intro hB; (with_reducible apply tW); rfl; kernel_rfl; exact (Cx.ct hB); ((repeat (first | exact dU.nil | ((with_reducible apply dU.cons); rfl; (first | with_reducible exact d7.same _ | ((with_reducible apply d7.msAll); (repeat (first | with_reducible exact mh | with_reducible refine mt ?_)); (first | with_reducible assumption | exact db _ | exact aS _ | exact da _ | exact List.length_map _ | assumption | rfl)) | ((with_reducible apply view_code); (repeat (first | with_reducible exact mh | with_reducible refine mt ?_)); (first | with_reducible assumption | exact db _ | exact aS _ | exact da _ | exact List.length_map _ | assumption | rfl)) | ((with_reducible apply d7.cut); exact d7.cp0 _ _; rfl)))))); exact (Cx.hG hB); exact (Cx.hst hB); exact (Cx.go hB)) | fail)) : A := hi ⟨hG, hst, hct, h⟩
theorem cw {A B : Prop} (hG : G w0) (hst : aY G) (hct : Ct P G f args r) (h : B) (hi : Cx P w0 G f args r B → A := by (first | (intro hB; (with_reducible apply ui); rfl; kernel_rfl; exact (Cx.ct hB); ((repeat (first | exact dU.nil | ((with_reducible apply dU.cons); rfl; (first | with_reducible exact d7.same _ | ((with_reducible apply d7.msAll); (repeat (first | with_reducible exact mh | with_reducible refine mt ?_)); (first | with_reducible assumption | exact db _ | exact aS _ | exact da _ | exact List.length_map _ | assumption | rfl)) | ((with_reducible apply view_code); (repeat (first | with_reducible exact mh | with_reducible refine mt ?_)); (first | with_reducible assumption | exact db _ | exact aS _ | exact da _ | exact List.length_map _ | assumption | rfl)) | ((with_reducible apply d7.cut); exact d7.cp0 _ _; rfl)))))); exact (Cx.hG hB); exact (Cx.hst hB); exact (Cx.go hB)) | fail)) : A := hi ⟨hG, hst, hct, h⟩
end
mutual
def PT.tvs : PT → List TV
  | .int k n => [.int k n]
  | .bool b => [.bool b]
  | .str s => [.str s]
  | .agg l => PT.tvsL l
  | .sl _ _ m l => [.sl 0 m (PT.rowsL l)]
def PT.tvsL : List PT → List TV
  | [] => []
  | t :: r => PT.tvs t ++ PT.tvsL r
def PT.rowsL : List PT → List (List TV)
  | [] => []
  | t :: r => PT.tvs t :: PT.rowsL r
end
theorem PT.rowsL_map (l : List PT) : PT.rowsL l = l.map PT.tvs := by
  induction l with
  | nil => rfl
  | cons t r ih => simp [PT.rowsL, ih]
theorem PT.rows_flat (l : List PT) : (PT.rowsL l).flatten = PT.tvsL l := by
  induction l with
  | nil => rfl
  | cons t r ih => simp [PT.rowsL, PT.tvsL, ih]
def vu (w : World) (ts : List TV) (vs : List Value) : Prop := ts.length = vs.length ∧ (∀ t ∈ ts, t.isCell = true) ∧ ∀ (i : Nat) (t : TV) (v : Value), ts[i]? = some t → vs[i]? = some v → Rep w [] t v
theorem vu.append {w : World} {a b : List TV} {x y : List Value} (h : vu w a x) (k : vu w b y) : vu w (a ++ b) (x ++ y) := by
  refine ⟨by simp [h.1, k.1], fun t ht => ?_, fun i t v ht hv => ?_⟩
  · rcases List.mem_append.1 ht with ht | ht
    · exact h.2.1 t ht
    · exact k.2.1 t ht
  · by_cases hi : i < a.length
    · rw [List.getElem?_append_left hi] at ht
      rw [List.getElem?_append_left (by rw [← h.1]; exact hi)] at hv
      exact h.2.2 i t v ht hv
    · rw [List.getElem?_append_right (by omega)] at ht
      rw [List.getElem?_append_right (by rw [← h.1]; omega)] at hv
      rw [← h.1] at hv
      exact k.2.2 _ t v ht hv
theorem vu.one {w : World} {t : TV} {v : Value} (h : Rep w [] t v) (hc : t.isCell = true) : vu w [t] [v] := ⟨rfl, by simpa using hc, fun i u x hu hx => by
  cases i with
  | zero => simp at hu hx; subst hu; subst hx; exact h
  | succ i => simp at hu⟩
mutual
theorem xo (w : World) (S : Nat → Prop) : ∀ t : PT, dl w S t → vu w t.tvs t.cells
  | .int k n, _ => .one (.int k n) rfl
  | .bool b, _ => .one (.bool b) rfl
  | .str s, _ => .one (.str s) rfl
  | .agg l, h => by
    simp only [PT.tvs, PT.cells]
    simp only [dl] at h
    exact uq w S l h
  | .sl A c m l, h => by
    simp only [PT.tvs, PT.cells]
    simp only [dl] at h
    obtain ⟨h1, h2, h3, h4, h5⟩ := h
    have h6 := uq w S l h5
    have hlen : (PT.rowsL l).length = l.length := by rw [PT.rowsL_map]; simp
    refine .one ?_ rfl
    have key : ∀ j, ∃ u, ∀ t, (PT.tvsL l)[j]? = some t → ∃ b o, A = some ⟨b, o, none⟩ ∧ w.cell? ⟨b, o + j, none⟩ = some u ∧ Rep w [] t u := fun j => by
      cases hj : (PT.cellsL l)[j]? with
      | none =>
        refine ⟨undef, fun t ht => ?_⟩
        have : j < (PT.tvsL l).length := (List.getElem?_eq_some_iff.1 ht).1
        rw [h6.1] at this
        rw [List.getElem?_eq_getElem this] at hj; cases hj
      | some u =>
        refine ⟨u, fun t ht => ?_⟩
        obtain ⟨b, o, e1, _, e2⟩ := h3 j u hj
        exact ⟨b, o, e1, e2, h6.2.2 j t u ht hj⟩
    have hr := Rep.sl (w := w) (objs := []) 0 m (PT.rowsL l) A c (by omega) h2 (fun r hr => by
        rw [PT.rowsL_map] at hr
        obtain ⟨t, ht, rfl⟩ := List.mem_map.1 hr
        rw [← h4 t ht]
        exact (oT w S l h5 t ht).1) (fun t ht => by rw [PT.rows_flat] at ht; exact h6.2.1 t ht) (fun j => Classical.choose (key j))
      (fun j t hj => by
        rw [PT.rows_flat] at hj
        obtain ⟨b, o, e1, e2, _⟩ := Classical.choose_spec (key j) t hj
        exact ⟨b, o, e1, oM b, e2⟩)
      (fun j t hj => by
        rw [PT.rows_flat] at hj
        obtain ⟨b, o, _, _, e3⟩ := Classical.choose_spec (key j) t hj
        exact e3)
    rw [hlen] at hr
    exact hr
theorem uq (w : World) (S : Nat → Prop) : ∀ l : List PT, cg w S l → vu w (PT.tvsL l) (PT.cellsL l)
  | [], _ => ⟨rfl, by simp [PT.tvsL], by simp [PT.tvsL]⟩
  | t :: r, h => by
    simp only [PT.tvsL, PT.cellsL]
    simp only [cg] at h
    exact (xo w S t h.1).append (uq w S r h.2)
theorem oT (w : World) (S : Nat → Prop) : ∀ l : List PT, cg w S l → ∀ t ∈ l, vu w t.tvs t.cells
  | [], _, t, ht => by simp at ht
  | x :: r, h, t, ht => by
    simp only [cg] at h
    rcases List.mem_cons.1 ht with e | ht
    · rw [e]; exact xo w S x h.1
    · exact oT w S r h.2 t ht
end
end Go.Proofs.YthpdkhejeookhaaGreatDoor
