/- Part 7 of the proof: the texts EngP, EngAA, EngAK, EngAP, EngAD, EngAF, EngAJ, EngAM, EngAN, EngAL. -/
import Derived.Test.YtigipcbnfeoliaaGreatDoorRf3
import Derived.Test.YtigipcbnfeoliaaGreatDoorRf4
import Derived.Lib.AppendStr
import Derived.Lib.LazyBuf
set_option linter.all false
namespace Go.Proofs.YtigipcbnfeoliaaGreatDoor
open Go Go.RowKit
section
variable {P : Program} {w0 : World} {N : Nat} {Q : Exit -> Act -> World -> Prop} {objs objs' : aF} {ops : Array Oper} {env : Env} {o : Oper}
end
theorem aeJ (a : Array UInt8) : (ByteArray.mk a).size = a.size := rfl
section
structure Yd (P : Program) (w0 : World) (env : Env) (objs : aF) (o : Oper) (tv : TV) : Prop where
 go : bj P w0 env objs o tv
variable {P : Program} {w0 : World} {N : Nat} {Q : Exit -> Act -> World -> Prop} {env : Env} {objs : aF} {ops : Array Oper} {rest : List Oper} {d T0 : Nat} {dd : Option Nat} {pos : String} {af : Array Edge} {g : Option (Nat × Bool)}
theorem aax {x : Operand} {tv : TV} (hx : ev env x = some tv) : Yd P w0 env objs ⟨dd, .move x, T0, pos, af, g⟩ (tv) := ⟨aeu rfl hx⟩
theorem qQ {x : Operand} {tv : TV} (hx : ev env x = some tv) : Yd P w0 env objs ⟨dd, .assign x, T0, pos, af, g⟩ (tv) := ⟨wK rfl hx⟩
theorem wI {c x y : Operand} {tv cv : TV} (hc : ev env c = some cv) (he : cv = .bool true) (hx : ev env x = some tv) : Yd P w0 env objs ⟨dd, .pick c x y, T0, pos, af, g⟩ (tv) := ⟨aby rfl hc he hx⟩
theorem wq {c x y : Operand} {tv cv : TV} (hc : ev env c = some cv) (he : cv = .bool false) (hx : ev env y = some tv) : Yd P w0 env objs ⟨dd, .pick c x y, T0, pos, af, g⟩ (tv) := ⟨abV rfl hc he hx⟩
theorem ta {T : TypeId} {x : Operand} {c : TV} {rr : List TV} {s b m j off : Nat} {rows : List (List TV)} {r0 : List TV} (hA : agT T = false) (hT : kG P T = true) (hx : ev env x = some (.me s b m j off)) (hm : (s, b, aZ.row m rows) ∈ objs) (hr : rows[j]? = some r0) (hl : r0.drop off = c :: rr) : Yd P w0 env objs ⟨dd, .load T x, T0, pos, af, g⟩ (c) := ⟨aad rfl hT hx (fun _ => .me s b m j off rows r0 hm hr) hl⟩
theorem nU {T : TypeId} {x : Operand} {c : TV} {rr : List TV} {f : Nat} {l : List TV} (hA : agT T = false) (hT : kG P T = true) (hx : ev env x = some (.cp f l)) (hl : l = c :: rr) : Yd P w0 env objs ⟨dd, .load T x, T0, pos, af, g⟩ (c) := ⟨aad rfl hT hx (fun _ => .cp f l) hl⟩
theorem sg {T : TypeId} {x : Operand} {c : TV} {rr : List TV} {s b off : Nat} {cells : List TV} (hA : agT T = false) (hT : kG P T = true) (hx : ev env x = some (.mp s b off)) (hm : (s, b, aZ.box cells) ∈ objs) (hl : cells.drop off = c :: rr) : Yd P w0 env objs ⟨dd, .load T x, T0, pos, af, g⟩ (c) := ⟨aad rfl hT hx (fun _ => .mp s b off cells hm) hl⟩
theorem jG {T : TypeId} {x : Operand} {tv tv2 : TV} {i : Nat} (hx : ev env x = some tv) (hF : tN P T i = true) (ht : adv (ofT T i) tv = some tv2) : Yd P w0 env objs ⟨dd, .fieldAddr T x i, T0, pos, af, g⟩ (tv2) := ⟨uo rfl hx hF ht⟩
theorem jR {T : TypeId} {x i : Operand} {f m : Nat} {rows : List (List TV)} {kk : IntKind} {n : Int} {j : Nat} {r : List TV} (hx : ev env x = some (.sl f m rows)) (hi : ev env i = some (.int kk n)) (hT : P.underlying T = some (.slice (P.elem T))) (hI : (P.info? (P.elem T)).isSome = true) (hm : P.cellsOf (P.elem T) = m) (hm0 : Nat.blt 0 m = true) (hn : n = (j : Int)) (hr : rows[j]? = some r) : Yd P w0 env objs ⟨dd, .indexAddr T x i, T0, pos, af, g⟩ (.cp f r) := ⟨uM rfl hx hi hT hI hm hm0 hn hr⟩
theorem jt {T : TypeId} {x i : Operand} {s b off len m : Nat} {rows : List (List TV)} {kk : IntKind} {n : Int} {j jj : Nat} (hx : ev env x = some (.ms s b off len)) (hi : ev env i = some (.int kk n)) (hobj : (s, b, aZ.row m rows) ∈ objs) (hT : P.underlying T = some (.slice (P.elem T))) (hI : (P.info? (P.elem T)).isSome = true) (hm : P.cellsOf (P.elem T) = m) (hn : n = (j : Int)) (hk : j < len) (hkk : off + j = jj) : Yd P w0 env objs ⟨dd, .indexAddr T x i, T0, pos, af, g⟩ (.me s b m jj 0) := ⟨hkk ▸ oN rfl hx hi hobj hT hI hm hn hk⟩
theorem vc {x : Operand} {t : TypeId} {s : ByteArray} (hx : ev env x = some (.str s)) (hT : P.underlying t = some .string) : Yd P w0 env objs ⟨dd, .call { callee := .builtin .len, args := #[x], argTypes := #[t] }, T0, pos, af, g⟩ (.int .i64 (s.size : Int)) := ⟨ac1 rfl hx hT⟩
theorem rB {x : Operand} {t : TypeId} {f m n : Nat} {rows : List (List TV)} (hx : ev env x = some (.sl f m rows)) (hT : P.underlying t = some (.slice (P.elem t))) (hn : rows.length = n) : Yd P w0 env objs ⟨dd, .call { callee := .builtin .len, args := #[x], argTypes := #[t] }, T0, pos, af, g⟩ (.int .i64 (n : Int)) := ⟨abl rfl hx hT hn⟩
theorem xu {x : Operand} {t : TypeId} {s b off len : Nat} (hx : ev env x = some (.ms s b off len)) (hT : P.underlying t = some (.slice (P.elem t))) : Yd P w0 env objs ⟨dd, .call { callee := .builtin .len, args := #[x], argTypes := #[t] }, T0, pos, af, g⟩ (.int .i64 (len : Int)) := ⟨aca rfl hx hT⟩
theorem qk {x : Operand} {t : TypeId} (hx : ev env x = some .nils) (hT : P.underlying t = some (.slice (P.elem t))) : Yd P w0 env objs ⟨dd, .call { callee := .builtin .len, args := #[x], argTypes := #[t] }, T0, pos, af, g⟩ (.int .i64 0) := ⟨x6 rfl hx hT⟩
theorem adw {t t2 : TypeId} {x y : Operand} {k : IntKind} {m n : Int} (hx : ev env x = some (.int k m)) (hy : ev env y = some (.int k n)) : Yd P w0 env objs ⟨dd, .binOp .eql t x y t2, T0, pos, af, g⟩ (.bool (decide (m = n))) := ⟨aeW rfl hx hy⟩
theorem adA {t t2 : TypeId} {x y : Operand} {k : IntKind} {m n : Int} (hx : ev env x = some (.int k m)) (hy : ev env y = some (.int k n)) : Yd P w0 env objs ⟨dd, .binOp .neq t x y t2, T0, pos, af, g⟩ (.bool (decide (m ≠ n))) := ⟨ae3 rfl hx hy⟩
theorem adu {t t2 : TypeId} {x y : Operand} {k : IntKind} {m n : Int} (hx : ev env x = some (.int k m)) (hy : ev env y = some (.int k n)) : Yd P w0 env objs ⟨dd, .binOp .lss t x y t2, T0, pos, af, g⟩ (.bool (decide (m < n))) := ⟨aeU rfl hx hy⟩
theorem ac8 {t t2 : TypeId} {x y : Operand} {k : IntKind} {m n : Int} (hx : ev env x = some (.int k m)) (hy : ev env y = some (.int k n)) : Yd P w0 env objs ⟨dd, .binOp .leq t x y t2, T0, pos, af, g⟩ (.bool (decide (m <= n))) := ⟨ae8 rfl hx hy⟩
theorem adT {t t2 : TypeId} {x y : Operand} {k : IntKind} {m n : Int} (hx : ev env x = some (.int k m)) (hy : ev env y = some (.int k n)) : Yd P w0 env objs ⟨dd, .binOp .gtr t x y t2, T0, pos, af, g⟩ (.bool (decide (n < m))) := ⟨afq rfl hx hy⟩
theorem acV {t t2 : TypeId} {x y : Operand} {k : IntKind} {m n : Int} (hx : ev env x = some (.int k m)) (hy : ev env y = some (.int k n)) : Yd P w0 env objs ⟨dd, .binOp .geq t x y t2, T0, pos, af, g⟩ (.bool (decide (n <= m))) := ⟨ae6 rfl hx hy⟩
theorem adX {t t2 : TypeId} {x y : Operand} {k : IntKind} {m n c : Int} (hx : ev env x = some (.int k m)) (hy : ev env y = some (.int k n)) (hc : k.wrap (m + n) = c) : Yd P w0 env objs ⟨dd, .binOp .add t x y t2, T0, pos, af, g⟩ (.int k c) := ⟨aeX rfl hx hy hc⟩
theorem adb {t t2 : TypeId} {x y : Operand} {k : IntKind} {m n c : Int} (hx : ev env x = some (.int k m)) (hy : ev env y = some (.int k n)) (hc : k.wrap (m - n) = c) : Yd P w0 env objs ⟨dd, .binOp .sub t x y t2, T0, pos, af, g⟩ (.int k c) := ⟨aff rfl hx hy hc⟩
theorem nw {T : TypeId} {x i : Operand} {s : ByteArray} {kk : IntKind} {n : Int} {j : Nat} (hx : ev env x = some (.str s)) (hi : ev env i = some (.int kk n)) (hT : P.underlying T = some .string) (hn : n = (j : Int)) (hk : j < s.size) : Yd P w0 env objs ⟨dd, .index T x i, T0, pos, af, g⟩ (.int .u8 (bat s j)) := ⟨zK rfl hx hi hT hn hk⟩
theorem aaT {t : TypeId} {x : Operand} {v : TV} (hx : ev env x = some v) (he : v = .bool true) : Yd P w0 env objs ⟨dd, .unOp .not t x, T0, pos, af, g⟩ (.bool false) := ⟨vA (b := true) rfl (he ▸ hx)⟩
theorem zl {t : TypeId} {x : Operand} {v : TV} (hx : ev env x = some v) (he : v = .bool false) : Yd P w0 env objs ⟨dd, .unOp .not t x, T0, pos, af, g⟩ (.bool true) := ⟨vA (b := false) rfl (he ▸ hx)⟩
theorem zQ {t : TypeId} {x : Operand} {b : Bool} {v : TV} (hx : ev env x = some v) (he : v = .bool b) : Yd P w0 env objs ⟨dd, .unOp .not t x, T0, pos, af, g⟩ (.bool (!b)) := ⟨vA rfl (he ▸ hx)⟩
theorem aa4 {t t2 : TypeId} {x y : Operand} {s u : ByteArray} (hx : ev env x = some (.str s)) (hy : ev env y = some (.str u)) : Yd P w0 env objs ⟨dd, .binOp .eql t x y t2, T0, pos, af, g⟩ (.bool (decide (s = u))) := ⟨adx rfl hx hy⟩
theorem zu {t t2 : TypeId} {x y : Operand} {s u : ByteArray} (hx : ev env x = some (.str s)) (hy : ev env y = some (.str u)) : Yd P w0 env objs ⟨dd, .binOp .neq t x y t2, T0, pos, af, g⟩ (.bool (decide (s ≠ u))) := ⟨adO rfl hx hy⟩
theorem ly {src dst : TypeId} {x : Operand} {k k2 : IntKind} {m c : Int} (hx : ev env x = some (.int k m)) (hk : kdT dst = some k2) (hs : (P.underlying src).isSome = true) (hd : P.underlying dst = some (.int k2)) (hc : k2.wrap m = c) : Yd P w0 env objs ⟨dd, .convert src dst x, T0, pos, af, g⟩ (.int k2 c) := ⟨yA rfl hx hk hs hd hc⟩
theorem hY {x : Operand} {f : Nat} {l : List TV} (hx : ev env x = some (.cp f l)) : Yd P w0 env objs ⟨dd, .nilCheck x, T0, pos, af, g⟩ (.cp f l) := ⟨lx rfl hx (fun _ => .cp f l)⟩
theorem kJ {x : Operand} {s b off : Nat} {cells : List TV} (hx : ev env x = some (.mp s b off)) (hm : (s, b, aZ.box cells) ∈ objs) : Yd P w0 env objs ⟨dd, .nilCheck x, T0, pos, af, g⟩ (.mp s b off) := ⟨lx rfl hx (fun _ => .mp s b off cells hm)⟩
theorem jZ {x : Operand} {s b m j off : Nat} {rows : List (List TV)} {r0 : List TV} (hx : ev env x = some (.me s b m j off)) (hm : (s, b, aZ.row m rows) ∈ objs) (hr : rows[j]? = some r0) : Yd P w0 env objs ⟨dd, .nilCheck x, T0, pos, af, g⟩ (.me s b m j off) := ⟨lx rfl hx (fun _ => .me s b m j off rows r0 hm hr)⟩
theorem kD {T : TypeId} {x : Operand} {out : List TV} {s b m j off : Nat} {rows : List (List TV)} {r0 : List TV} (hA : agT T = true) (hT : kK P T = true) (hi : (P.info? T).isSome = true) (hs : P.cellsOf T = szT T) (hx : ev env x = some (.me s b m j off)) (hm : (s, b, aZ.row m rows) ∈ objs) (hr : rows[j]? = some r0) (htk : gf (szT T) (r0.drop off) out) : Yd P w0 env objs ⟨dd, .load T x, T0, pos, af, g⟩ (.agg out) := ⟨gE rfl hT hi hs hx (fun _ => .me s b m j off rows r0 hm hr) htk⟩
theorem gU {T : TypeId} {x : Operand} {out : List TV} {f : Nat} {l : List TV} (hA : agT T = true) (hT : kK P T = true) (hi : (P.info? T).isSome = true) (hs : P.cellsOf T = szT T) (hx : ev env x = some (.cp f l)) (htk : gf (szT T) (l) out) : Yd P w0 env objs ⟨dd, .load T x, T0, pos, af, g⟩ (.agg out) := ⟨gE rfl hT hi hs hx (fun _ => .cp f l) htk⟩
theorem ki {T : TypeId} {x : Operand} {out : List TV} {s b off : Nat} {cells : List TV} (hA : agT T = true) (hT : kK P T = true) (hi : (P.info? T).isSome = true) (hs : P.cellsOf T = szT T) (hx : ev env x = some (.mp s b off)) (hm : (s, b, aZ.box cells) ∈ objs) (htk : gf (szT T) (cells.drop off) out) : Yd P w0 env objs ⟨dd, .load T x, T0, pos, af, g⟩ (.agg out) := ⟨gE rfl hT hi hs hx (fun _ => .mp s b off cells hm) htk⟩
theorem nM {x : Operand} {i : Nat} {l : List TV} {u : TV} (hx : ev env x = some (.tup l)) (ht : l[i]? = some u) : Yd P w0 env objs ⟨dd, .extract x i, T0, pos, af, g⟩ (u) := ⟨aas rfl hx ht⟩
theorem aer {t t2 : TypeId} {x y : Operand} {k : IntKind} {m n c : Int} (hx : ev env x = some (.int k m)) (hy : ev env y = some (.int k n)) (hn : n ≠ 0) (hc : m.tmod n = c) : Yd P w0 env objs ⟨dd, .binOp .rem t x y t2, T0, pos, af, g⟩ (.int k c) := ⟨ae5 rfl hx hy hn hc⟩
theorem aaQ {t t2 : TypeId} {x y : Operand} {b c : Bool} (hx : ev env x = some (.bool b)) (hy : ev env y = some (.bool c)) (hu : P.underlying t = some .bool) : Yd P w0 env objs ⟨dd, .binOp .eql t x y t2, T0, pos, af, g⟩ (.bool (b == c)) := ⟨adz rfl hx hy hu⟩
theorem aaM {t t2 : TypeId} {x y : Operand} {b c : Bool} (hx : ev env x = some (.bool b)) (hy : ev env y = some (.bool c)) (hu : P.underlying t = some .bool) : Yd P w0 env objs ⟨dd, .binOp .neq t x y t2, T0, pos, af, g⟩ (.bool (b != c)) := ⟨ac0 rfl hx hy hu⟩
theorem zt {T t2 : TypeId} {x y : Operand} {l l' : List TV} (hx : ev env x = some (.agg l)) (hy : ev env y = some (.agg l')) (hT : acy P T l l' = true) : Yd P w0 env objs ⟨dd, .binOp .eql T x y t2, T0, pos, af, g⟩ (.bool (eqL l l')) := ⟨ads rfl hx hy hT⟩
theorem aaW {T t2 : TypeId} {x y : Operand} {l l' : List TV} (hx : ev env x = some (.agg l)) (hy : ev env y = some (.agg l')) (hT : acy P T l l' = true) : Yd P w0 env objs ⟨dd, .binOp .neq T x y t2, T0, pos, af, g⟩ (.bool (!(eqL l l'))) := ⟨adB rfl hx hy hT⟩
theorem o_y {op : Op} {tv : TV} (hy : Yd P w0 env objs ⟨some d, op, T0, pos, af, g⟩ tv) (hN : Nat.blt d N = true) (h : AL P w0 N ops Q rest ((d, tv) :: env) objs) : AO P w0 N ops Q ⟨some d, op, T0, pos, af, g⟩ rest env objs := xZ rfl hN hy.go h
theorem d_y {K : Env -> Prop} {op : Op} {tv : TV} (hy : Yd P w0 env objs ⟨some d, op, T0, pos, af, g⟩ tv) (hN : Nat.blt d N = true) (h : DR P w0 N ops objs K rest ((d, tv) :: env)) : DO P w0 N ops objs K ⟨some d, op, T0, pos, af, g⟩ rest env := ⟨fun hgr => .run _ _ _ _ _ rfl hN hgr hy.go h⟩
theorem u_y {K : Env -> Prop} {op : Op} {tv : TV} (hy : ∀ objs, Yd P w0 env objs ⟨some d, op, T0, pos, af, none⟩ tv) (hN : Nat.blt d N = true) (h : DU P w0 N K rest ((d, tv) :: env)) : DU P w0 N K (⟨some d, op, T0, pos, af, none⟩ :: rest) env := .run _ _ _ _ _ rfl hN rfl (fun o => (hy o).go) h
end
structure Bx (B : Prop) : Prop where
 go : B
theorem y_ {A : Prop} (h : A := by (first | (first | ((with_reducible first | apply aax | apply qQ | apply hY); rfl) | ((with_reducible apply wI); rfl; (with_reducible rfl); rfl) | ((with_reducible apply wq); rfl; (with_reducible rfl); rfl) | ((with_reducible apply ta); rfl; kernel_rfl; rfl; (repeat (first | with_reducible exact mh | with_reducible refine mt ?_)); (first | (with_reducible assumption) | (refine aI ?_; omega) | (refine fM ?_; simp only [List.length_set, List.length_map]; omega) | exact rfl | assumption); rfl) | ((with_reducible apply nU); rfl; kernel_rfl; rfl; rfl) | ((with_reducible apply sg); rfl; kernel_rfl; rfl; (repeat (first | with_reducible exact mh | with_reducible refine mt ?_)); rfl) | ((with_reducible apply jG); rfl; kernel_rfl; rfl) | ((with_reducible apply jR); rfl; rfl; kernel_rfl; kernel_rfl; kernel_rfl; rfl; (first | (with_reducible first | exact rfl | exact pb | exact pu | exact oW | exact nat3) | exact rfl | exact cO (by omega) | omega); (first | (with_reducible assumption) | (refine aI ?_; omega) | (refine fM ?_; simp only [List.length_set, List.length_map]; omega) | exact rfl | assumption)) | ((with_reducible apply jt); rfl; rfl; (repeat (first | with_reducible exact mh | with_reducible refine mt ?_)); kernel_rfl; kernel_rfl; kernel_rfl; (first | (with_reducible first | exact rfl | exact pb | exact pu | exact oW | exact nat3) | exact rfl | exact cO (by omega) | omega); (first | assumption | omega); (first | with_reducible exact Nat.zero_add _ | rfl)) | ((with_reducible apply vc); rfl; kernel_rfl) | ((with_reducible apply rB); rfl; kernel_rfl; (first | exact List.length_map _ | rfl)) | ((with_reducible apply xu); rfl; kernel_rfl) | ((with_reducible apply qk); rfl; kernel_rfl) | ((with_reducible first | apply adw | apply adA | apply adu | apply ac8 | apply adT | apply acV | apply nM | apply Y_or | apply Y_and); rfl; rfl) | ((with_reducible first | apply adX | apply adb | apply Y_mul); rfl; rfl; (first | ((with_reducible first | refine acS ?_ | refine w_n2 ?_ | refine acA ?_ | refine rY ?_ | refine IntWalk.i64_in _ ?_ | refine w_u8 _ ?_); omega) | ((with_reducible refine IntWalk.i64_in _ ?_); omega) | (with_reducible assumption) | exact rfl)) | ((with_reducible apply nw); rfl; rfl; kernel_rfl; (first | (with_reducible first | exact rfl | exact pb | exact pu | exact oW | exact nat3) | exact rfl | exact cO (by omega) | omega); (first | assumption | omega)) | ((with_reducible apply aaT); rfl; (with_reducible rfl)) | ((with_reducible apply zl); rfl; (with_reducible rfl)) | ((with_reducible apply Y_not); rfl; (with_reducible rfl)) | ((with_reducible apply zQ); rfl; (with_reducible rfl)) | ((with_reducible first | apply aa4 | apply zu); rfl; rfl) | ((with_reducible apply ly); rfl; rfl; kernel_rfl; kernel_rfl; (first | ((with_reducible first | refine acS ?_ | refine w_n2 ?_ | refine acA ?_ | refine rY ?_ | refine IntWalk.i64_in _ ?_ | refine w_u8 _ ?_); omega) | ((with_reducible refine IntWalk.i64_in _ ?_); omega) | (with_reducible assumption) | exact rfl)) | ((with_reducible apply kJ); rfl; (repeat (first | with_reducible exact mh | with_reducible refine mt ?_))) | ((with_reducible apply jZ); rfl; (repeat (first | with_reducible exact mh | with_reducible refine mt ?_)); (first | (with_reducible assumption) | (refine aI ?_; omega) | (refine fM ?_; simp only [List.length_set, List.length_map]; omega) | exact rfl | assumption)) | ((with_reducible apply kD); rfl; kernel_rfl; kernel_rfl; kernel_rfl; rfl; (repeat (first | with_reducible exact mh | with_reducible refine mt ?_)); (first | (with_reducible assumption) | (refine aI ?_; omega) | (refine fM ?_; simp only [List.length_set, List.length_map]; omega) | exact rfl | assumption); (first | exact .zero _ | exact .succ _ _ _ _ (.zero _) | exact .succ _ _ _ _ (.succ _ _ _ _ (.zero _)) | exact .succ _ _ _ _ (.succ _ _ _ _ (.succ _ _ _ _ (.zero _))) | exact .succ _ _ _ _ (.succ _ _ _ _ (.succ _ _ _ _ (.succ _ _ _ _ (.zero _)))) | (repeat (first | exact .zero _ | apply gf.succ)))) | ((with_reducible apply gU); rfl; kernel_rfl; kernel_rfl; kernel_rfl; rfl; (first | exact .zero _ | exact .succ _ _ _ _ (.zero _) | exact .succ _ _ _ _ (.succ _ _ _ _ (.zero _)) | exact .succ _ _ _ _ (.succ _ _ _ _ (.succ _ _ _ _ (.zero _))) | exact .succ _ _ _ _ (.succ _ _ _ _ (.succ _ _ _ _ (.succ _ _ _ _ (.zero _)))) | (repeat (first | exact .zero _ | apply gf.succ)))) | ((with_reducible apply ki); rfl; kernel_rfl; kernel_rfl; kernel_rfl; rfl; (repeat (first | with_reducible exact mh | with_reducible refine mt ?_)); (first | exact .zero _ | exact .succ _ _ _ _ (.zero _) | exact .succ _ _ _ _ (.succ _ _ _ _ (.zero _)) | exact .succ _ _ _ _ (.succ _ _ _ _ (.succ _ _ _ _ (.zero _))) | exact .succ _ _ _ _ (.succ _ _ _ _ (.succ _ _ _ _ (.succ _ _ _ _ (.zero _)))) | (repeat (first | exact .zero _ | apply gf.succ)))) | ((with_reducible apply Y_field); rfl; kernel_rfl; kernel_rfl; rfl) | ((with_reducible apply Y_slice_lh); rfl; rfl; rfl; kernel_rfl; (first | (with_reducible first | exact rfl | exact pb | exact pu | exact oW | exact nat3) | exact rfl | exact cO (by omega) | omega); (first | (with_reducible first | exact rfl | exact pb | exact pu | exact oW | exact nat3) | exact rfl | exact cO (by omega) | omega); (first | assumption | omega); (first | assumption | omega)) | ((with_reducible apply Y_slice_l); rfl; rfl; kernel_rfl; (first | (with_reducible first | exact rfl | exact pb | exact pu | exact oW | exact nat3) | exact rfl | exact cO (by omega) | omega); (first | assumption | omega)) | ((with_reducible apply Y_slice_h); rfl; rfl; kernel_rfl; (first | (with_reducible first | exact rfl | exact pb | exact pu | exact oW | exact nat3) | exact rfl | exact cO (by omega) | omega); (first | assumption | omega)) | ((with_reducible apply Y_quo); rfl; rfl; omega; (first | ((with_reducible first | refine acS ?_ | refine w_n2 ?_ | refine acA ?_ | refine rY ?_ | refine IntWalk.i64_in _ ?_ | refine w_u8 _ ?_); omega) | ((with_reducible refine IntWalk.i64_in _ ?_); omega) | (with_reducible assumption) | exact rfl)) | ((with_reducible apply aer); rfl; rfl; omega; exact rfl) | ((with_reducible apply Y_add_s); rfl; rfl; (first | assumption | omega | (simp only [ByteArray.size_append, aeJ, List.size_toArray, List.length_cons, List.length_nil]; omega))) | ((with_reducible first | apply aaQ | apply aaM); rfl; rfl; kernel_rfl) | ((with_reducible apply Y_shl); rfl; rfl; omega) | ((with_reducible first | apply zt | apply aaW); rfl; rfl; kernel_rfl)) | fail)) : A := h
theorem yu_ {A : Prop} (h : A := by (first | (intro objs; first | ((with_reducible first | apply aax | apply qQ | apply hY); rfl) | ((with_reducible apply nU); rfl; kernel_rfl; rfl; rfl) | ((with_reducible apply jG); rfl; kernel_rfl; rfl) | ((with_reducible apply jR); rfl; rfl; kernel_rfl; kernel_rfl; kernel_rfl; rfl; (first | (with_reducible first | exact rfl | exact pb | exact pu | exact oW | exact nat3) | exact rfl | exact cO (by omega) | omega); (first | (with_reducible assumption) | (refine aI ?_; omega) | (refine fM ?_; simp only [List.length_set, List.length_map]; omega) | exact rfl | assumption)) | ((with_reducible apply vc); rfl; kernel_rfl) | ((with_reducible apply rB); rfl; kernel_rfl; (first | exact List.length_map _ | rfl)) | ((with_reducible first | apply adw | apply adA | apply adu | apply ac8 | apply adT | apply acV | apply nM); rfl; rfl) | ((with_reducible first | apply adX | apply adb | apply Y_mul); rfl; rfl; (first | ((with_reducible first | refine acS ?_ | refine w_n2 ?_ | refine acA ?_ | refine rY ?_ | refine IntWalk.i64_in _ ?_ | refine w_u8 _ ?_); omega) | ((with_reducible refine IntWalk.i64_in _ ?_); omega) | (with_reducible assumption) | exact rfl)) | ((with_reducible apply nw); rfl; rfl; kernel_rfl; (first | (with_reducible first | exact rfl | exact pb | exact pu | exact oW | exact nat3) | exact rfl | exact cO (by omega) | omega); (first | assumption | omega)) | ((with_reducible apply ly); rfl; rfl; kernel_rfl; kernel_rfl; (first | ((with_reducible first | refine acS ?_ | refine w_n2 ?_ | refine acA ?_ | refine rY ?_ | refine IntWalk.i64_in _ ?_ | refine w_u8 _ ?_); omega) | ((with_reducible refine IntWalk.i64_in _ ?_); omega) | (with_reducible assumption) | exact rfl)) | ((with_reducible apply gU); rfl; kernel_rfl; kernel_rfl; kernel_rfl; rfl; (first | exact .zero _ | exact .succ _ _ _ _ (.zero _) | exact .succ _ _ _ _ (.succ _ _ _ _ (.zero _)) | exact .succ _ _ _ _ (.succ _ _ _ _ (.succ _ _ _ _ (.zero _))) | exact .succ _ _ _ _ (.succ _ _ _ _ (.succ _ _ _ _ (.succ _ _ _ _ (.zero _)))) | (repeat (first | exact .zero _ | apply gf.succ))))) | fail)) : A := h
theorem rr_ {A : Prop} (h : A := by (first | with_reducible rfl | fail)) : A := h
theorem dd_ {A : Prop} (h : A := by (first | assumption | omega | fail)) : A := h
theorem ak {A B : Prop} (h : B) (hi : Bx B -> A := by (first | (intro hB; (with_reducible apply adJ); rfl; rfl; kernel_rfl; exact hB.go) | fail)) : A := hi ⟨h⟩
theorem iK {A B : Prop} (h : B) (hi : Bx B -> A := by (first | (intro hB; (with_reducible apply mo); rfl; rfl; kernel_rfl; kernel_rfl; rfl; kernel_rfl; rfl; rfl; rfl; rfl; exact hB.go) | fail)) : A := hi ⟨h⟩
theorem gn {A B : Prop} (h : B) (hi : Bx B -> A := by (first | (intro hB; (with_reducible apply aeE); rfl; rfl; rfl; (first | (with_reducible first | exact rfl | exact pb | exact pu | exact oW | exact nat3) | exact rfl | exact cO (by omega) | omega); kernel_rfl; kernel_rfl; rfl; rfl; kernel_rfl; omega; exact hB.go) | fail)) : A := hi ⟨h⟩
theorem aH {A B : Prop} (h : B) (hi : Bx B -> A := by (first | (intro hB; (with_reducible apply ae7); rfl; rfl; rfl; exact hB.go) | fail)) : A := hi ⟨h⟩
theorem dA {A B : Prop} (h : B) (hi : Bx B -> A := by (first | (intro hB; (with_reducible apply afl); rfl; rfl; kernel_rfl; kernel_rfl; rfl; kernel_rfl; rfl; rfl; rfl; rfl; exact hB.go) | fail)) : A := hi ⟨h⟩
theorem aeL {A B : Prop} (h : B) (hi : Bx B -> A := by (first | (intro hB; (with_reducible apply ae1); rfl; rfl; kernel_rfl; kernel_rfl; rfl; kernel_rfl; rfl; rfl; rfl; rfl; exact hB.go) | fail)) : A := hi ⟨h⟩
theorem ac {A B : Prop} (h : B) (hi : Bx B -> A := by (first | (intro hB; (with_reducible apply yC); rfl; rfl; rfl; kernel_rfl; (repeat (first | with_reducible exact mh | with_reducible refine mt ?_)); (first | exact .nil _ | exact .put _ _ _ _ _ (.nil _) | exact .skip _ _ _ _ _ (.put _ _ _ _ _ (.nil _)) | exact .skip _ _ _ _ _ (.skip _ _ _ _ _ (.put _ _ _ _ _ (.nil _))) | (repeat (first | exact .nil _ | apply bw.put | apply bw.skip))); (repeat (first | with_reducible exact Upd.head _ | with_reducible apply Upd.tail)); kernel_rfl; exact hB.go) | fail)) : A := hi ⟨h⟩
theorem bm {A B : Prop} (h : B) (hi : Bx B -> A := by (first | (intro hB; (with_reducible apply yl); rfl; rfl; rfl; kernel_rfl; (repeat (first | with_reducible exact mh | with_reducible refine mt ?_)); (first | (with_reducible assumption) | (refine aI ?_; omega) | (refine fM ?_; simp only [List.length_set, List.length_map]; omega) | exact rfl | assumption); (first | exact .nil _ | exact .put _ _ _ _ _ (.nil _) | exact .skip _ _ _ _ _ (.put _ _ _ _ _ (.nil _)) | exact .skip _ _ _ _ _ (.skip _ _ _ _ _ (.put _ _ _ _ _ (.nil _))) | (repeat (first | exact .nil _ | apply bw.put | apply bw.skip))); kernel_rfl; rfl; (repeat (first | with_reducible exact Upd.head _ | with_reducible apply Upd.tail)); exact hB.go) | fail)) : A := hi ⟨h⟩
theorem sN {A B : Prop} (h : B) (hi : Bx B -> A := by (first | (intro hB; (with_reducible apply dP); rfl; rfl; rfl; kernel_rfl; (repeat (first | with_reducible exact mh | with_reducible refine mt ?_)); (first | with_reducible assumption | exact bytR_length _ | exact aj _ | exact strR_length _ | exact List.length_map _ | assumption | rfl); (first | (show List.length _ = 1; rfl) | (show List.length _ = 2; rfl) | (show List.length _ = 0; rfl) | (show List.length _ = 3; rfl) | (first | with_reducible assumption | exact bytR_length _ | exact aj _ | exact strR_length _ | exact List.length_map _ | assumption | rfl)); omega; rfl; (intro bq; (repeat (first | with_reducible exact Upd.head _ | with_reducible apply Upd.tail))); exact hB.go) | fail)) : A := hi ⟨h⟩
theorem aef {A B : Prop} (h : B) (hi : Bx B -> A := by (first | (intro hB; (with_reducible apply x7); rfl; rfl; rfl; kernel_rfl; (repeat (first | with_reducible exact mh | with_reducible refine mt ?_)); (with_reducible assumption); (first | assumption | omega); (first | (show List.length _ = 1; rfl) | (show List.length _ = 2; rfl) | (show List.length _ = 0; rfl) | (show List.length _ = 3; rfl) | (first | with_reducible assumption | exact bytR_length _ | exact aj _ | exact strR_length _ | exact List.length_map _ | assumption | rfl)); omega; (intro bq pq; (repeat (first | with_reducible exact Upd.head _ | with_reducible apply Upd.tail))); exact hB.go) | fail)) : A := hi ⟨h⟩
theorem ej {A B : Prop} (h : B) (hi : Bx B -> A := by (first | (intro hB; (with_reducible apply adq); rfl; rfl; (repeat (first | exact TB.nil _ | ((with_reducible apply TB.cons); rfl; rfl; (first | exact .nil _ | exact .put _ _ _ _ _ (.nil _) | exact .skip _ _ _ _ _ (.put _ _ _ _ _ (.nil _)) | exact .skip _ _ _ _ _ (.skip _ _ _ _ _ (.put _ _ _ _ _ (.nil _))) | (repeat (first | exact .nil _ | apply bw.put | apply bw.skip))); kernel_rfl))); kernel_rfl; kernel_rfl; exact hB.go) | fail)) : A := hi ⟨h⟩
theorem ab2 {A B : Prop} (h : B) (hi : Bx B -> A := by (first | (intro hB; (with_reducible apply ac2); rfl; rfl; (repeat (first | exact TB.nil _ | ((with_reducible apply TB.cons); rfl; rfl; (first | exact .nil _ | exact .put _ _ _ _ _ (.nil _) | exact .skip _ _ _ _ _ (.put _ _ _ _ _ (.nil _)) | exact .skip _ _ _ _ _ (.skip _ _ _ _ _ (.put _ _ _ _ _ (.nil _))) | (repeat (first | exact .nil _ | apply bw.put | apply bw.skip))); kernel_rfl))); kernel_rfl; kernel_rfl; exact hB.go) | fail)) : A := hi ⟨h⟩
theorem acU {A B : Prop} (h : B) (hi : Bx B -> A := by (first | (intro hB; (with_reducible apply xT); rfl; rfl; rfl; (repeat (first | with_reducible exact mh | with_reducible refine mt ?_)); kernel_rfl; kernel_rfl; kernel_rfl; (first | (with_reducible first | exact rfl | exact pb | exact pu | exact oW | exact nat3) | exact rfl | exact cO (by omega) | omega); (first | assumption | omega); exact hB.go) | fail)) : A := hi ⟨h⟩
theorem yD {A B : Prop} (h : B) (hi : Bx B -> A := by (first | (intro hB; (with_reducible apply sJ); rfl; rfl; rfl; kernel_rfl; kernel_rfl; (first | (with_reducible first | exact rfl | exact pb | exact pu | exact oW | exact nat3) | exact rfl | exact cO (by omega) | omega); (first | assumption | omega); (first | (with_reducible assumption) | rfl); exact hB.go) | fail)) : A := hi ⟨h⟩
theorem kd {A B : Prop} (h : B) (hi : Bx B -> A := by (first | (intro hB; (with_reducible apply sC); rfl; rfl; rfl; kernel_rfl; kernel_rfl; (first | (with_reducible first | exact rfl | exact pb | exact pu | exact oW | exact nat3) | exact rfl | exact cO (by omega) | omega); (first | assumption | omega); (first | (with_reducible assumption) | rfl); exact hB.go) | fail)) : A := hi ⟨h⟩
theorem aeM {A B : Prop} (h : B) (hi : Bx B -> A := by (first | (intro hB; (with_reducible apply sa); rfl; rfl; rfl; kernel_rfl; kernel_rfl; kernel_rfl; (first | (with_reducible first | exact rfl | exact pb | exact pu | exact oW | exact nat3) | exact rfl | exact cO (by omega) | omega); (first | assumption | omega); (first | (with_reducible assumption) | rfl); exact hB.go) | fail)) : A := hi ⟨h⟩
theorem mj {A B : Prop} (h : B) (hi : Bx B -> A := by (first | (intro hB; (with_reducible apply xP); rfl; (repeat (first | exact Evs.nil | ((with_reducible apply Evs.cons); rfl))); exact hB.go) | fail)) : A := hi ⟨h⟩
theorem pk_ {A : Prop} (h : A := by (first | ((try dsimp only); (repeat (first | with_reducible exact cj.refl _ | with_reducible exact cj.nil _ | (apply cj.consE; (repeat (first | with_reducible exact yR.head _ | with_reducible apply yR.tail)); (first | with_reducible rfl | (focus (simp [aN, nts]; done)) | (focus (simp [aN, nts]; omega)) | rfl)) | ((fail_if_success (apply cj.consE)); refine cj.drop ?_)))) | fail)) : A := h
theorem nw_ {A : Prop} (h : A := by (first | (repeat (first | exact cD.envNil | refine cD.envCons (by first | rfl | exact afg rfl (by first | omega | (simp; done) | (simp; omega)) | exact dx rfl (by simp [*]) | exact jB rfl (by simp [*]) | exact lk_str rfl (by simp [*])) ?_)) | fail)) : A := h
theorem od_ {A : Prop} (h : A := by (first | (repeat (first | exact cD.envNil | refine cD.envCons rfl ?_)) | fail)) : A := h
theorem x_ {A : Prop} (h : A := by (first | (first | exact .inl rfl | exact .inr rfl) | fail)) : A := h
theorem mm_ {A : Prop} (h : A := by (first | ((repeat (first | with_reducible exact mh | with_reducible refine mt ?_))) | fail)) : A := h
theorem kp_ {A : Prop} (h : A := by (first | (repeat (first | exact jp.nil | (apply jp.cons; rfl))) | fail)) : A := h
structure Bk (_k : Nat) (B : Prop) : Prop where
 go : B
theorem aaz {P : Program} {w0 : World} {N : Nat} {Q : Exit -> Act -> World -> Prop} {env : Env} {objs : aF} {B : Prop} {k : Nat} {ops : Array Oper} {b : Bool} {y : Code} (_ : Bk k B) (h : ae9 (AW P w0 N (.seq (.region k ops b) y) Q env objs)) : AW P w0 N (.seq (.region k ops b) y) Q env objs := h.go
theorem W_ {A B : Prop} (h : B) (hi : Bx B -> A := by (first | (intro hB; (repeat1' (first | ((with_reducible apply o_y); exact y_; rfl) | with_reducible refine dc rfl ?_ | (with_reducible first | apply dq | apply cB | apply fO | apply dX | apply cR | apply dT | apply dW | apply fI | apply bB | apply (aq_block_miss rfl) | apply bC | apply bH | apply bz | apply db) | refine iM rfl rfl rfl rr_ ?_ | refine fB rfl rfl rfl rr_ rfl rfl rfl ?_ | refine et rfl rfl rfl rr_ rfl rfl ?_ | refine ni rfl rfl rfl rr_ dd_ ?_ | refine nT rfl rfl rfl rr_ dd_ ?_ | refine cw rfl rr_ ?_ | refine cx rfl rr_ ?_ | refine bV rfl rr_ dd_ ?_ | refine bW rfl rr_ dd_ ?_)); exact hB.go) | fail)) : A := hi ⟨h⟩
theorem V_ {A B : Prop} (h : B) (hi : Bx B -> A := by (first | (intro hB; (repeat1' (first | ((with_reducible apply o_y); exact y_; rfl) | with_reducible refine dc rfl ?_ | (with_reducible first | apply dq | apply cB | apply fO | apply dX | apply cR | apply dT | apply dW | apply fI | apply bB | apply (aq_block_miss rfl) | apply bC | apply bH | apply bz | apply db) | refine iM rfl rfl rfl rr_ ?_ | refine fB rfl rfl rfl rr_ rfl rfl rfl ?_ | refine et rfl rfl rfl rr_ rfl rfl ?_ | refine ni rfl rfl rfl rr_ dd_ ?_ | refine nT rfl rfl rfl rr_ dd_ ?_ | refine cw rfl rr_ ?_ | refine cx rfl rr_ ?_ | refine bV rfl rr_ dd_ ?_ | refine bW rfl rr_ dd_ ?_ | ((with_reducible apply d_y); exact y_; rfl) | with_reducible refine iG (by kernel_rfl) (by kernel_rfl) ?_ | with_reducible refine lS ?_ | with_reducible refine iY ?_ | with_reducible refine iQ rfl ?_ | refine mb rfl rfl rfl rr_ ?_ | refine iO rfl rfl rfl rr_ rfl rfl rfl ?_ | refine f5 rfl rfl rfl rr_ rfl rfl ?_ | refine rR rfl rfl rfl rr_ dd_ ?_ | refine tF rfl rfl rfl rr_ dd_ ?_)); exact hB.go) | fail)) : A := hi ⟨h⟩
theorem H_ {A B : Prop} (k : Nat) (h : B) (hi : Bk k B -> A := by (first | (intro hB; (repeat1' (first | (with_reducible refine aaz hB ?_) | ((with_reducible apply o_y); exact y_; rfl) | with_reducible refine dc rfl ?_ | (with_reducible first | apply dq | apply cB | apply fO | apply dX | apply cR | apply dT | apply dW | apply fI | apply bB | apply (aq_block_miss rfl) | apply bC | apply bH | apply bz | apply db) | refine iM rfl rfl rfl rr_ ?_ | refine fB rfl rfl rfl rr_ rfl rfl rfl ?_ | refine et rfl rfl rfl rr_ rfl rfl ?_ | refine ni rfl rfl rfl rr_ dd_ ?_ | refine nT rfl rfl rfl rr_ dd_ ?_ | refine cw rfl rr_ ?_ | refine cx rfl rr_ ?_ | refine bV rfl rr_ dd_ ?_ | refine bW rfl rr_ dd_ ?_)); exact hB.go) | fail)) : A := hi ⟨h⟩
theorem HV_ {A B : Prop} (k : Nat) (h : B) (hi : Bk k B -> A := by (first | (intro hB; (repeat1' (first | (with_reducible refine aaz hB ?_) | ((with_reducible apply o_y); exact y_; rfl) | with_reducible refine dc rfl ?_ | (with_reducible first | apply dq | apply cB | apply fO | apply dX | apply cR | apply dT | apply dW | apply fI | apply bB | apply (aq_block_miss rfl) | apply bC | apply bH | apply bz | apply db) | refine iM rfl rfl rfl rr_ ?_ | refine fB rfl rfl rfl rr_ rfl rfl rfl ?_ | refine et rfl rfl rfl rr_ rfl rfl ?_ | refine ni rfl rfl rfl rr_ dd_ ?_ | refine nT rfl rfl rfl rr_ dd_ ?_ | refine cw rfl rr_ ?_ | refine cx rfl rr_ ?_ | refine bV rfl rr_ dd_ ?_ | refine bW rfl rr_ dd_ ?_ | ((with_reducible apply d_y); exact y_; rfl) | with_reducible refine iG (by kernel_rfl) (by kernel_rfl) ?_ | with_reducible refine lS ?_ | with_reducible refine iY ?_ | with_reducible refine iQ rfl ?_ | refine mb rfl rfl rfl rr_ ?_ | refine iO rfl rfl rfl rr_ rfl rfl rfl ?_ | refine f5 rfl rfl rfl rr_ rfl rfl ?_ | refine rR rfl rfl rfl rr_ dd_ ?_ | refine tF rfl rfl rfl rr_ dd_ ?_)); exact hB.go) | fail)) : A := hi ⟨h⟩
structure Bc (p q B C : Prop) : Prop where
 t : p -> B
 f : q -> C
theorem c_ {A B C p q : Prop} (h1 : p -> B) (h2 : q -> C) (hi : Bc p q B C -> A := by (first | (intro hB; first | refine eu rfl rr_ hB.t hB.f | refine df rfl rr_ hB.t hB.f) | fail)) : A := hi ⟨h1, h2⟩
theorem g_ {A B C p q : Prop} (h1 : p -> B) (h2 : q -> C) (hi : Bc p q B C -> A := by (first | (intro hB; first | refine dM rfl rfl rfl rr_ hB.t hB.f | refine dr rfl rfl rfl rr_ hB.t hB.f | refine ep rfl rfl rfl rr_ hB.t hB.f | refine dS rfl rfl rfl rr_ hB.t hB.f) | fail)) : A := hi ⟨h1, h2⟩
theorem r1_ {A : Prop} (h : A := by (first | (exact aK x_ rfl (.tmp _ _ rfl) fun _ => Fin.flat rfl) | fail)) : A := h
section
variable {P : Program} {w0 : World} {G : World -> Prop} {f : Nat} {args : List TV} {r : Nat -> TV}
structure Cx (P : Program) (w0 : World) (G : World -> Prop) (f : Nat) (args : List TV) (r : Nat -> TV) (B : Prop) : Prop where
 hG : G w0
 hst : ay G
 ct : Ct P G f args r
 go : B
theorem aag {N : Nat} {Q : Exit -> Act -> World -> Prop} {env : Env} {objs : aF} {ops : Array Oper} {rest : List Oper} {d T0 : Nat} {pos : String} {af : Array Edge} {g : Option (Nat × Bool)} {xs : List Operand} {ts : Array TypeId} (hN : Nat.blt d N = true) (hc : gB P f = true) (hct : Ct P G f args r) (hargs : bS env objs xs args) (hG : G w0) (hst : ay G) (h : AL P w0 N ops Q rest ((d, r w0.heap.size) :: env) objs) : AO P w0 N ops Q ⟨some d, .call { callee := .value (.func f), args := xs.toArray, argTypes := ts }, T0, pos, af, g⟩ rest env objs := lO hN hc hargs hG hst hct h
theorem aav {N : Nat} {K : Env -> Prop} {env : Env} {objs : aF} {ops : Array Oper} {rest : List Oper} {d T0 : Nat} {pos : String} {af : Array Edge} {g : Option (Nat × Bool)} {xs : List Operand} {ts : Array TypeId} (hN : Nat.blt d N = true) (hc : gB P f = true) (hct : Ct P G f args r) (hargs : bS env objs xs args) (hG : G w0) (hst : ay G) (h : DR P w0 N ops objs K rest ((d, r w0.heap.size) :: env)) : DO P w0 N ops objs K ⟨some d, .call { callee := .value (.func f), args := xs.toArray, argTypes := ts }, T0, pos, af, g⟩ rest env := acK hN hc hargs hG hst hct h
theorem ad {A B : Prop} (hG : G w0) (hst : ay G) (hct : Ct P G f args r) (h : B) (hi : Cx P w0 G f args r B -> A := by (first | (intro hB; (with_reducible apply aag); rfl; kernel_rfl; exact (Cx.ct hB); ((repeat (first | exact bS.nil | ((with_reducible apply bS.cons); rfl; exact .same _)))); exact (Cx.hG hB); exact (Cx.hst hB); exact (Cx.go hB)) | fail)) : A := hi ⟨hG, hst, hct, h⟩
theorem ae {A B : Prop} (hG : G w0) (hst : ay G) (hct : Ct P G f args r) (h : B) (hi : Cx P w0 G f args r B -> A := by (first | (intro hB; (with_reducible apply aav); rfl; kernel_rfl; exact (Cx.ct hB); ((repeat (first | exact bS.nil | ((with_reducible apply bS.cons); rfl; exact .same _)))); exact (Cx.hG hB); exact (Cx.hst hB); exact (Cx.go hB)) | fail)) : A := hi ⟨hG, hst, hct, h⟩
theorem adW {A B : Prop} (hG : G w0) (hst : ay G) (hct : Ct P G f args r) (h : B) (hi : Cx P w0 G f args r B -> A := by (first | (intro hB; (with_reducible apply aag); rfl; kernel_rfl; exact (Cx.ct hB); ((repeat (first | exact bS.nil | ((with_reducible apply bS.cons); rfl; (first | with_reducible exact ca.same _ | ((with_reducible apply ca.msAll); (repeat (first | with_reducible exact mh | with_reducible refine mt ?_)); (first | with_reducible assumption | exact bytR_length _ | exact aj _ | exact strR_length _ | exact List.length_map _ | assumption | rfl)) | ((with_reducible apply view_code); (repeat (first | with_reducible exact mh | with_reducible refine mt ?_)); (first | with_reducible assumption | exact bytR_length _ | exact aj _ | exact strR_length _ | exact List.length_map _ | assumption | rfl)) | ((with_reducible apply ca.cut); exact ca.cp0 _ _; rfl)))))); exact (Cx.hG hB); exact (Cx.hst hB); exact (Cx.go hB)) | fail)) : A := hi ⟨hG, hst, hct, h⟩
theorem cS {A B : Prop} (hG : G w0) (hst : ay G) (hct : Ct P G f args r) (h : B) (hi : Cx P w0 G f args r B -> A := by (first | (intro hB; (with_reducible apply aav); rfl; kernel_rfl; exact (Cx.ct hB); ((repeat (first | exact bS.nil | ((with_reducible apply bS.cons); rfl; (first | with_reducible exact ca.same _ | ((with_reducible apply ca.msAll); (repeat (first | with_reducible exact mh | with_reducible refine mt ?_)); (first | with_reducible assumption | exact bytR_length _ | exact aj _ | exact strR_length _ | exact List.length_map _ | assumption | rfl)) | ((with_reducible apply view_code); (repeat (first | with_reducible exact mh | with_reducible refine mt ?_)); (first | with_reducible assumption | exact bytR_length _ | exact aj _ | exact strR_length _ | exact List.length_map _ | assumption | rfl)) | ((with_reducible apply ca.cut); exact ca.cp0 _ _; rfl)))))); exact (Cx.hG hB); exact (Cx.hst hB); exact (Cx.go hB)) | fail)) : A := hi ⟨hG, hst, hct, h⟩
end
section
variable {P : Program} {w0 : World} {N : Nat} {Q : Exit -> Act -> World -> Prop} {env : Env} {objs : aF} {o : Oper}
theorem aeT {x y : Operand} {ts : Array TypeId} {k : IntKind} {m n : Int} (ho : o.op = .call { callee := .builtin .min, args := #[x, y], argTypes := ts }) (hx : ev env x = some (.int k m)) (hy : ev env y = some (.int k n)) : bj P w0 env objs o (.int k (if n < m then n else m)) := aQ fun a w hw hop => by
 have h0 := (hop x (by simp [ho, Op.operands, Call.operands]) _ hx).int_inv
 have h1 := (hop y (by simp [ho, Op.operands, Call.operands]) _ hy).int_inv
 refine ⟨.int k (if n < m then n else m), ?_, .int _ _⟩
 simp only [execOp, ho, resolve, Sem.run_bind, Sem.run_pure, Result.andThen_ok, invoke, builtin, List.map_toArray, List.map_cons, List.map_nil, h0, h1]
 simp [Builtin.min_, Builtin.min2, Sem.run_pure, Result.andThen_ok]
theorem aeR {ops : Array Oper} {rest : List Oper} {d T0 : Nat} {pos : String} {af : Array Edge} {g : Option (Nat × Bool)} {x y : Operand} {ts : Array TypeId} {k : IntKind} {m n : Int} (hN : Nat.blt d N = true) (hx : ev env x = some (.int k m)) (hy : ev env y = some (.int k n)) (h : AL P w0 N ops Q rest ((d, .int k (if n < m then n else m)) :: env) objs) :
   AO P w0 N ops Q ⟨some d, .call { callee := .builtin .min, args := #[x, y], argTypes := ts }, T0, pos, af, g⟩ rest env objs := xZ rfl hN (aeT rfl hx hy) h
end
section
variable {P : Program} {w0 : World} {N : Nat} {Q : Exit -> Act -> World -> Prop} {objs : aF} {env : Env}
end
def Yu.a : Yu -> Nat
 | .one a _ => a
 | _ => 0
def Yu.b : Yu -> Nat
 | .one _ b => b
 | _ => 0
class Enc (Y : Type) where
 enc : Y -> Yu
 dec : Yu -> Y
 eq : ∀ y, dec (enc y) = y
instance : Enc (Nat × Nat) := ⟨fun y => .one y.1 y.2, fun y => (y.a, y.b), fun _ => rfl⟩
instance : Enc (List (Nat × Nat)) := ⟨.many, fun y => match y with | .many l => l | _ => [], fun _ => rfl⟩
instance {A B : Type} [Enc A] [Enc B] : Enc (A × B) := ⟨fun y => .pair (Enc.enc y.1) (Enc.enc y.2), fun y => match y with | .pair a b => (Enc.dec a, Enc.dec b) | _ => (Enc.dec .no, Enc.dec .no), fun y => by simp [Enc.eq]⟩
section
variable {P : Program} {w0 : World} {N : Nat} {Q : Exit -> Act -> World -> Prop} {objs R : aF} {ops : Array Oper} {env : Env} {dd : Option Nat} {T0 : Nat} {pos : String} {af : Array Edge} {g : Option (Nat × Bool)}
theorem wN {a : Act} {w : World} {l : List Operand} (h : ∀ x ∈ l, ∀ v, ev env x = some v -> Rep w objs v (a.eval x)) {x : Operand} (hx : x ∈ l) {v : TV} (hv : ev env x = some v) : Rep w objs v (a.eval x) := h x hx v hv
theorem abF {T : TypeId} {zs : List TV} (hz : cP P T = some zs) : MkW P w0 env ⟨dd, .alloc T, T0, pos, af, g⟩ [] R (fun _ => True) (fun y => [(y.a, y.b, .box zs)]) (fun y => .mp y.a y.b 0) := mkS fun a w K Q hw _ hK =>
 w7 rfl hz (by simpa using hw) fun ss b v w' h1 h2 h3 => hK (.one ss b) v w' trivial h2 h3 h1
theorem ael {T : TypeId} {n m : Nat} {ps : List (Nat × Operand)} {rows : List (List TV)} (hT : P.underlying T = some (.slice (P.elem T))) (hI : (cP P (P.elem T)).isSome = true) (hm : P.cellsOf (P.elem T) = m) (hm0 : Nat.blt 0 m = true) (hev : evL env ps 0 = some rows) (hn : rows.length = n) (hbig : Nat.ble (n * m) 16777216 = true) (hall : (rows.all fun r => Nat.beq r.length m) = true) :
   MkW P w0 env ⟨dd, .buildSlice T n ps.toArray, T0, pos, af, g⟩ [] R (fun _ => True) (fun y => [(y.a, y.b, .row m rows)]) (fun y => .ms y.a y.b 0 n) := mkS fun a w K Q hw hop hK => by
 obtain ⟨ss, hf⟩ := er ([] ++ R)
 have hm0' : 0 < m := Nat.blt_eq ▸ hm0
 have hall' : ∀ r ∈ rows, r.length = m := fun r hr => Nat.eq_of_beq_eq_true (List.all_eq_true.1 hall r hr)
 have hst := fun cs => fW hw cs (P.elem T) ss (.row m rows)
 obtain ⟨cs, h1, h2, h3⟩ := uZ (o := ⟨dd, .buildSlice T n ps.toArray, T0, pos, af, g⟩) rfl hT hI hm hm0 hn hbig a hev hall' (fun p hp v hv => wN hop (by simpa [Op.operands] using ⟨p.1, hp⟩) hv)
 unfold Oper.wp
 rw [h1]
 have hnm : n <= maxLen := by
   have := Nat.le_of_ble_eq_true hbig
   have h4 : n * 1 <= n * m := Nat.mul_le_mul_left _ hm0'
   simp only [maxLen]; omega
 have hb0 : w.heap.size ≠ 0 := Nat.ne_of_gt (Nat.lt_of_lt_of_le hw.pos hw.below.size)
 refine hK (.one ss w.heap.size) _ _ trivial (hw.newObj hf ⟨⟨hm0', h2.2⟩, hall', .inr ⟨hw.below.size, cs, P.elem T, n, heap_alloc_new w _, h2.1, by omega, hnm, fun j t hj => ?_⟩⟩) (hst cs) (.ms _ _ _ _ _ (.mk ⟨by simp [Yu.b], fp hw #[] 0 ss _, _, _, rfl⟩ (fun m' rows' hm' => .inr ⟨hb0, 0, n, P.elem T, n * m, rfl, Nat.le_refl _, by unfold World.shape?; simp only [Yu.b]; rw [heap_alloc_new]; simp [h2.1], ?_, fun _ => by simp⟩) (fun h0 => absurd h0 hb0)))
 ·obtain ⟨v, h4, h5⟩ := h3 j t hj
  exact ⟨v, h4, h5.step (hst cs)⟩
 ·rcases List.mem_cons.1 hm' with he | hm'
  ·simp only [Prod.mk.injEq, aZ.row.injEq] at he; rw [he.2.2.1]; simp
  ·exact absurd (dk hw hm') (Nat.lt_irrefl _)
theorem tS {T s b len n m : Nat} {x y : Operand} {f : Nat} {rows rows2 news : List (List TV)} (hx : ev env x = some (.ms s b 0 len)) (hy : ev env y = some (.sl f m news)) (hT : mD P T m = true) (hl : rows.length = len) (hn : news.length = n) (hbig : len + n <= 1000000000) (hrows : rows ++ news = rows2) :
   MkW P w0 env ⟨dd, .call { callee := .builtin .append, args := #[x, y], argTypes := #[T, T] }, T0, pos, af, g⟩ [(s, b, .row m rows)] R (fun _ => True) (fun y => [(s, y.b, .row m rows2)]) (fun y => .ms s y.b 0 (len + n)) := mkS fun a w K Q hw hop hK => by
 subst hrows
 subst hn
 have hu : ∀ b', Upd (s, b, .row m rows) (s, b', .row m (rows ++ news)) ([(s, b, .row m rows)] ++ R) ([(s, b', .row m (rows ++ news))] ++ R) := fun b' => .head R
 have hmem := (hu 0).mem
 have hex := wN hop (x := x) (by simp [Op.operands, Call.operands]) hx
 have hey := wN hop (x := y) (by simp [Op.operands, Call.operands]) hy
 obtain ⟨b', off', pre, v', w', hr, hE⟩ := qu (P := P) (ty := T0) hw hmem hex hey hT (by omega) rfl hbig
 have hpre : pre = [] := List.eq_nil_of_length_eq_zero (by rw [hE.prelen]; exact hE.zero rfl)
 have hoff : off' = 0 := hE.zero rfl
 subst hpre; subst hoff
 obtain ⟨⟨hm0, hci⟩, hm, _⟩ := hw.obj s b _ hmem
 obtain ⟨_, _, _, _, _, g3, g4, _⟩ := kH hey
 unfold Oper.wp
 rw [jH (o := ⟨dd, .call { callee := .builtin .append, args := #[x, y], argTypes := #[T, T] }, T0, pos, af, g⟩) rfl hr]
 have hst := jY (m := m) hw (hu b') hE.size hE.keep hE.blk (fun rows' _ => ⟨rows, rfl⟩) (fun m' rows' he => by simp only [aZ.row.injEq] at he; exact he.1.symm) hE.shape (by simp only [cV, ne_eq, Prod.mk.injEq, aZ.row.injEq]; omega)
 have hobj := hE.obj
 simp only [List.nil_append, List.drop_zero] at hobj
 rw [<- hl, List.take_length] at hobj
 refine hK (.one s b') v' w' trivial (hw.upd (hu b') hE.below hE.keep hE.blk hst ⟨⟨hm0, fun t ht => ?_⟩, fun r hr => ?_, hobj.imp id fun ⟨h1, cur, e, cap, h2, h3, h4, h5, h6⟩ => ⟨h1, cur, e, cap, h2, h3, h4, h5, fun j t hj => ?_⟩⟩) hst (.ms s b' _ _ _ (.mk ⟨hE.lt, fun hm' => hw.noMark (hst.mark hm'), ?_⟩ (fun m' rows' hm' => ?_) (fun h0 => ?_)))
 ·simp only [List.flatten_append, List.mem_append] at ht
  rcases ht with ht | ht
  ·exact hci t ht
  ·exact g4 t ht
 ·simp only [List.mem_append] at hr
  rcases hr with hr | hr
  ·exact hm r hr
  ·exact g3 r hr
 ·rcases hE.val with ⟨_, _, h0, h1⟩ | ⟨_, q, c, e, k, h1, _⟩
  ·exact ⟨none, 0, by rw [h0]; exact h1⟩
  ·exact ⟨_, _, h1⟩
 ·rcases (hu b').other hw.sites _ hm' with he | ⟨_, hne, _⟩
  ·simp only [Prod.mk.injEq, aZ.row.injEq] at he
   obtain ⟨_, _, rfl, _⟩ := he
   exact hE.val
  ·exact absurd rfl hne
 ·rcases hE.val with ⟨_, h1, h2, h3⟩ | ⟨h1, _⟩
  ·exact ⟨h1, h2, h3⟩
  ·exact absurd h0 h1
 ·obtain ⟨u, p1, p2⟩ := h6 j t hj
  exact ⟨u, p1, p2.step hst⟩
theorem ca.mono {objs' : aF} (hs : ∀ x ∈ objs, x ∈ objs') {t t' : TV} (h : ca objs t t') : ca objs' t t' := by
 induction h with
 | same t => exact .same t
 | nils m => exact .nils m
 | ms s b off len m rows live rows' hm hle hlive hl h ih => exact .ms s b off len m rows live rows' (hs _ hm) hle hlive hl ih
 | mp s b off cells l' hm hl h ih => exact .mp s b off cells l' (hs _ hm) hl ih
 | me s b m k j rows r l' hm hr hl h ih => exact .me s b m k j rows r l' (hs _ hm) hr hl ih
 | agg l l' hl h ih => exact .agg l l' hl ih
 | sl f m rows rows' hl h ih => exact .sl f m rows rows' hl ih
 | cp f l l' hl h ih => exact .cp f l l' hl ih
 | cut t l l' h hp ih => exact .cut t l l' ih hp
theorem bS.mono {objs' : aF} (hs : ∀ x ∈ objs, x ∈ objs') {xs : List Operand} {ts : List TV} (h : bS env objs xs ts) : bS env objs' xs ts := by
 induction h with
 | nil => exact .nil
 | cons x xs t t' ts h hv hr ih => exact .cons x xs t t' ts h (hv.mono hs) ih
theorem ac7 {G : World -> Prop} {f : Nat} {xs : List Operand} {ts : Array TypeId} {args : List TV} {Y : Type} [Enc Y] {I : Y -> Prop} {O : Y -> aF} {r : Y -> TV} (hc : gB P f = true) (hct : CtM P G f args [] I O r) (hargs : bS env objs xs args) (hR : ∀ x ∈ objs, x ∈ R)
   (hG : G w0) (hst : ay G) (hnew : ∀ y, I y -> (∀ s b o, (s, b, o) ∈ O y -> co (O y) o) /\ dy (O y) (r y)) :
   MkW P w0 env ⟨dd, .call { callee := .value (.func f), args := xs.toArray, argTypes := ts }, T0, pos, af, g⟩ [] R (fun y => I (Enc.dec y)) (fun y => O (Enc.dec y)) (fun y => r (Enc.dec y)) := mkS fun a w K Q hw0 hop hK => by
 have hw : dz w0 R w := by simpa using hw0
 obtain ⟨h1, h2⟩ := mW hw (a := a) (hargs.mono hR) (fun x hx v hv => wN hop (by simp only [Op.operands, Call.operands]; simp [hx]) hv)
 unfold Oper.wp
 rw [j8 (o := ⟨dd, .call { callee := .value (.func f), args := xs.toArray, argTypes := ts }, T0, pos, af, g⟩) rfl hc]
 have hwv := qi hw
 refine (hct w w (md R) [] (xs.map a.eval).toArray (hst.below _ _ hG hw.below) (by simpa using hwv) (.gh _ _ (by simp)) (by simpa using h1) (fun i t v ht hv => ?_)).mono ?_
 ·exact (h2 i t v ht (by simpa using hv)).step (by simpa using pZ w R)
 ·rintro e w' ⟨v, y, rfl, hI, hw', _, hr⟩
  obtain ⟨n1, n2⟩ := hnew y hI
  have hst' := qy hw hw' n1
  exact hK (Enc.enc y) v w' (by (try dsimp only); rw [Enc.eq]; exact hI) (by (try dsimp only); rw [Enc.eq]; exact xa hw hw' n1) (by (try dsimp only); rw [Enc.eq]; exact hst') (by (try dsimp only); rw [Enc.eq]; exact qR hw hw' n1 n2 hr)
end
theorem ad3 {α : Type} {ops : Array Oper} {c : Nat} (f : Yu -> α) : yP ops c (fun p => f (p c)) := fun p p' h => by
 show f (p c) = f (p' c)
 rw [h c (.inl rfl)]
theorem oD (L : List Mki) (p : Pt) : aa8 L none p = [] := rfl
theorem ah_ {A : Prop} (h : A := by (first | exact .inl rfl | exact .inr ⟨by decide, by kernel_rfl⟩ | fail)) : A := h
theorem i8 {A : Prop} (h : A := by (first | (intro p p' h; rfl) | (intro p p' h; (try dsimp only); (repeat rw [h _ ah_])) | fail)) : A := h
theorem aal {A : Prop} (h : A := by (first | (intro p p' h; rfl) | (intro p p' h; (try dsimp only); (repeat rw [h _ (by decide) ah_])) | fail)) : A := h
section
variable {P : Program} {w0 : World} {N : Nat} {Q : Exit -> Act -> World -> Prop} {objs : aF} {ops : Array Oper} {K : List Mki -> (Pt -> Env) -> Prop} {c : Nat} {L : List Mki} {rest : List Oper} {E : Pt -> Env} {d T0 : Nat} {pos : String} {af : Array Edge}
theorem m_q {op : Op} {T : Pt -> TV} (hy : ∀ p R, (∀ x ∈ objs, x ∈ R) -> Yd P w0 (E p) R ⟨some d, op, T0, pos, af, none⟩ (T p)) (hN : Nat.blt d N = true) (hi : yP ops c T) (h : DM P w0 N ops objs K (c + 1) L rest (fun p => (d, T p) :: E p)) : DM P w0 N ops objs K c L (⟨some d, op, T0, pos, af, none⟩ :: rest) E :=
 .run c L _ rest E d T rfl hN rfl hi (fun p R hR => (hy p R hR).go) h
theorem qb {T n m : Nat} {ps : List (Nat × Operand)} {rows : Pt -> List (List TV)} (hev : ∀ p, evL (E p) ps 0 = some (rows p)) (hN : Nat.blt d N = true) (hT : P.underlying T = some (.slice (P.elem T))) (hI : (cP P (P.elem T)).isSome = true) (hs : esT T = some m) (hm : P.cellsOf (P.elem T) = m) (hm0 : Nat.blt 0 m = true) (hn : ∀ p, (rows p).length = n) (hbig : Nat.ble (n * m) 16777216 = true) (hall : ∀ p, ((rows p).all fun r => Nat.beq r.length m) = true) (hi : yP ops c rows)
   (h : DM P w0 N ops objs K (c + 1) L rest (fun p => (d, .sl w0.heap.size m (rows p)) :: E p)) : DM P w0 N ops objs K c L (⟨some d, .buildSlice T n ps.toArray, T0, pos, af, none⟩ :: rest) E :=
 .run c L _ rest E d (fun p => .sl w0.heap.size m (rows p)) rfl hN rfl (fun p p' h => by show TV.sl _ _ (rows p) = _; rw [hi p p' h]) (fun p R hR => adG rfl hT hI hm hm0 (hev p) (hn p) hbig (hall p)) h
theorem ei {T : TypeId} {ps : List (Nat × Operand)} {zs : List TV} {l : Pt -> List TV} (he : zT T = zs) (hb : ∀ p, TB P (E p) T ps zs (l p)) (hN : Nat.blt d N = true) (hz : cP P T = some (zT T)) (hp : (gQ P T).isSome = true) (hi : yP ops c l)
   (h : DM P w0 N ops objs K (c + 1) L rest (fun p => (d, .agg (l p)) :: E p)) : DM P w0 N ops objs K c L (⟨some d, .build T ps.toArray, T0, pos, af, none⟩ :: rest) E :=
 .run c L _ rest E d (fun p => .agg (l p)) rfl hN rfl (fun p p' h => by show TV.agg (l p) = _; rw [hi p p' h]) (fun p R hR => ut rfl hz hp (by rw [he]; exact hb p)) h
theorem jS {T : TypeId} {zs : List TV} (hN : Nat.blt d N = true) (he : zT T = zs) (hz : cP P T = some zs)
   (h : DM P w0 N ops objs K (c + 1) (⟨c, fun p => [((p c).a, (p c).b, .box zs)], none, fun _ => True⟩ :: L) rest (fun p => (d, .mp (p c).a (p c).b 0) :: E p)) : DM P w0 N ops objs K c L (⟨some d, .alloc T, T0, pos, af, none⟩ :: rest) E :=
 .make c L _ rest E d (fun p => [((p c).a, (p c).b, .box zs)]) none (fun _ => True) (fun p => .mp (p c).a (p c).b 0) rfl hN rfl (ad3 fun y => TV.mp y.a y.b 0) (ad3 fun y => [(y.a, y.b, aZ.box zs)]) (fun _ h => by cases h) (fun p R hR => by
   have := abF (P := P) (w0 := w0) (env := E p) (R := R) (dd := some d) (T0 := T0) (pos := pos) (af := af) (g := none) hz
   simpa only [Pt.put_eq, oD] using this) h
theorem tI {T n m : Nat} {ps : List (Nat × Operand)} {rows : List (List TV)} (hev : ∀ p, evL (E p) ps 0 = some rows) (hN : Nat.blt d N = true) (hT : P.underlying T = some (.slice (P.elem T))) (hI : (cP P (P.elem T)).isSome = true) (hs : esT T = some m) (hm : P.cellsOf (P.elem T) = m) (hm0 : Nat.blt 0 m = true) (hn : rows.length = n) (hbig : Nat.ble (n * m) 16777216 = true) (hall : (rows.all fun r => Nat.beq r.length m) = true)
   (h : DM P w0 N ops objs K (c + 1) (⟨c, fun p => [((p c).a, (p c).b, .row m rows)], none, fun _ => True⟩ :: L) rest (fun p => (d, .ms (p c).a (p c).b 0 n) :: E p)) : DM P w0 N ops objs K c L (⟨some d, .buildSlice T n ps.toArray, T0, pos, af, none⟩ :: rest) E :=
 .make c L _ rest E d (fun p => [((p c).a, (p c).b, .row m rows)]) none (fun _ => True) (fun p => .ms (p c).a (p c).b 0 n) rfl hN rfl (ad3 fun y => TV.ms y.a y.b 0 n) (ad3 fun y => [(y.a, y.b, aZ.row m rows)]) (fun _ h => by cases h) (fun p R hR => by
   have := ael (P := P) (w0 := w0) (env := E p) (R := R) (dd := some d) (T0 := T0) (pos := pos) (af := af) (g := none) hT hI hm hm0 (hev p) hn hbig hall
   simpa only [Pt.put_eq, oD] using this) h
theorem ae0 {T i len n m f : Nat} {x y : Operand} {rows rows2 news : List (List TV)} (hx : ∀ p, ev (E p) x = some (.ms (p i).a (p i).b 0 len)) (hy : ∀ p, ev (E p) y = some (.sl f m news)) (hN : Nat.blt d N = true) (hT : mD P T m = true) (hsr : ∀ p, aa8 L (some i) p = [((p i).a, (p i).b, .row m rows)]) (hl : rows.length = len) (hn : news.length = n) (hbig : len + n <= 1000000000) (hrows : rows ++ news = rows2)
   (hah : i ≠ c /\ rC ops c i) (hfn : (fnd L i).isSome = true) (huse : ∀ m ∈ L, m.src ≠ some i)
   (h : DM P w0 N ops objs K (c + 1) (⟨c, fun p => [((p i).a, (p c).b, .row m rows2)], some i, fun _ => True⟩ :: L) rest (fun p => (d, .ms (p i).a (p c).b 0 (len + n)) :: E p)) : DM P w0 N ops objs K c L (⟨some d, .call { callee := .builtin .append, args := #[x, y], argTypes := #[T, T] }, T0, pos, af, none⟩ :: rest) E :=
 .make c L _ rest E d (fun p => [((p i).a, (p c).b, .row m rows2)]) (some i) (fun _ => True) (fun p => .ms (p i).a (p c).b 0 (len + n)) rfl hN rfl (fun p p' h => by show TV.ms (p i).a (p c).b 0 _ = TV.ms (p' i).a (p' c).b 0 _; rw [h c (.inl rfl), h i hah.2]) (fun p p' h => by show [((p i).a, (p c).b, aZ.row m rows2)] = [((p' i).a, (p' c).b, aZ.row m rows2)]; rw [h c (.inl rfl), h i hah.2])
   (fun j hj => by cases hj; exact ⟨fun _ => hah.2, hfn, huse⟩) (fun p R hR => by
   have := tS (P := P) (w0 := w0) (env := E p) (R := R) (dd := some d) (T0 := T0) (pos := pos) (af := af) (g := none) (hx p) (hy p) hT hl hn hbig hrows
   rw [hsr p]
   simpa only [Pt.put_eq, Pt.put_ne hah.1] using this) h
theorem lL {T i n m f : Nat} {x y : Operand} {news : List (List TV)} (hx : ∀ p, ev (E p) x = some (.ms (p i).a (p i).b 0 0)) (hy : ∀ p, ev (E p) y = some (.sl f m news)) (hN : Nat.blt d N = true) (hT : mD P T m = true) (hsr : ∀ p, aa8 L (some i) p = [((p i).a, (p i).b, .row m [])]) (hn : news.length = n) (hbig : n <= 1000000000)
   (hah : i ≠ c /\ rC ops c i) (hfn : (fnd L i).isSome = true) (huse : ∀ m ∈ L, m.src ≠ some i)
   (h : DM P w0 N ops objs K (c + 1) (⟨c, fun p => [((p i).a, (p c).b, .row m news)], some i, fun _ => True⟩ :: L) rest (fun p => (d, .ms (p i).a (p c).b 0 n) :: E p)) : DM P w0 N ops objs K c L (⟨some d, .call { callee := .builtin .append, args := #[x, y], argTypes := #[T, T] }, T0, pos, af, none⟩ :: rest) E :=
 ae0 hx hy hN hT hsr rfl hn (by omega) (List.nil_append _) hah hfn huse (by simpa only [Nat.zero_add] using h)
theorem sZ {T s b len n m f : Nat} {x y : Operand} {rows : List (List TV)} {news rows2 : Pt -> List (List TV)} (hx : ∀ p, ev (E p) x = some (.ms s b 0 len)) (hy : ∀ p, ev (E p) y = some (.sl f m (news p))) (hN : Nat.blt d N = true) (hT : mD P T m = true) (hsr : ∀ p, aa8 L (some 1000000) p = [(s, b, .row m rows)]) (hl : rows.length = len) (hn : ∀ p, (news p).length = n) (hbig : len + n <= 1000000000) (hrows : ∀ p, rows ++ news p = rows2 p)
   (hcs : ops.size < 1000000 /\ c < 1000000) (hi : ∀ p p' : Pt, (∀ m, m ≠ c -> rC ops c m -> p m = p' m) -> rows2 p = rows2 p') (hfn : (fnd L 1000000).isSome = true) (huse : ∀ m ∈ L, m.src ≠ some 1000000)
   (h : DM P w0 N ops objs K (c + 1) (⟨c, fun p => [(s, (p c).b, .row m (rows2 p))], some 1000000, fun _ => True⟩ :: L) rest (fun p => (d, .ms s (p c).b 0 (len + n)) :: E p)) : DM P w0 N ops objs K c L (⟨some d, .call { callee := .builtin .append, args := #[x, y], argTypes := #[T, T] }, T0, pos, af, none⟩ :: rest) E :=
 .make c L _ rest E d (fun p => [(s, (p c).b, .row m (rows2 p))]) (some 1000000) (fun _ => True) (fun p => .ms s (p c).b 0 (len + n)) rfl hN rfl (fun p p' h => by show TV.ms s (p c).b 0 _ = TV.ms s (p' c).b 0 _; rw [h c (.inl rfl)]) (fun p p' h => by show [(s, (p c).b, aZ.row m (rows2 p))] = [(s, (p' c).b, aZ.row m (rows2 p'))]; rw [h c (.inl rfl), hi p p' fun m _ ha => h m ha])
   (fun j hj => by cases hj; exact ⟨fun h => by omega, hfn, huse⟩) (fun p R hR => by
   have := tS (P := P) (w0 := w0) (env := E p) (R := R) (dd := some d) (T0 := T0) (pos := pos) (af := af) (g := none) (hx p) (hy p) hT hl (hn p) hbig (hrows p)
   rw [hsr p]
   have hr2 : ∀ y, rows2 (p.put c y) = rows2 p := fun y => hi _ _ fun m hne _ => Pt.put_ne hne
   simpa only [Pt.put_eq, hr2] using this) h
theorem jw {G : World -> Prop} {f : Nat} {xs : List Operand} {ts : Array TypeId} {args : List TV} {Y : Type} [Enc Y] {I : Y -> Prop} {O : Y -> aF} {r : Y -> TV} (hG : G w0) (hst : ay G) (hct : CtM P G f args [] I O r) (hN : Nat.blt d N = true) (hc : gB P f = true) (hargs : ∀ p, bS (E p) objs xs args) (hnew : ∀ y, I y -> (∀ s b o, (s, b, o) ∈ O y -> co (O y) o) /\ dy (O y) (r y))
   (h : DM P w0 N ops objs K (c + 1) (⟨c, fun p => O (Enc.dec (p c)), none, fun y => I (Enc.dec y)⟩ :: L) rest (fun p => (d, r (Enc.dec (p c))) :: E p)) : DM P w0 N ops objs K c L (⟨some d, .call { callee := .value (.func f), args := xs.toArray, argTypes := ts }, T0, pos, af, none⟩ :: rest) E :=
 .make c L _ rest E d (fun p => O (Enc.dec (p c))) none (fun y => I (Enc.dec y)) (fun p => r (Enc.dec (p c))) rfl hN rfl (ad3 fun y => r (Enc.dec y)) (ad3 fun y => O (Enc.dec y)) (fun _ h => by cases h) (fun p R hR => by
   have := ac7 (P := P) (w0 := w0) (env := E p) (R := R) (dd := some d) (T0 := T0) (pos := pos) (af := af) (g := none) (ts := ts) hc hct (hargs p) hR hG hst hnew
   simpa only [Pt.put_eq, oD] using this) h
end
theorem dL {P : Program} {w0 : World} {N : Nat} {Q : Exit -> Act -> World -> Prop} {env : Env} {objs : aF} {ops : Array Oper} {rest : List Oper} {d T0 : Nat} {pos : String} {af : Array Edge} {g : Option (Nat × Bool)} {objsOf : Nat -> aF} {T s b n m : Nat} {x y : Operand} {f : Nat} {news : List (List TV)} (hN : Nat.blt d N = true) (hx : ev env x = some (.ms s b 0 0)) (hy : ev env y = some (.sl f m news)) (hT : mD P T m = true) (hm : (s, b, aZ.row m []) ∈ objs) (hn : news.length = n) (hbig : n <= 1000000000) (hu : ∀ b2, Upd (s, b, .row m []) (s, b2, .row m news) objs (objsOf b2)) (h : ∀ b2, AL P w0 N ops Q rest ((d, .ms s b2 0 n) :: env) (objsOf b2)) : AO P w0 N ops Q ⟨some d, .call { callee := .builtin .append, args := #[x, y], argTypes := #[T, T] }, T0, pos, af, g⟩ rest env objs :=
 dP hN hx hy hT hm rfl hn (by omega) (List.nil_append _) hu (fun b2 => by simpa only [Nat.zero_add] using h b2)
theorem ym_ {A : Prop} (h : A := by (first | (intro p R hR; (try dsimp only); (first | ((with_reducible first | apply aax | apply qQ | apply hY); rfl) | ((with_reducible apply wI); rfl; (with_reducible rfl); rfl) | ((with_reducible apply wq); rfl; (with_reducible rfl); rfl) | ((with_reducible apply ta); rfl; kernel_rfl; rfl; (exact hR _ mm_); (first | (with_reducible assumption) | (refine aI ?_; omega) | (refine fM ?_; simp only [List.length_set, List.length_map]; omega) | exact rfl | assumption); rfl) | ((with_reducible apply nU); rfl; kernel_rfl; rfl; rfl) | ((with_reducible apply sg); rfl; kernel_rfl; rfl; (exact hR _ mm_); rfl) | ((with_reducible apply jG); rfl; kernel_rfl; rfl) | ((with_reducible apply jR); rfl; rfl; kernel_rfl; kernel_rfl; kernel_rfl; rfl; (first | (with_reducible first | exact rfl | exact pb | exact pu | exact oW | exact nat3) | exact rfl | exact cO (by omega) | omega); (first | (with_reducible assumption) | (refine aI ?_; omega) | (refine fM ?_; simp only [List.length_set, List.length_map]; omega) | exact rfl | assumption)) | ((with_reducible apply jt); rfl; rfl; (exact hR _ mm_); kernel_rfl; kernel_rfl; kernel_rfl; (first | (with_reducible first | exact rfl | exact pb | exact pu | exact oW | exact nat3) | exact rfl | exact cO (by omega) | omega); (first | assumption | omega); (first | with_reducible exact Nat.zero_add _ | rfl)) | ((with_reducible apply vc); rfl; kernel_rfl) | ((with_reducible apply rB); rfl; kernel_rfl; (first | exact List.length_map _ | rfl)) | ((with_reducible apply xu); rfl; kernel_rfl) | ((with_reducible apply qk); rfl; kernel_rfl) | ((with_reducible first | apply adw | apply adA | apply adu | apply ac8 | apply adT | apply acV | apply nM | apply Y_or | apply Y_and); rfl; rfl) | ((with_reducible first | apply adX | apply adb | apply Y_mul); rfl; rfl; (first | ((with_reducible first | refine acS ?_ | refine w_n2 ?_ | refine acA ?_ | refine rY ?_ | refine IntWalk.i64_in _ ?_ | refine w_u8 _ ?_); omega) | ((with_reducible refine IntWalk.i64_in _ ?_); omega) | (with_reducible assumption) | exact rfl)) | ((with_reducible apply nw); rfl; rfl; kernel_rfl; (first | (with_reducible first | exact rfl | exact pb | exact pu | exact oW | exact nat3) | exact rfl | exact cO (by omega) | omega); (first | assumption | omega)) | ((with_reducible apply aaT); rfl; (with_reducible rfl)) | ((with_reducible apply zl); rfl; (with_reducible rfl)) | ((with_reducible apply Y_not); rfl; (with_reducible rfl)) | ((with_reducible apply zQ); rfl; (with_reducible rfl)) | ((with_reducible first | apply aa4 | apply zu); rfl; rfl) | ((with_reducible apply ly); rfl; rfl; kernel_rfl; kernel_rfl; (first | ((with_reducible first | refine acS ?_ | refine w_n2 ?_ | refine acA ?_ | refine rY ?_ | refine IntWalk.i64_in _ ?_ | refine w_u8 _ ?_); omega) | ((with_reducible refine IntWalk.i64_in _ ?_); omega) | (with_reducible assumption) | exact rfl)) | ((with_reducible apply kJ); rfl; (exact hR _ mm_)) | ((with_reducible apply jZ); rfl; (exact hR _ mm_); (first | (with_reducible assumption) | (refine aI ?_; omega) | (refine fM ?_; simp only [List.length_set, List.length_map]; omega) | exact rfl | assumption)) | ((with_reducible apply kD); rfl; kernel_rfl; kernel_rfl; kernel_rfl; rfl; (exact hR _ mm_); (first | (with_reducible assumption) | (refine aI ?_; omega) | (refine fM ?_; simp only [List.length_set, List.length_map]; omega) | exact rfl | assumption); (first | exact .zero _ | exact .succ _ _ _ _ (.zero _) | exact .succ _ _ _ _ (.succ _ _ _ _ (.zero _)) | exact .succ _ _ _ _ (.succ _ _ _ _ (.succ _ _ _ _ (.zero _))) | exact .succ _ _ _ _ (.succ _ _ _ _ (.succ _ _ _ _ (.succ _ _ _ _ (.zero _)))) | (repeat (first | exact .zero _ | apply gf.succ)))) | ((with_reducible apply gU); rfl; kernel_rfl; kernel_rfl; kernel_rfl; rfl; (first | exact .zero _ | exact .succ _ _ _ _ (.zero _) | exact .succ _ _ _ _ (.succ _ _ _ _ (.zero _)) | exact .succ _ _ _ _ (.succ _ _ _ _ (.succ _ _ _ _ (.zero _))) | exact .succ _ _ _ _ (.succ _ _ _ _ (.succ _ _ _ _ (.succ _ _ _ _ (.zero _)))) | (repeat (first | exact .zero _ | apply gf.succ)))) | ((with_reducible apply ki); rfl; kernel_rfl; kernel_rfl; kernel_rfl; rfl; (exact hR _ mm_); (first | exact .zero _ | exact .succ _ _ _ _ (.zero _) | exact .succ _ _ _ _ (.succ _ _ _ _ (.zero _)) | exact .succ _ _ _ _ (.succ _ _ _ _ (.succ _ _ _ _ (.zero _))) | exact .succ _ _ _ _ (.succ _ _ _ _ (.succ _ _ _ _ (.succ _ _ _ _ (.zero _)))) | (repeat (first | exact .zero _ | apply gf.succ)))) | ((with_reducible apply Y_field); rfl; kernel_rfl; kernel_rfl; rfl) | ((with_reducible apply Y_slice_lh); rfl; rfl; rfl; kernel_rfl; (first | (with_reducible first | exact rfl | exact pb | exact pu | exact oW | exact nat3) | exact rfl | exact cO (by omega) | omega); (first | (with_reducible first | exact rfl | exact pb | exact pu | exact oW | exact nat3) | exact rfl | exact cO (by omega) | omega); (first | assumption | omega); (first | assumption | omega)) | ((with_reducible apply Y_slice_l); rfl; rfl; kernel_rfl; (first | (with_reducible first | exact rfl | exact pb | exact pu | exact oW | exact nat3) | exact rfl | exact cO (by omega) | omega); (first | assumption | omega)) | ((with_reducible apply Y_slice_h); rfl; rfl; kernel_rfl; (first | (with_reducible first | exact rfl | exact pb | exact pu | exact oW | exact nat3) | exact rfl | exact cO (by omega) | omega); (first | assumption | omega)) | ((with_reducible apply Y_quo); rfl; rfl; omega; (first | ((with_reducible first | refine acS ?_ | refine w_n2 ?_ | refine acA ?_ | refine rY ?_ | refine IntWalk.i64_in _ ?_ | refine w_u8 _ ?_); omega) | ((with_reducible refine IntWalk.i64_in _ ?_); omega) | (with_reducible assumption) | exact rfl)) | ((with_reducible apply aer); rfl; rfl; omega; exact rfl) | ((with_reducible apply Y_add_s); rfl; rfl; (first | assumption | omega | (simp only [ByteArray.size_append, aeJ, List.size_toArray, List.length_cons, List.length_nil]; omega))) | ((with_reducible first | apply aaQ | apply aaM); rfl; rfl; kernel_rfl) | ((with_reducible apply Y_shl); rfl; rfl; omega) | ((with_reducible first | apply zt | apply aaW); rfl; rfl; kernel_rfl))) | fail)) : A := h
section
variable {P : Program} {w0 : World} {N : Nat} {Q : Exit -> Act -> World -> Prop} {objs R : aF} {ops : Array Oper} {env : Env} {T0 : Nat} {pos : String} {af : Array Edge} {g : Option (Nat × Bool)}
end
section
variable {P : Program} {w0 : World} {N : Nat} {Q : Exit -> Act -> World -> Prop} {objs : aF} {ops : Array Oper} {K : List Mki -> (Pt -> Env) -> Prop} {c : Nat} {L : List Mki} {rest : List Oper} {E : Pt -> Env} {T0 : Nat} {pos : String} {af : Array Edge}
end
section
variable {P : Program} {w0 : World} {N : Nat} {Q : Exit -> Act -> World -> Prop} {objs R : aF} {ops : Array Oper} {env : Env} {dd : Option Nat} {T0 : Nat} {pos : String} {af : Array Edge} {g : Option (Nat × Bool)}
end
section
variable {P : Program} {w0 : World} {N : Nat} {objs : aF} {ops : Array Oper} {K : List Mki -> (Pt -> Env) -> Prop} {c : Nat} {L : List Mki} {rest : List Oper} {E : Pt -> Env} {d T0 : Nat} {pos : String} {af : Array Edge}
end
section
variable {P : Program} {w0 : World} {N : Nat} {Q : Exit -> Act -> World -> Prop} {env : Env} {objs objs' : aF}
theorem aaX (w : World) (s b ss m0 m : Nat) (c c' : List (List TV)) (hm : 0 < m) (h0 : 0 < m0) : jT w ((s, b, .row m0 c) :: objs) w ((s, b, .row m0 c') :: (ss, 0, .row m []) :: objs) :=
 ⟨fun _ _ _ => rfl, fun b' _ ha => ⟨ha.1, by
   obtain ⟨h0, s', o, hm⟩ := ha
   rcases List.mem_cons.1 hm with he | hm
   ·simp only [Prod.mk.injEq] at he
    obtain ⟨rfl, rfl, _⟩ := he
    exact ⟨_, _, List.mem_cons_self⟩
   ·rcases List.mem_cons.1 hm with he | hm
    ·simp only [Prod.mk.injEq] at he; omega
    ·exact ⟨s', o, List.mem_cons_of_mem _ hm⟩⟩, fun s' b' m' rows _ hb hm' => by
   rcases List.mem_cons.1 hm' with he | hm'
   ·simp only [Prod.mk.injEq, aZ.row.injEq] at he
    obtain ⟨rfl, rfl, rfl, _⟩ := he
    exact ⟨⟨c, List.mem_cons_self⟩, rfl⟩
   ·rcases List.mem_cons.1 hm' with he | hm'
    ·simp only [Prod.mk.injEq] at he; omega
    ·exact ⟨⟨rows, List.mem_cons_of_mem _ hm'⟩, rfl⟩, Nat.le_refl _, fun hk => by
   rcases List.mem_cons.1 hk with he | hk
   ·simp only [cV, Prod.mk.injEq, aZ.row.injEq] at he; omega
   ·rcases List.mem_cons.1 hk with he | hk
    ·simp only [cV, Prod.mk.injEq, aZ.row.injEq] at he; omega
    ·exact List.mem_cons_of_mem _ hk⟩
theorem Sim.nilRk {a : Act} {w : World} {s b m0 : Nat} {rows : List (List TV)} {cells : List TV} (h : Sim w0 N env ((s, b, .row m0 rows) :: objs) a w) (k i m : Nat) (hm : 0 < m) (hk : rows[k]? = some cells) (hi : cells[i]? = some .nils) : ∃ ss, Sim w0 N env ((s, b, .row m0 (rows.set k (cells.set i (.ms ss 0 0 0)))) :: (ss, 0, .row m []) :: objs) a w := by
 obtain ⟨ss, hss⟩ := er ((s, b, .row m0 rows) :: objs)
 have hpos : 0 < w.heap.size := Nat.lt_of_lt_of_le h.mem.pos h.mem.below.size
 have hob := h.mem.obj _ _ _ (List.mem_cons_self (l := objs))
 have hst : jT w ((s, b, .row m0 rows) :: objs) w ((s, b, .row m0 (rows.set k (cells.set i (.ms ss 0 0 0)))) :: (ss, 0, .row m []) :: objs) := aaX w s b ss m0 m _ _ hm hob.1.1
 have hnm : cV ∉ (s, b, aZ.row m0 (rows.set k (cells.set i (.ms ss 0 0 0)))) :: (ss, 0, .row m []) :: objs := fun hk => h.mem.noMark (hst.mark hk)
 have hkl : k < rows.length := (List.getElem?_eq_some_iff.1 hk).1
 have hil : i < cells.length := (List.getElem?_eq_some_iff.1 hi).1
 have hb0 : b ≠ 0 := by
   obtain ⟨_, _, g3⟩ := hob
   rcases g3 with ⟨_, rfl⟩ | ⟨g3, _⟩
   ·simp at hkl
   ·have := h.mem.pos
    omega
 refine ⟨ss, h.defers, h.size, ⟨h.mem.below, h.mem.pos, fun s' b' o hm' => ?_, ?_⟩, fun t v hv => (h.env t v hv).step hst⟩
 ·rcases List.mem_cons.1 hm' with he | hm'
  ·simp only [Prod.mk.injEq] at he
   obtain ⟨rfl, rfl, rfl⟩ := he
   obtain ⟨⟨g1, g2⟩, g0, g3⟩ := hob
   rcases g3 with ⟨_, rfl⟩ | ⟨g3, cur, e, cap, g4, g5, g6, g7, g8⟩
   ·simp at hkl
   have hcl := g0 _ (List.mem_of_getElem? hk)
   have hfs := oJ g0 g1 hkl (r' := cells.set i (.ms ss 0 0 0)) (by rw [List.length_set]; exact hcl)
   refine ⟨⟨g1, kg g2 fun t ht => ?_⟩, fun r hr => ?_, .inr ⟨g3, cur, e, cap, g4, g5, by rw [List.length_set]; exact g6, g7, fun j t hj => ?_⟩⟩
   ·rcases List.mem_or_eq_of_mem_set ht with ht | rfl
    ·exact g2 t (List.mem_flatten.2 ⟨_, List.mem_of_getElem? hk, ht⟩)
    ·rfl
   ·rcases List.mem_or_eq_of_mem_set hr with hr | rfl
    ·exact g0 r hr
    ·rw [List.length_set]; exact hcl
   ·have hold : ∀ q t, q < m0 -> cells[q]? = some t -> ∃ v, cur[k * m0 + q]? = some v /\ Rep w ((s', b', .row m0 rows) :: objs) t v := fun q t hq ht => g8 _ t ((dH g0 hk hq).trans ht)
    rw [hfs] at hj
    split at hj
    ·rename_i hrange
     rw [List.getElem?_set] at hj
     split at hj
     ·rename_i e1
      try rw [if_pos hil] at hj
      cases hj
      obtain ⟨v, g9, g10⟩ := hold i _ (by omega) hi
      refine ⟨v, by rw [show j = k * m0 + i by omega]; exact g9, ?_⟩
      cases g10
      exact .ms ss 0 0 0 _ (.mk ⟨hpos, hnm, none, 0, rfl⟩ (fun _ _ _ => .inl ⟨rfl, rfl, rfl, rfl⟩) fun _ => ⟨rfl, rfl, rfl⟩)
     ·obtain ⟨v, g9, g10⟩ := hold (j - k * m0) t (by rw [Nat.succ_mul] at hrange; omega) hj
      exact ⟨v, by rw [show j = k * m0 + (j - k * m0) by omega]; exact g9, g10.step hst⟩
    ·obtain ⟨v, g9, g10⟩ := g8 j t hj
     exact ⟨v, g9, g10.step hst⟩
  ·rcases List.mem_cons.1 hm' with he | hm'
   ·simp only [Prod.mk.injEq] at he
    obtain ⟨rfl, rfl, rfl⟩ := he
    exact ⟨⟨hm, by simp⟩, by simp, .inl ⟨rfl, rfl⟩⟩
   ·exact (h.mem.obj s' b' o (List.mem_cons_of_mem _ hm')).step hst rfl
 ·obtain ⟨p1, p2⟩ := List.pairwise_cons.1 h.mem.sites
  refine List.pairwise_cons.2 ⟨fun y hy => ?_, List.pairwise_cons.2 ⟨fun y hy => ⟨(hss y (List.mem_cons_of_mem _ hy)).symm, .inr rfl⟩, p2⟩⟩
  rcases List.mem_cons.1 hy with rfl | hy
  ·exact ⟨hss (s, b, .row m0 rows) List.mem_cons_self, .inl hb0⟩
  ·exact p1 y hy
theorem wY {c : Code} {s b m0 : Nat} {rows : List (List TV)} {cells : List TV} (k i m : Nat) (hm : 0 < m) (hk : rows[k]? = some cells) (hi : cells[i]? = some .nils) (h : ∀ ss, AW P w0 N c Q env ((s, b, .row m0 (rows.set k (cells.set i (.ms ss 0 0 0)))) :: (ss, 0, .row m []) :: objs)) : AW P w0 N c Q env ((s, b, .row m0 rows) :: objs) := ⟨fun a w hs => by
 obtain ⟨ss, h1⟩ := hs.nilRk k i m hm hk hi
 exact (h ss).run a w h1⟩
end
section
variable {P : Program} {w0 : World} {N : Nat} {Q : Exit -> Act -> World -> Prop} {env : Env} {objs : aF} {ops : Array Oper} {rest : List Oper}
def aex (P : Program) (T : TypeId) : Bool := match P.underlying T with
 | some (.slice _) => true
 | _ => false
theorem adk {d : Nat} {T T0 t2 : TypeId} {pos : String} {af : Array Edge} {g : Option (Nat × Bool)} {x : Operand} {f m : Nat} {rows : List (List TV)} (hN : Nat.blt d N = true) (hx : ev env x = some (.sl f m rows)) (hm : Nat.blt 0 m = true) (hT : aex P T = true)
   (h : ∀ b : Bool, (b = true -> rows = []) -> AL P w0 N ops Q rest ((d, .bool b) :: env) objs) : AO P w0 N ops Q ⟨some d, .binOp .eql T x (.const (.slice none 0 0)) t2, T0, pos, af, g⟩ rest env objs :=
 ⟨fun a w K hs hK => by
   have hr := fa hs hx
   obtain ⟨A, c, hA, hn⟩ : ∃ A c, a.eval x = .slice A rows.length c /\ (A = none -> rows = []) := by
     generalize a.eval x = v at hr
     cases hr with
     | sl _ _ _ A c h1 h2 hm2 hi gg hc hrr =>
       refine ⟨A, c, rfl, fun hA => ?_⟩
       cases rows with
       | nil => rfl
       | cons r rs =>
         exfalso
         have hl := hm2 r List.mem_cons_self
         have hm0 : 0 < m := Nat.le_of_ble_eq_true hm
         cases r with
         | nil => simp at hl; omega
         | cons t ts =>
           obtain ⟨b, o, hA2, _⟩ := hc 0 t (by simp)
           rw [hA] at hA2; cases hA2
   unfold aex at hT
   split at hT
   ·rename_i e hu
    have h1 : (execOp a.eval ⟨some d, .binOp .eql T x (.const (.slice none 0 0)) t2, T0, pos, af, g⟩).run P w = .ok (.value (.bool A.isNone)) w := by
      simp only [execOp, hA, show a.eval (.const (.slice none 0 0)) = .slice none 0 0 from rfl]
      refine dn ?_
      simp [Sem.run_bind, eqGuard, Sem.run_pure, Result.andThen_ok, run_eql_slice_nil w T e A rows.length c hu]
    unfold Oper.wp
    rw [h1]
    exact hK _ _ ((h A.isNone fun hb => hn (by simpa using hb)).run _ _ (hs.put hN (.bool _) hs.mem ⟨fun _ _ _ => rfl, fun _ _ h => h, fun _ _ _ rows _ _ h => ⟨⟨rows, h⟩, rfl⟩, Nat.le_refl _, id⟩))
   ·cases hT⟩
theorem aaL {objs' : aF} {o : Oper} {t s b m n : Nat} {rows : List (List TV)} (hx : lk t env = some (.ms s b 0 n)) (hn : rows.length = n) (hd : yR s b (.row m rows) objs objs') (h : AO P w0 N ops Q o rest ((t, .sl w0.heap.size m rows) :: env) objs') : AO P w0 N ops Q o rest env objs := ⟨fun a w K hs hK => h.run a w K (hs.freeze hx hn hd) hK⟩
end
end Go.Proofs.YtigipcbnfeoliaaGreatDoor
