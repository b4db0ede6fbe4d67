/- Part 7 of the proof: the texts EngAF, TvA, LwT, NeA. -/
import Derived.Test.YthpdkhejeookhaaGreatDoorPart6
import Derived.Test.YthpdkhejeookhaaGreatDoorPart5
import Derived.Test.YthpdkhejeookhaaGreatDoorPart2
import Derived.Test.YthpdkhejeookhaaGreatDoorPart1
/- The abstract walk, part 24: the steps of a drawn region that makes memory. Written by gen_eng3.py. -/
namespace Go.Proofs.YthpdkhejeookhaaGreatDoor
open Go Go.RowKit
theorem ind1 {α : Type} {ops : Array Oper} {c : Nat} (f : Yu → α) : IndT ops c (fun p => f (p c)) := fun p p' h => by
  show f (p c) = f (p' c)
  rw [h c (.inl rfl)]
theorem srcO_none (L : List Mki) (p : Pt) : srcO L none p = [] := rfl
theorem ah_ {A : Prop} (h : A := by (first | exact .inl rfl | exact .inr ⟨by decide, by kernel_rfl⟩ | fail)) : A := h
theorem ind_ {A : Prop} (h : A := by (first | (intro p p' h; rfl) | (intro p p' h; (try dsimp only); (repeat rw [h _ ah_])) | fail)) : A := h
theorem inds_ {A : Prop} (h : A := by (first | (intro p p' h; rfl) | (intro p p' h; (try dsimp only); (repeat rw [h _ (by decide) ah_])) | fail)) : A := h
section
variable {P : Program} {w0 : World} {N : Nat} {Q : Exit → Act → World → Prop} {objs : Objs} {ops : Array Oper} {K : List Mki → (Pt → Env) → Prop} {c : Nat} {L : List Mki} {rest : List Oper} {E : Pt → Env} {d T0 : Nat} {pos : String} {af : Array Edge}
theorem m_q {op : Op} {T : Pt → TV} (hy : ∀ p R, (∀ x ∈ objs, x ∈ R) → Yd P w0 (E p) R ⟨some d, op, T0, pos, af, none⟩ (T p)) (hN : Nat.blt d N = true) (hi : IndT ops c T) (h : DM P w0 N ops objs K (c + 1) L rest (fun p => (d, T p) :: E p)) : DM P w0 N ops objs K c L (⟨some d, op, T0, pos, af, none⟩ :: rest) E :=
  .run c L _ rest E d T rfl hN rfl hi (fun p R hR => (hy p R hR).go) h
theorem m_litq {T n m : Nat} {ps : List (Nat × Operand)} {rows : Pt → List (List TV)} (hev : ∀ p, evL (E p) ps 0 = some (rows p)) (hN : Nat.blt d N = true) (hT : P.underlying T = some (.slice (P.elem T))) (hI : (zeroOk P (P.elem T)).isSome = true) (hs : esT T = some m) (hm : P.cellsOf (P.elem T) = m) (hm0 : Nat.blt 0 m = true) (hn : ∀ p, (rows p).length = n) (hbig : Nat.ble (n * m) 16777216 = true) (hall : ∀ p, ((rows p).all fun r => Nat.beq r.length m) = true) (hi : IndT ops c rows)
    (h : DM P w0 N ops objs K (c + 1) L rest (fun p => (d, .sl w0.heap.size m (rows p)) :: E p)) : DM P w0 N ops objs K c L (⟨some d, .buildSlice T n ps.toArray, T0, pos, af, none⟩ :: rest) E :=
  .run c L _ rest E d (fun p => .sl w0.heap.size m (rows p)) rfl hN rfl (fun p p' h => by show TV.sl _ _ (rows p) = _; rw [hi p p' h]) (fun p R hR => y_lit rfl hT hI hm hm0 (hev p) (hn p) hbig (hall p)) h
theorem m_build {T : TypeId} {ps : List (Nat × Operand)} {zs : List TV} {l : Pt → List TV} (he : zT T = zs) (hb : ∀ p, TB P (E p) T ps zs (l p)) (hN : Nat.blt d N = true) (hz : zeroOk P T = some (zT T)) (hp : (placesOf P T).isSome = true) (hi : IndT ops c l)
    (h : DM P w0 N ops objs K (c + 1) L rest (fun p => (d, .agg (l p)) :: E p)) : DM P w0 N ops objs K c L (⟨some d, .build T ps.toArray, T0, pos, af, none⟩ :: rest) E :=
  .run c L _ rest E d (fun p => .agg (l p)) rfl hN rfl (fun p p' h => by show TV.agg (l p) = _; rw [hi p p' h]) (fun p R hR => y_build rfl hz hp (by rw [he]; exact hb p)) h
theorem m_alloc {T : TypeId} {zs : List TV} (hN : Nat.blt d N = true) (he : zT T = zs) (hz : zeroOk P T = some zs)
    (h : DM P w0 N ops objs K (c + 1) (⟨c, fun p => [((p c).a, (p c).b, .box zs)], none, fun _ => True⟩ :: L) rest (fun p => (d, .mp (p c).a (p c).b 0) :: E p)) : DM P w0 N ops objs K c L (⟨some d, .alloc T, T0, pos, af, none⟩ :: rest) E :=
  .make c L _ rest E d (fun p => [((p c).a, (p c).b, .box zs)]) none (fun _ => True) (fun p => .mp (p c).a (p c).b 0) rfl hN rfl (ind1 fun y => TV.mp y.a y.b 0) (ind1 fun y => [(y.a, y.b, TObj.box zs)]) (fun _ h => by cases h) (fun p R hR => by
    have := mk_alloc (P := P) (w0 := w0) (env := E p) (R := R) (dd := some d) (T0 := T0) (pos := pos) (af := af) (g := none) hz
    simpa only [Pt.put_eq, srcO_none] using this) h
theorem m_own {T n m : Nat} {ps : List (Nat × Operand)} {rows : List (List TV)} (hev : ∀ p, evL (E p) ps 0 = some rows) (hN : Nat.blt d N = true) (hT : P.underlying T = some (.slice (P.elem T))) (hI : (zeroOk P (P.elem T)).isSome = true) (hs : esT T = some m) (hm : P.cellsOf (P.elem T) = m) (hm0 : Nat.blt 0 m = true) (hn : rows.length = n) (hbig : Nat.ble (n * m) 16777216 = true) (hall : (rows.all fun r => Nat.beq r.length m) = true)
    (h : DM P w0 N ops objs K (c + 1) (⟨c, fun p => [((p c).a, (p c).b, .row m rows)], none, fun _ => True⟩ :: L) rest (fun p => (d, .ms (p c).a (p c).b 0 n) :: E p)) : DM P w0 N ops objs K c L (⟨some d, .buildSlice T n ps.toArray, T0, pos, af, none⟩ :: rest) E :=
  .make c L _ rest E d (fun p => [((p c).a, (p c).b, .row m rows)]) none (fun _ => True) (fun p => .ms (p c).a (p c).b 0 n) rfl hN rfl (ind1 fun y => TV.ms y.a y.b 0 n) (ind1 fun y => [(y.a, y.b, TObj.row m rows)]) (fun _ h => by cases h) (fun p R hR => by
    have := mk_lit (P := P) (w0 := w0) (env := E p) (R := R) (dd := some d) (T0 := T0) (pos := pos) (af := af) (g := none) hT hI hm hm0 (hev p) hn hbig hall
    simpa only [Pt.put_eq, srcO_none] using this) h
theorem m_app {T i len n m f : Nat} {x y : Operand} {rows rows2 news : List (List TV)} (hx : ∀ p, ev (E p) x = some (.ms (p i).a (p i).b 0 len)) (hy : ∀ p, ev (E p) y = some (.sl f m news)) (hN : Nat.blt d N = true) (hT : appOk P T m = true) (hsr : ∀ p, srcO L (some i) p = [((p i).a, (p i).b, .row m rows)]) (hl : rows.length = len) (hn : news.length = n) (hbig : len + n ≤ 1000000000) (hrows : rows ++ news = rows2)
    (hah : i ≠ c ∧ Ahead ops c i) (hfn : (fnd L i).isSome = true) (huse : ∀ m ∈ L, m.src ≠ some i)
    (h : DM P w0 N ops objs K (c + 1) (⟨c, fun p => [((p i).a, (p c).b, .row m rows2)], some i, fun _ => True⟩ :: L) rest (fun p => (d, .ms (p i).a (p c).b 0 (len + n)) :: E p)) : DM P w0 N ops objs K c L (⟨some d, .call { callee := .builtin .append, args := #[x, y], argTypes := #[T, T] }, T0, pos, af, none⟩ :: rest) E :=
  .make c L _ rest E d (fun p => [((p i).a, (p c).b, .row m rows2)]) (some i) (fun _ => True) (fun p => .ms (p i).a (p c).b 0 (len + n)) rfl hN rfl (fun p p' h => by show TV.ms (p i).a (p c).b 0 _ = TV.ms (p' i).a (p' c).b 0 _; rw [h c (.inl rfl), h i hah.2]) (fun p p' h => by show [((p i).a, (p c).b, TObj.row m rows2)] = [((p' i).a, (p' c).b, TObj.row m rows2)]; rw [h c (.inl rfl), h i hah.2])
    (fun j hj => by cases hj; exact ⟨fun _ => hah.2, hfn, huse⟩) (fun p R hR => by
    have := mk_append (P := P) (w0 := w0) (env := E p) (R := R) (dd := some d) (T0 := T0) (pos := pos) (af := af) (g := none) (hx p) (hy p) hT hl hn hbig hrows
    rw [hsr p]
    simpa only [Pt.put_eq, Pt.put_ne hah.1] using this) h
theorem m_app0 {T i n m f : Nat} {x y : Operand} {news : List (List TV)} (hx : ∀ p, ev (E p) x = some (.ms (p i).a (p i).b 0 0)) (hy : ∀ p, ev (E p) y = some (.sl f m news)) (hN : Nat.blt d N = true) (hT : appOk P T m = true) (hsr : ∀ p, srcO L (some i) p = [((p i).a, (p i).b, .row m [])]) (hn : news.length = n) (hbig : n ≤ 1000000000)
    (hah : i ≠ c ∧ Ahead ops c i) (hfn : (fnd L i).isSome = true) (huse : ∀ m ∈ L, m.src ≠ some i)
    (h : DM P w0 N ops objs K (c + 1) (⟨c, fun p => [((p i).a, (p c).b, .row m news)], some i, fun _ => True⟩ :: L) rest (fun p => (d, .ms (p i).a (p c).b 0 n) :: E p)) : DM P w0 N ops objs K c L (⟨some d, .call { callee := .builtin .append, args := #[x, y], argTypes := #[T, T] }, T0, pos, af, none⟩ :: rest) E :=
  m_app hx hy hN hT hsr rfl hn (by omega) (List.nil_append _) hah hfn huse (by simpa only [Nat.zero_add] using h)
theorem m_app1 {T s b len n m f : Nat} {x y : Operand} {rows : List (List TV)} {news rows2 : Pt → List (List TV)} (hx : ∀ p, ev (E p) x = some (.ms s b 0 len)) (hy : ∀ p, ev (E p) y = some (.sl f m (news p))) (hN : Nat.blt d N = true) (hT : appOk P T m = true) (hsr : ∀ p, srcO L (some 1000000) p = [(s, b, .row m rows)]) (hl : rows.length = len) (hn : ∀ p, (news p).length = n) (hbig : len + n ≤ 1000000000) (hrows : ∀ p, rows ++ news p = rows2 p)
    (hcs : ops.size < 1000000 ∧ c < 1000000) (hi : ∀ p p' : Pt, (∀ m, m ≠ c → Ahead ops c m → p m = p' m) → rows2 p = rows2 p') (hfn : (fnd L 1000000).isSome = true) (huse : ∀ m ∈ L, m.src ≠ some 1000000)
    (h : DM P w0 N ops objs K (c + 1) (⟨c, fun p => [(s, (p c).b, .row m (rows2 p))], some 1000000, fun _ => True⟩ :: L) rest (fun p => (d, .ms s (p c).b 0 (len + n)) :: E p)) : DM P w0 N ops objs K c L (⟨some d, .call { callee := .builtin .append, args := #[x, y], argTypes := #[T, T] }, T0, pos, af, none⟩ :: rest) E :=
  .make c L _ rest E d (fun p => [(s, (p c).b, .row m (rows2 p))]) (some 1000000) (fun _ => True) (fun p => .ms s (p c).b 0 (len + n)) rfl hN rfl (fun p p' h => by show TV.ms s (p c).b 0 _ = TV.ms s (p' c).b 0 _; rw [h c (.inl rfl)]) (fun p p' h => by show [(s, (p c).b, TObj.row m (rows2 p))] = [(s, (p' c).b, TObj.row m (rows2 p'))]; rw [h c (.inl rfl), hi p p' fun m _ ha => h m ha])
    (fun j hj => by cases hj; exact ⟨fun h => by omega, hfn, huse⟩) (fun p R hR => by
    have := mk_append (P := P) (w0 := w0) (env := E p) (R := R) (dd := some d) (T0 := T0) (pos := pos) (af := af) (g := none) (hx p) (hy p) hT hl (hn p) hbig (hrows p)
    rw [hsr p]
    have hr2 : ∀ y, rows2 (p.put c y) = rows2 p := fun y => hi _ _ fun m hne _ => Pt.put_ne hne
    simpa only [Pt.put_eq, hr2] using this) h
theorem m_call {G : World → Prop} {f : Nat} {xs : List Operand} {ts : Array TypeId} {args : List TV} {Y : Type} [Enc Y] {I : Y → Prop} {O : Y → Objs} {r : Y → TV} (hG : G w0) (hst : Stable G) (hct : CtM P G f args [] I O r) (hN : Nat.blt d N = true) (hc : callB P f = true) (hargs : ∀ p, Args (E p) objs xs args) (hnew : ∀ y, I y → (∀ s b o, (s, b, o) ∈ O y → ObjNew (O y) o) ∧ NewOk (O y) (r y))
    (h : DM P w0 N ops objs K (c + 1) (⟨c, fun p => O (Enc.dec (p c)), none, fun y => I (Enc.dec y)⟩ :: L) rest (fun p => (d, r (Enc.dec (p c))) :: E p)) : DM P w0 N ops objs K c L (⟨some d, .call { callee := .value (.func f), args := xs.toArray, argTypes := ts }, T0, pos, af, none⟩ :: rest) E :=
  .make c L _ rest E d (fun p => O (Enc.dec (p c))) none (fun y => I (Enc.dec y)) (fun p => r (Enc.dec (p c))) rfl hN rfl (ind1 fun y => r (Enc.dec y)) (ind1 fun y => O (Enc.dec y)) (fun _ h => by cases h) (fun p R hR => by
    have := mk_call (P := P) (w0 := w0) (env := E p) (R := R) (dd := some d) (T0 := T0) (pos := pos) (af := af) (g := none) (ts := ts) hc hct (hargs p) hR hG hst hnew
    simpa only [Pt.put_eq, srcO_none] using this) h
end
theorem o_append0 {P : Program} {w0 : World} {N : Nat} {Q : Exit → Act → World → Prop} {env : Env} {objs : Objs} {ops : Array Oper} {rest : List Oper} {d T0 : Nat} {pos : String} {af : Array Edge} {g : Option (Nat × Bool)} {objsOf : Nat → Objs} {T s b n m : Nat} {x y : Operand} {f : Nat} {news : List (List TV)} (hN : Nat.blt d N = true) (hx : ev env x = some (.ms s b 0 0)) (hy : ev env y = some (.sl f m news)) (hT : appOk P T m = true) (hm : (s, b, TObj.row m []) ∈ objs) (hn : news.length = n) (hbig : n ≤ 1000000000) (hu : ∀ b2, Upd (s, b, .row m []) (s, b2, .row m news) objs (objsOf b2)) (h : ∀ b2, AL P w0 N ops Q rest ((d, .ms s b2 0 n) :: env) (objsOf b2)) : AO P w0 N ops Q ⟨some d, .call { callee := .builtin .append, args := #[x, y], argTypes := #[T, T] }, T0, pos, af, g⟩ rest env objs :=
  o_append hN hx hy hT hm rfl hn (by omega) (List.nil_append _) hu (fun b2 => by simpa only [Nat.zero_add] using h b2)
theorem ym_ {A : Prop} (h : A := by (first | (intro p R hR; (try dsimp only); (first | ((with_reducible first | apply Y_move | apply Y_assign | apply Y_nilCheck_cp); rfl) | ((with_reducible apply Y_pick_t); rfl; (with_reducible rfl); rfl) | ((with_reducible apply Y_pick_f); rfl; (with_reducible rfl); rfl) | ((with_reducible apply Y_load_me); rfl; kernel_rfl; rfl; (exact hR _ mm_); (first | (with_reducible assumption) | (refine row_map ?_; omega) | (refine set_row ?_; simp only [List.length_set, List.length_map]; omega) | exact rfl | assumption); rfl) | ((with_reducible apply Y_load_cp); rfl; kernel_rfl; rfl; rfl) | ((with_reducible apply Y_load_mp); rfl; kernel_rfl; rfl; (exact hR _ mm_); rfl) | ((with_reducible apply Y_fieldAddr); rfl; kernel_rfl; rfl) | ((with_reducible apply Y_indexAddr); rfl; rfl; kernel_rfl; kernel_rfl; kernel_rfl; rfl; (first | (with_reducible first | exact rfl | exact nat0 | exact nat1 | exact nat2 | exact nat3) | exact rfl | exact nat_sub (by omega) | omega); (first | (with_reducible assumption) | (refine row_map ?_; omega) | (refine set_row ?_; simp only [List.length_set, List.length_map]; omega) | exact rfl | assumption)) | ((with_reducible apply Y_indexAddr_ms); rfl; rfl; (exact hR _ mm_); kernel_rfl; kernel_rfl; kernel_rfl; (first | (with_reducible first | exact rfl | exact nat0 | exact nat1 | exact nat2 | exact nat3) | exact rfl | exact nat_sub (by omega) | omega); (first | assumption | omega); (first | with_reducible exact Nat.zero_add _ | rfl)) | ((with_reducible apply Y_len_s); rfl; kernel_rfl) | ((with_reducible apply Y_len_sl); rfl; kernel_rfl; (first | exact List.length_map _ | rfl)) | ((with_reducible apply Y_len_ms); rfl; kernel_rfl) | ((with_reducible apply Y_len_nils); rfl; kernel_rfl) | ((with_reducible first | apply Y_eql | apply Y_neq | apply Y_lss | apply Y_leq | apply Y_gtr | apply Y_geq | apply Y_extract | apply Y_or | apply Y_and); rfl; rfl) | ((with_reducible first | apply Y_add | apply Y_sub | apply Y_mul); rfl; rfl; (first | ((with_reducible first | refine w_n1 ?_ | refine w_n2 ?_ | refine w_nn ?_ | refine w_nm1 ?_ | refine IntWalk.i64_in _ ?_ | refine w_u8 _ ?_); omega) | ((with_reducible refine IntWalk.i64_in _ ?_); omega) | (with_reducible assumption) | exact rfl)) | ((with_reducible apply Y_index_s); rfl; rfl; kernel_rfl; (first | (with_reducible first | exact rfl | exact nat0 | exact nat1 | exact nat2 | exact nat3) | exact rfl | exact nat_sub (by omega) | omega); (first | assumption | omega)) | ((with_reducible apply Y_not_t); rfl; (with_reducible rfl)) | ((with_reducible apply Y_not_f); rfl; (with_reducible rfl)) | ((with_reducible apply Y_not); rfl; (with_reducible rfl)) | ((with_reducible apply Y_not_b); rfl; (with_reducible rfl)) | ((with_reducible first | apply Y_eql_s | apply Y_neq_s); rfl; rfl) | ((with_reducible apply Y_conv_int); rfl; rfl; kernel_rfl; kernel_rfl; (first | ((with_reducible first | refine w_n1 ?_ | refine w_n2 ?_ | refine w_nn ?_ | refine w_nm1 ?_ | refine IntWalk.i64_in _ ?_ | refine w_u8 _ ?_); omega) | ((with_reducible refine IntWalk.i64_in _ ?_); omega) | (with_reducible assumption) | exact rfl)) | ((with_reducible apply Y_nilCheck_mp); rfl; (exact hR _ mm_)) | ((with_reducible apply Y_nilCheck_me); rfl; (exact hR _ mm_); (first | (with_reducible assumption) | (refine row_map ?_; omega) | (refine set_row ?_; simp only [List.length_set, List.length_map]; omega) | exact rfl | assumption)) | ((with_reducible apply Y_load_agg_me); rfl; kernel_rfl; kernel_rfl; kernel_rfl; rfl; (exact hR _ mm_); (first | (with_reducible assumption) | (refine row_map ?_; omega) | (refine set_row ?_; simp only [List.length_set, List.length_map]; omega) | exact rfl | assumption); (first | exact .zero _ | exact .succ _ _ _ _ (.zero _) | exact .succ _ _ _ _ (.succ _ _ _ _ (.zero _)) | exact .succ _ _ _ _ (.succ _ _ _ _ (.succ _ _ _ _ (.zero _))) | exact .succ _ _ _ _ (.succ _ _ _ _ (.succ _ _ _ _ (.succ _ _ _ _ (.zero _)))))) | ((with_reducible apply Y_load_agg_cp); rfl; kernel_rfl; kernel_rfl; kernel_rfl; rfl; (first | exact .zero _ | exact .succ _ _ _ _ (.zero _) | exact .succ _ _ _ _ (.succ _ _ _ _ (.zero _)) | exact .succ _ _ _ _ (.succ _ _ _ _ (.succ _ _ _ _ (.zero _))) | exact .succ _ _ _ _ (.succ _ _ _ _ (.succ _ _ _ _ (.succ _ _ _ _ (.zero _)))))) | ((with_reducible apply Y_load_agg_mp); rfl; kernel_rfl; kernel_rfl; kernel_rfl; rfl; (exact hR _ mm_); (first | exact .zero _ | exact .succ _ _ _ _ (.zero _) | exact .succ _ _ _ _ (.succ _ _ _ _ (.zero _)) | exact .succ _ _ _ _ (.succ _ _ _ _ (.succ _ _ _ _ (.zero _))) | exact .succ _ _ _ _ (.succ _ _ _ _ (.succ _ _ _ _ (.succ _ _ _ _ (.zero _)))))) | ((with_reducible apply Y_field); rfl; kernel_rfl; kernel_rfl; rfl) | ((with_reducible apply Y_slice_lh); rfl; rfl; rfl; kernel_rfl; (first | (with_reducible first | exact rfl | exact nat0 | exact nat1 | exact nat2 | exact nat3) | exact rfl | exact nat_sub (by omega) | omega); (first | (with_reducible first | exact rfl | exact nat0 | exact nat1 | exact nat2 | exact nat3) | exact rfl | exact nat_sub (by omega) | omega); (first | assumption | omega); (first | assumption | omega)) | ((with_reducible apply Y_slice_l); rfl; rfl; kernel_rfl; (first | (with_reducible first | exact rfl | exact nat0 | exact nat1 | exact nat2 | exact nat3) | exact rfl | exact nat_sub (by omega) | omega); (first | assumption | omega)) | ((with_reducible apply Y_slice_h); rfl; rfl; kernel_rfl; (first | (with_reducible first | exact rfl | exact nat0 | exact nat1 | exact nat2 | exact nat3) | exact rfl | exact nat_sub (by omega) | omega); (first | assumption | omega)) | ((with_reducible apply Y_quo); rfl; rfl; omega; (first | ((with_reducible first | refine w_n1 ?_ | refine w_n2 ?_ | refine w_nn ?_ | refine w_nm1 ?_ | refine IntWalk.i64_in _ ?_ | refine w_u8 _ ?_); omega) | ((with_reducible refine IntWalk.i64_in _ ?_); omega) | (with_reducible assumption) | exact rfl)) | ((with_reducible apply Y_rem); rfl; rfl; omega; exact rfl) | ((with_reducible apply Y_add_s); rfl; rfl; (first | assumption | omega)) | ((with_reducible first | apply Y_eql_b | apply Y_neq_b); rfl; rfl; kernel_rfl) | ((with_reducible apply Y_shl); rfl; rfl; omega) | ((with_reducible first | apply Y_eql_a | apply Y_neq_a); rfl; rfl; kernel_rfl))) | fail)) : A := h
end Go.Proofs.YthpdkhejeookhaaGreatDoor
/- What the arguments of a law are to the walk. -/
namespace Go.Proofs.YthpdkhejeookhaaGreatDoor
open Go Go.RowKit
mutual
def PT.tvs : PT → List TV
  | .int k n => [.int k n]
  | .bool b => [.bool b]
  | .str s => [.str s]
  | .agg l => PT.tvsL l
  | .sl _ _ m l => [.sl 0 m (PT.rowsL l)]
def PT.tvsL : List PT → List TV
  | [] => []
  | t :: r => PT.tvs t ++ PT.tvsL r
def PT.rowsL : List PT → List (List TV)
  | [] => []
  | t :: r => PT.tvs t :: PT.rowsL r
end
theorem PT.rowsL_map (l : List PT) : PT.rowsL l = l.map PT.tvs := by
  induction l with
  | nil => rfl
  | cons t r ih => simp [PT.rowsL, ih]
theorem PT.rows_flat (l : List PT) : (PT.rowsL l).flatten = PT.tvsL l := by
  induction l with
  | nil => rfl
  | cons t r ih => simp [PT.rowsL, PT.tvsL, ih]
def TvOk (w : World) (ts : List TV) (vs : List Value) : Prop := ts.length = vs.length ∧ (∀ t ∈ ts, t.isCell = true) ∧ ∀ (i : Nat) (t : TV) (v : Value), ts[i]? = some t → vs[i]? = some v → Rep w [] t v
theorem TvOk.append {w : World} {a b : List TV} {x y : List Value} (h : TvOk w a x) (k : TvOk w b y) : TvOk w (a ++ b) (x ++ y) := by
  refine ⟨by simp [h.1, k.1], fun t ht => ?_, fun i t v ht hv => ?_⟩
  · rcases List.mem_append.1 ht with ht | ht
    · exact h.2.1 t ht
    · exact k.2.1 t ht
  · by_cases hi : i < a.length
    · rw [List.getElem?_append_left hi] at ht
      rw [List.getElem?_append_left (by rw [← h.1]; exact hi)] at hv
      exact h.2.2 i t v ht hv
    · rw [List.getElem?_append_right (by omega)] at ht
      rw [List.getElem?_append_right (by rw [← h.1]; omega)] at hv
      rw [← h.1] at hv
      exact k.2.2 _ t v ht hv
theorem TvOk.one {w : World} {t : TV} {v : Value} (h : Rep w [] t v) (hc : t.isCell = true) : TvOk w [t] [v] := ⟨rfl, by simpa using hc, fun i u x hu hx => by
  cases i with
  | zero => simp at hu hx; subst hu; subst hx; exact h
  | succ i => simp at hu⟩
mutual
theorem tv_ok (w : World) (S : Nat → Prop) : ∀ t : PT, Seen w S t → TvOk w t.tvs t.cells
  | .int k n, _ => .one (.int k n) rfl
  | .bool b, _ => .one (.bool b) rfl
  | .str s, _ => .one (.str s) rfl
  | .agg l, h => by
    simp only [PT.tvs, PT.cells]
    simp only [Seen] at h
    exact tvL_ok w S l h
  | .sl A c m l, h => by
    simp only [PT.tvs, PT.cells]
    simp only [Seen] at h
    obtain ⟨h1, h2, h3, h4, h5⟩ := h
    have h6 := tvL_ok w S l h5
    have hlen : (PT.rowsL l).length = l.length := by rw [PT.rowsL_map]; simp
    refine .one ?_ rfl
    have key : ∀ j, ∃ u, ∀ t, (PT.tvsL l)[j]? = some t → ∃ b o, A = some ⟨b, o, none⟩ ∧ w.cell? ⟨b, o + j, none⟩ = some u ∧ Rep w [] t u := fun j => by
      cases hj : (PT.cellsL l)[j]? with
      | none =>
        refine ⟨undef, fun t ht => ?_⟩
        have : j < (PT.tvsL l).length := (List.getElem?_eq_some_iff.1 ht).1
        rw [h6.1] at this
        rw [List.getElem?_eq_getElem this] at hj; cases hj
      | some u =>
        refine ⟨u, fun t ht => ?_⟩
        obtain ⟨b, o, e1, _, e2⟩ := h3 j u hj
        exact ⟨b, o, e1, e2, h6.2.2 j t u ht hj⟩
    have hr := Rep.sl (w := w) (objs := []) 0 m (PT.rowsL l) A c (by omega) h2 (fun r hr => by
        rw [PT.rowsL_map] at hr
        obtain ⟨t, ht, rfl⟩ := List.mem_map.1 hr
        rw [← h4 t ht]
        exact (seenL_mem w S l h5 t ht).1) (fun t ht => by rw [PT.rows_flat] at ht; exact h6.2.1 t ht) (fun j => Classical.choose (key j))
      (fun j t hj => by
        rw [PT.rows_flat] at hj
        obtain ⟨b, o, e1, e2, _⟩ := Classical.choose_spec (key j) t hj
        exact ⟨b, o, e1, zz_nil b, e2⟩)
      (fun j t hj => by
        rw [PT.rows_flat] at hj
        obtain ⟨b, o, _, _, e3⟩ := Classical.choose_spec (key j) t hj
        exact e3)
    rw [hlen] at hr
    exact hr
theorem tvL_ok (w : World) (S : Nat → Prop) : ∀ l : List PT, SeenL w S l → TvOk w (PT.tvsL l) (PT.cellsL l)
  | [], _ => ⟨rfl, by simp [PT.tvsL], by simp [PT.tvsL]⟩
  | t :: r, h => by
    simp only [PT.tvsL, PT.cellsL]
    simp only [SeenL] at h
    exact (tv_ok w S t h.1).append (tvL_ok w S r h.2)
theorem seenL_mem (w : World) (S : Nat → Prop) : ∀ l : List PT, SeenL w S l → ∀ t ∈ l, TvOk w t.tvs t.cells
  | [], _, t, ht => by simp at ht
  | x :: r, h, t, ht => by
    simp only [SeenL] at h
    rcases List.mem_cons.1 ht with e | ht
    · rw [e]; exact tv_ok w S x h.1
    · exact seenL_mem w S r h.2 t ht
end
end Go.Proofs.YthpdkhejeookhaaGreatDoor
/- The laws' own helpers sz, to, eq, walked (frozen copies). Written by gen_lw.py. -/
namespace Go.Proofs.YthpdkhejeookhaaGreatDoor
set_option maxRecDepth 20000
open Go Go.RowKit
theorem take_all {α : Type} {p : α → Prop} {l : List α} {i : Nat} (h : i < l.length) (ha : ∀ y ∈ l.take i, p y) (hx : p l[i]) : ∀ y ∈ l.take (i + 1), p y := fun y hy => by
  rw [List.take_add_one, List.getElem?_eq_getElem h] at hy
  rcases List.mem_append.1 hy with hy | hy
  · exact ha y hy
  · simp at hy; subst hy; exact hx
/-- A copy under way. -/
def copyR {α : Type} (tw : α → List TV) (z : List TV) (l : List α) (i : Nat) : List (List TV) := (l.take i).map tw ++ List.replicate (l.length - i) z
theorem copyR_zero {α : Type} (tw : α → List TV) (z : List TV) (l : List α) : List.replicate l.length z = copyR tw z l 0 := by simp [copyR]
theorem copyR_full {α : Type} (tw : α → List TV) (z : List TV) (l : List α) : copyR tw z l l.length = l.map tw := by simp [copyR]
theorem copyR_set {α : Type} (tw : α → List TV) (z : List TV) {l : List α} {i : Nat} (h : i < l.length) : (copyR tw z l i)[i]? = some z ∧ (copyR tw z l i).set i (tw l[i]) = copyR tw z l (i + 1) := by
  have e : l.length - i = (l.length - (i + 1)) + 1 := by omega
  have hl : ((l.take i).map tw).length = i := by simp; omega
  unfold copyR
  refine ⟨?_, ?_⟩
  · rw [List.getElem?_append_right (by omega), hl, Nat.sub_self, e, List.replicate_succ]; rfl
  · rw [List.set_append_right _ _ (by omega), hl, Nat.sub_self, e, List.replicate_succ, List.set_cons_zero, show l.take (i + 1) = l.take i ++ [l[i]] from by rw [List.take_add_one, List.getElem?_eq_getElem h]; rfl, List.map_append, List.append_assoc]
    rfl
/-- Cells that end as others, one by one. -/
def FinL (B : Nat) (objs : Objs) (K : Nat) (l l' : List TV) : Prop := l'.length = l.length ∧ ∀ (j : Nat) (t t' : TV), l[j]? = some t → l'[j]? = some t' → Fin B objs K t t'
theorem FinL.nil {B : Nat} {objs : Objs} {K : Nat} : FinL B objs K [] [] := ⟨rfl, by simp⟩
theorem FinL.cons {B : Nat} {objs : Objs} {K : Nat} {t t' : TV} {l l' : List TV} (h : Fin B objs K t t') (hr : FinL B objs K l l') : FinL B objs K (t :: l) (t' :: l') := ⟨by simp [hr.1], fun j u u' h1 h2 => by
  cases j with
  | zero => simp at h1 h2; subst h1; subst h2; exact h
  | succ j => exact hr.2 j u u' (by simpa using h1) (by simpa using h2)⟩
theorem FinL.append {B : Nat} {objs : Objs} {K : Nat} {a a' b b' : List TV} (h : FinL B objs K a a') (k : FinL B objs K b b') : FinL B objs K (a ++ b) (a' ++ b') := ⟨by simp [h.1, k.1], fun j u u' h1 h2 => by
  by_cases hj : j < a.length
  · rw [List.getElem?_append_left hj] at h1
    rw [List.getElem?_append_left (by rw [h.1]; exact hj)] at h2
    exact h.2 j u u' h1 h2
  · rw [List.getElem?_append_right (by omega)] at h1
    rw [List.getElem?_append_right (by rw [h.1]; omega)] at h2
    rw [h.1] at h2
    exact k.2 _ u u' h1 h2⟩
theorem FinL.rows {α : Type} {B : Nat} {objs : Objs} {K : Nat} {f f' : α → List TV} (h : ∀ x, FinL B objs K (f x) (f' x)) : ∀ l : List α, FinL B objs K (l.map f).flatten (l.map f').flatten
  | [] => .nil
  | x :: r => by simpa using (h x).append (FinL.rows h r)
theorem FinL.lens {α : Type} {f f' : α → List TV} (h : ∀ x, (f' x).length = (f x).length) (l : List α) : (l.map f').map List.length = (l.map f).map List.length := by
  induction l with
  | nil => rfl
  | cons x r ih => simpa [h x] using ih
/-- A frozen slice ends as a frozen slice. -/
theorem fin_sl {α : Type} {B : Nat} {objs : Objs} {K m : Nat} {f f' : α → List TV} (h : ∀ x, FinL B objs K (f x) (f' x)) (l : List α) : Fin B objs K (.sl B m (l.map f)) (.sl K m (l.map f')) :=
  .sl B m _ _ (Nat.le_refl _) (FinL.lens (fun x => (h x).1) l) (FinL.rows h l).2
theorem fin_ms {α : Type} {B : Nat} {objs : Objs} {K s b m : Nat} {f f' : α → List TV} (h : ∀ x, FinL B objs K (f x) (f' x)) {l : List α} (hm : (s, b, TObj.row m (l.map f)) ∈ objs) : Fin B objs K (.ms s b 0 l.length) (.sl K m (l.map f')) :=
  .ms s b 0 l.length m _ (l.map f) _ hm (by simp) (by rw [List.drop_zero, List.take_of_length_le (by simp)]) (FinL.lens (fun x => (h x).1) l) (FinL.rows h l).2
theorem fin_agg {B : Nat} {objs : Objs} {K : Nat} {l l' : List TV} (h : FinL B objs K l l') : Fin B objs K (.agg l) (.agg l') := .agg l l' h.1 h.2
theorem strR_row {l : List ByteArray} {i : Nat} (h : i < l.length) : (strR l)[i]? = some [.str l[i]] := row_map h
theorem strR_len (l : List ByteArray) : (strR l).length = l.length := by simp [strR]
section
variable {G : World → Prop}
theorem szStringS_ct (lo : Nat) (l : List ByteArray) (left : Int) (h : 0 ≤ left ∧ left ≤ 1048576) (hb : l.length ≤ 9223372036854775807 ∧ ∀ y ∈ l, ByteArray.size y ≤ 9223372036854775807) : CtM Tryz.prog G 153 [.sl lo 1 (strR l), .int .i64 left] [] (fun y : Int => -1 ≤ y ∧ y ≤ left ∧ (0 ≤ y → l.length ≤ 1048576 ∧ ∀ y ∈ l, ByteArray.size y ≤ 1048576)) (fun _ => []) (fun y => .int .i64 y) := by
  refine ctm_enter Tryz.func153 rfl Tryz.ntmps153 rfl rfl rfl fun w0 R gs objsR hG hR => ?_
  obtain rfl := hR.inv0
  clear hR
  have hlen := strR_len l
  have hl1 := hb.1
  by_cases hn : left - l.length < 0
  · repeat' (first | ((with_reducible apply o_y); exact y_; rfl) | with_reducible refine al_none rfl ?_ | (with_reducible first | apply aw_seq | apply aw_region | apply al_nil | apply aq_then | apply aw_ret | apply aq_then_ret) | (refine aw_cond_dt rfl rr_ dd_ ?_))
    exact aq_retm1 x_ rfl (-1) ⟨by omega, by omega, fun h => by omega⟩ rfl (.nil R) (.refl _) (.tmp _ _ rfl) rfl
  · repeat' (first | ((with_reducible apply o_y); exact y_; rfl) | with_reducible refine al_none rfl ?_ | (with_reducible first | apply aw_seq | apply aw_region | apply al_nil | apply aq_then | apply aw_block | apply aw_skip) | (refine aw_cond_df rfl rr_ dd_ ?_))
    apply aw_loopk (X := Nat × Int) [0, 1000000] (fun x => [(5, .int .i64 (x.1 : Int)), (1, .int .i64 x.2)]) (fun _ => R) (fun x => x.1 ≤ l.length ∧ 0 ≤ x.2 ∧ x.2 ≤ left ∧ ∀ y ∈ l.take x.1, ByteArray.size y ≤ 1048576) (fun x => l.length - x.1) (0, left - l.length) ⟨Nat.zero_le _, by dsimp only; omega, by dsimp only; omega, by simp⟩
    exact kp_; (repeat (first | exact Weak.envNil | refine Weak.envCons we_ ?_))
    · exact .refl _
    rintro ⟨i, lf⟩ ⟨hi, h0, h1, hs⟩
    dsimp only at hi h0 h1 hs ⊢
    by_cases hlt : i < l.length
    · have hrow := strR_row hlt
      have hbi := hb.2 _ (List.getElem_mem hlt)
      have hta := take_all (p := fun y => ByteArray.size y ≤ 1048576) hlt hs
      generalize l[i] = x at hrow hbi hta
      repeat' (first | ((with_reducible apply o_y); exact y_; rfl) | with_reducible refine al_none rfl ?_ | (with_reducible first | apply aw_seq | apply aw_region | apply al_nil | apply aq_then | apply aw_block | apply aw_skip | apply aw_ret | apply aq_then_ret | apply aq_block_ret | apply aq_block) | (refine aw_cond_dt rfl rr_ dd_ ?_) | (refine aw_cond rfl rr_ (fun hc => ?_) (fun hc => ?_)))
      all_goals first
        | exact aq_retm1 x_ rfl (-1) ⟨by omega, by omega, fun h => by omega⟩ rfl (.nil R) (.refl _) (.tmp _ _ rfl) rfl
        | exact aq_round (i + 1, lf - x.size) ⟨by dsimp only; omega, by dsimp only; omega, by dsimp only; omega, hta (by omega)⟩ (by dsimp only; omega) (.of _ nw_ od_ pk_)
    · rw [List.take_of_length_le (by omega)] at hs
      repeat' (first | ((with_reducible apply o_y); exact y_; rfl) | with_reducible refine al_none rfl ?_ | (with_reducible first | apply aw_seq | apply aw_region | apply al_nil | apply aq_then | apply aw_exit | apply aw_ret | apply aq_block_hit | apply aq_then_exit) | (refine aw_cond_df rfl rr_ dd_ ?_))
      exact aq_retm1 x_ rfl lf ⟨by omega, by omega, fun _ => ⟨by omega, hs⟩⟩ rfl (.nil R) (.refl _) (.tmp _ _ rfl) rfl
theorem toStringS_ct (hst : Stable G) (lo : Nat) (l : List ByteArray) (hn : l.length ≤ 1048576) : Ct Tryz.prog G 167 [.sl lo 1 (strR l)] (fun K => .sl K 1 (strR l)) := by
  refine ct_enter Tryz.func167 rfl Tryz.ntmps167 rfl rfl fun w0 _ hG => ?_
  have hlen := strR_len l
  have h0 := copyR_zero (fun s : ByteArray => [TV.str s]) [.str ⟨#[]⟩] l
  repeat' (first | ((with_reducible apply o_y); exact y_; rfl) | (refine e_make ?_; intro ss bb) | with_reducible refine al_none rfl ?_ | (with_reducible first | apply aw_seq | apply aw_region | apply al_nil | apply aq_then | apply aw_block))
  apply aw_loopk (X := Nat) [0, 3] (fun i => [(4, .int .i64 (i : Int))]) (fun i => [(ss, bb, .row 1 (copyR (fun s : ByteArray => [TV.str s]) [.str ⟨#[]⟩] l i))]) (fun i => i ≤ l.length) (fun i => l.length - i) 0 (Nat.zero_le _)
  exact kp_; (repeat (first | exact Weak.envNil | refine Weak.envCons we_ ?_))
  · rw [← h0]; exact .refl _
  intro i hi
  try dsimp only
  by_cases hlt : i < l.length
  · obtain ⟨hrow, hset⟩ := copyR_set (fun s : ByteArray => [TV.str s]) [.str ⟨#[]⟩] hlt
    have hra := strR_row hlt
    generalize l[i] = x at hset hra
    try dsimp only at hset
    repeat' (first | ((with_reducible apply o_y); exact y_; rfl) | refine e_store ?_ | with_reducible refine al_none rfl ?_ | (with_reducible first | apply aw_seq | apply aw_region | apply al_nil | apply aq_then | apply aw_block | apply aw_skip | apply aq_block) | (refine aw_cond_dt rfl rr_ dd_ ?_))
    refine aq_round (i + 1) (by omega) (by omega) (.of _ nw_ od_ (by rw [← hset]; exact .refl _))
  · obtain rfl : i = l.length := by omega
    rw [copyR_full]
    repeat' (first | ((with_reducible apply o_y); exact y_; rfl) | with_reducible refine al_none rfl ?_ | (with_reducible first | apply aw_seq | apply aw_region | apply al_nil | apply aq_then | apply aw_exit | apply aw_ret | apply aq_block_hit | apply aq_then_exit) | (refine aw_cond_df rfl rr_ dd_ ?_))
    refine aq_ret1 x_ rfl (.tmp _ _ rfl) (fun _ => ?_)
    exact fin_ms (fun x => .cons (.flat rfl) .nil) List.mem_cons_self
theorem eqStringS_ct (l1 l2 : Nat) (l : List ByteArray) (hn : l.length ≤ 1048576) : Ct Tryz.prog G 144 [.sl l1 1 (strR l), .sl l2 1 (strR l)] (fun _ => .bool true) := by
  refine ct_enter Tryz.func144 rfl Tryz.ntmps144 rfl rfl fun w0 _ hG => ?_
  have hlen := strR_len l
  repeat' (first | ((with_reducible apply o_y); exact y_; rfl) | with_reducible refine al_none rfl ?_ | (with_reducible first | apply aw_seq | apply aw_region | apply al_nil | apply aq_then | apply aw_block | apply aw_skip) | (refine aw_cond_df rfl rr_ dd_ ?_))
  apply aw_loopk (X := Nat) [0, 1] (fun i => [(5, .int .i64 (i : Int))]) (fun _ => []) (fun i => i ≤ l.length) (fun i => l.length - i) 0 (Nat.zero_le _)
  exact kp_; (repeat (first | exact Weak.envNil | refine Weak.envCons we_ ?_))
  · exact .refl _
  intro i hi
  try dsimp only
  by_cases hlt : i < l.length
  · have hrow := strR_row hlt
    generalize l[i] = x at hrow
    have hx : ¬ x ≠ x := fun h => h rfl
    repeat' (first | ((with_reducible apply o_y); exact y_; rfl) | with_reducible refine aw_draw (by kernel_rfl) (by kernel_rfl) ?_ | with_reducible refine dr_nil ?_ | with_reducible refine dr_none rfl ?_ | ((with_reducible apply d_y); exact y_; rfl) | with_reducible refine al_none rfl ?_ | (with_reducible first | apply aw_seq | apply aw_region | apply al_nil | apply aq_then | apply aw_block | apply aw_skip | apply aq_block) | (refine aw_cond_dt rfl rr_ dd_ ?_) | (refine aw_cond_df rfl rr_ dd_ ?_))
    exact aq_round (i + 1) (by omega) (by omega) (.of _ nw_ od_ pk_)
  · repeat' (first | ((with_reducible apply o_y); exact y_; rfl) | with_reducible refine al_none rfl ?_ | (with_reducible first | apply aw_seq | apply aw_region | apply al_nil | apply aq_then | apply aw_exit | apply aw_ret | apply aq_block_hit | apply aq_then_exit) | (refine aw_cond_df rfl rr_ dd_ ?_))
    refine aq_ret1 x_ rfl (.tmp _ _ rfl) (fun _ => ?_)
    exact Fin.flat rfl
end
def TInstr.tw (lo : Nat) (x : TInstr) : List TV := [.int .i64 x.op, .int .i64 x.a, .int .i64 x.b, .str x.text]
def TInstr.small (n : Nat) (x : TInstr) : Prop := (x.text.size ≤ n)
def TInstr.tz : List TV := [.int .i64 0, .int .i64 0, .int .i64 0, .str ⟨#[]⟩]
theorem TInstr.fin (B K : Nat) (objs : Objs) (x : TInstr) : FinL B objs K (x.tw B) (x.tw K) := .cons (.flat rfl) (.cons (.flat rfl) (.cons (.flat rfl) (.cons (.flat rfl) (.nil))))
theorem TInstr.len (lo : Nat) (l : List TInstr) : (l.map (TInstr.tw lo)).length = l.length := by simp
section
variable {G : World → Prop}
theorem szInstr_ct (hst : Stable G) (lo : Nat) (x : TInstr) (left : Int) (h : 0 ≤ left ∧ left ≤ 1048576) (hb : x.small 9223372036854775807) : CtM Tryz.prog G 218 [.agg (x.tw lo), .int .i64 left] [] (fun y : Int => -1 ≤ y ∧ y ≤ left ∧ (0 ≤ y → x.small 1048576)) (fun _ => []) (fun y => .int .i64 y) := by
  refine ctm_enter Tryz.func218 rfl Tryz.ntmps218 rfl rfl rfl fun w0 R gs objsR hG hR => ?_
  obtain rfl := hR.inv0
  clear hR
  unfold TInstr.small at hb
  have hb1 : x.text.size ≤ 9223372036854775807 := hb
  unfold TInstr.tw
  repeat' (first | ((with_reducible apply o_y); exact y_; rfl) | refine e_box ?_ | with_reducible refine al_none rfl ?_ | (with_reducible first | apply aw_seq | apply aw_region | apply al_nil | apply aq_then | apply aw_skip | apply aw_ret | apply aq_then_ret) | (refine aw_cond rfl rr_ (fun hc => ?_) (fun hc => ?_)))
  all_goals first
    | exact aq_retm1 x_ rfl (-1) ⟨by omega, by omega, fun h => by omega⟩ rfl (.nil R) (.refl _) (.tmp _ _ rfl) rfl
    | (refine aq_retm1 x_ rfl _ ⟨?_, ?_, fun _ => ?_⟩ rfl (.nil R) (.refl _) (.tmp _ _ rfl) rfl
       · omega
       · omega
       · show _ ≤ _; omega)
theorem szInstrS_ct (hst : Stable G) (lo : Nat) (l : List TInstr) (left : Int) (h : 0 ≤ left ∧ left ≤ 1048576) (hb : l.length ≤ 9223372036854775807 ∧ ∀ y ∈ l, TInstr.small 9223372036854775807 y) : CtM Tryz.prog G 178 [.sl lo 4 (l.map (TInstr.tw lo)), .int .i64 left] [] (fun y : Int => -1 ≤ y ∧ y ≤ left ∧ (0 ≤ y → l.length ≤ 1048576 ∧ ∀ y ∈ l, TInstr.small 1048576 y)) (fun _ => []) (fun y => .int .i64 y) := by
  refine ctm_enter Tryz.func178 rfl Tryz.ntmps178 rfl rfl rfl fun w0 R gs objsR hG hR => ?_
  obtain rfl := hR.inv0
  clear hR
  have hlen := TInstr.len lo l
  have hl1 := hb.1
  by_cases hn : left - l.length < 0
  · repeat' (first | ((with_reducible apply o_y); exact y_; rfl) | with_reducible refine al_none rfl ?_ | (with_reducible first | apply aw_seq | apply aw_region | apply al_nil | apply aq_then | apply aw_ret | apply aq_then_ret) | (refine aw_cond_dt rfl rr_ dd_ ?_))
    exact aq_retm1 x_ rfl (-1) ⟨by omega, by omega, fun h => by omega⟩ rfl (.nil R) (.refl _) (.tmp _ _ rfl) rfl
  · repeat' (first | ((with_reducible apply o_y); exact y_; rfl) | with_reducible refine al_none rfl ?_ | (with_reducible first | apply aw_seq | apply aw_region | apply al_nil | apply aq_then | apply aw_block | apply aw_skip) | (refine aw_cond_df rfl rr_ dd_ ?_))
    apply aw_loopk (X := Nat × Int) [0, 1000000] (fun x => [(5, .int .i64 (x.1 : Int)), (1, .int .i64 x.2)]) (fun _ => R) (fun x => x.1 ≤ l.length ∧ 0 ≤ x.2 ∧ x.2 ≤ left ∧ ∀ y ∈ l.take x.1, TInstr.small 1048576 y) (fun x => l.length - x.1) (0, left - l.length) ⟨Nat.zero_le _, by dsimp only; omega, by dsimp only; omega, by simp⟩
    exact kp_; (repeat (first | exact Weak.envNil | refine Weak.envCons we_ ?_))
    · exact .refl _
    rintro ⟨i, lf⟩ ⟨hi, h0, h1, hs⟩
    dsimp only at hi h0 h1 hs ⊢
    by_cases hlt : i < l.length
    · have hrow : (l.map (TInstr.tw lo))[i]? = some (l[i].tw lo) := row_map hlt
      have hbi := hb.2 _ (List.getElem_mem hlt)
      have hta := take_all (p := TInstr.small 1048576) hlt hs
      generalize l[i] = x at hrow hbi hta
      have hct := szInstr_ct hst lo x lf (by omega) hbi
      unfold TInstr.tw at hct
      rw [show x.tw lo = [.int .i64 x.op, .int .i64 x.a, .int .i64 x.b, .str x.text] from rfl] at hrow
      repeat' (first | ((with_reducible apply o_y); exact y_; rfl) | ((with_reducible apply o_callM); rfl; kernel_rfl; (repeat (first | exact ArgsM.nil | ((with_reducible apply ArgsM.cons); rfl))); exact hG; exact hct; exact .nil _; intro y hy; refine al_app0 ?_) | with_reducible refine al_none rfl ?_ | (with_reducible first | apply aw_seq | apply aw_region | apply al_nil | apply aq_then | apply aw_block | apply aw_skip | apply aw_ret | apply aq_then_ret | apply aq_block_ret | apply aq_block) | (refine aw_cond_dt rfl rr_ dd_ ?_) | (refine aw_cond rfl rr_ (fun hc => ?_) (fun hc => ?_)))
      all_goals first
        | exact aq_retm1 x_ rfl (-1) ⟨by omega, by omega, fun h => by omega⟩ rfl (.nil R) (.refl _) (.tmp _ _ rfl) rfl
        | exact aq_round (i + 1, y) ⟨by dsimp only; omega, by dsimp only; omega, by dsimp only; omega, hta (hy.2.2 (by omega))⟩ (by dsimp only; omega) (.of _ nw_ od_ pk_)
    · rw [List.take_of_length_le (by omega)] at hs
      repeat' (first | ((with_reducible apply o_y); exact y_; rfl) | with_reducible refine al_none rfl ?_ | (with_reducible first | apply aw_seq | apply aw_region | apply al_nil | apply aq_then | apply aw_exit | apply aw_ret | apply aq_block_hit | apply aq_then_exit) | (refine aw_cond_df rfl rr_ dd_ ?_))
      exact aq_retm1 x_ rfl lf ⟨by omega, by omega, fun _ => ⟨by omega, hs⟩⟩ rfl (.nil R) (.refl _) (.tmp _ _ rfl) rfl
theorem toInstr_ct (hst : Stable G) (lo : Nat) (x : TInstr) (hb : x.small 1048576) : Ct Tryz.prog G 228 [.agg (x.tw lo)] (fun K => .agg (x.tw K)) := by
  refine ct_enter Tryz.func228 rfl Tryz.ntmps228 rfl rfl fun w0 _ hG => ?_
  unfold TInstr.small at hb
  skip
  repeat' (first | ((with_reducible apply o_y); exact y_; rfl) | refine e_box ?_ | (refine e_alloc ?_; intro ss bb) | refine e_storep ?_ | with_reducible refine al_none rfl ?_ | (with_reducible first | apply aw_seq | apply aw_region | apply al_nil | apply aq_then | apply aw_ret))
  refine aq_ret1 x_ rfl (.cell _ _ _ _ _ rfl mm_ (by kernel_rfl) (by kernel_rfl) (by kernel_rfl)) (fun _ => ?_)
  exact fin_agg (TInstr.fin _ _ _ x)
theorem toInstrS_ct (hst : Stable G) (lo : Nat) (l : List TInstr) (hb : l.length ≤ 1048576 ∧ ∀ y ∈ l, TInstr.small 1048576 y) : Ct Tryz.prog G 186 [.sl lo 4 (l.map (TInstr.tw lo))] (fun K => .sl K 4 (l.map (TInstr.tw K))) := by
  refine ct_enter Tryz.func186 rfl Tryz.ntmps186 rfl rfl fun w0 _ hG => ?_
  have hlen := TInstr.len lo l
  have hl1 := hb.1
  have h0 := copyR_zero (TInstr.tw w0.heap.size) TInstr.tz l
  repeat' (first | ((with_reducible apply o_y); exact y_; rfl) | (refine e_make ?_; intro ss bb) | with_reducible refine al_none rfl ?_ | (with_reducible first | apply aw_seq | apply aw_region | apply al_nil | apply aq_then | apply aw_block))
  apply aw_loopk (X := Nat) [0, 3] (fun i => [(4, .int .i64 (i : Int))]) (fun i => [(ss, bb, .row 4 (copyR (TInstr.tw w0.heap.size) TInstr.tz l i))]) (fun i => i ≤ l.length) (fun i => l.length - i) 0 (Nat.zero_le _)
  exact kp_; (repeat (first | exact Weak.envNil | refine Weak.envCons we_ ?_))
  · rw [← h0]; exact .refl _
  intro i hi
  try dsimp only
  by_cases hlt : i < l.length
  · obtain ⟨hrow, hset⟩ := copyR_set (TInstr.tw w0.heap.size) TInstr.tz hlt
    have hra : (l.map (TInstr.tw lo))[i]? = some (l[i].tw lo) := row_map hlt
    have hbi := hb.2 _ (List.getElem_mem hlt)
    generalize l[i] = x at hset hra hbi
    have hct := toInstr_ct hst lo x hbi
    unfold TInstr.tw at hct
    rw [show x.tw lo = [.int .i64 x.op, .int .i64 x.a, .int .i64 x.b, .str x.text] from rfl] at hra
    replace hrow : (copyR (TInstr.tw w0.heap.size) TInstr.tz l i)[i]? = some [.int .i64 0, .int .i64 0, .int .i64 0, .str ⟨#[]⟩] := hrow
    repeat' (first | ((with_reducible apply o_y); exact y_; rfl) | refine e_call hG hst (hct) ?_ | refine e_store ?_ | with_reducible refine al_none rfl ?_ | (with_reducible first | apply aw_seq | apply aw_region | apply al_nil | apply aq_then | apply aw_block | apply aw_skip | apply aq_block) | (refine aw_cond_dt rfl rr_ dd_ ?_))
    refine aq_round (i + 1) (by omega) (by omega) (.of _ nw_ od_ (by rw [← hset]; exact .refl _))
  · obtain rfl : i = l.length := by omega
    rw [copyR_full]
    repeat' (first | ((with_reducible apply o_y); exact y_; rfl) | with_reducible refine al_none rfl ?_ | (with_reducible first | apply aw_seq | apply aw_region | apply al_nil | apply aq_then | apply aw_exit | apply aw_ret | apply aq_block_hit | apply aq_then_exit) | (refine aw_cond_df rfl rr_ dd_ ?_))
    refine aq_ret1 x_ rfl (.tmp _ _ rfl) (fun _ => ?_)
    exact fin_ms (fun x => TInstr.fin _ _ _ x) List.mem_cons_self
theorem eqInstr_ct (hst : Stable G) (l1 l2 : Nat) (x : TInstr) (hb : x.small 1048576) : Ct Tryz.prog G 236 [.agg (x.tw l1), .agg (x.tw l2)] (fun _ => .bool true) := by
  refine ct_enter Tryz.func236 rfl Tryz.ntmps236 rfl rfl fun w0 _ hG => ?_
  unfold TInstr.small at hb
  have hnetext : ¬ x.text ≠ x.text := fun h => h rfl
  unfold TInstr.tw
  repeat' (first | ((with_reducible apply o_y); exact y_; rfl) | refine e_box ?_ | with_reducible refine al_none rfl ?_ | (with_reducible first | apply aw_seq | apply aw_region | apply al_nil | apply aq_then | apply aw_skip | apply aw_ret) | (refine aw_cond_df rfl rr_ dd_ ?_))
  all_goals first
    | (exfalso; simp at hc; done)
    | (refine aq_ret1 x_ rfl (.tmp _ _ rfl) (fun _ => ?_)
       exact Fin.flat rfl)
theorem eqInstrS_ct (hst : Stable G) (l1 l2 : Nat) (l : List TInstr) (hb : l.length ≤ 1048576 ∧ ∀ y ∈ l, TInstr.small 1048576 y) : Ct Tryz.prog G 196 [.sl l1 4 (l.map (TInstr.tw l1)), .sl l2 4 (l.map (TInstr.tw l2))] (fun _ => .bool true) := by
  refine ct_enter Tryz.func196 rfl Tryz.ntmps196 rfl rfl fun w0 _ hG => ?_
  have hlen := TInstr.len l1 l
  have hlen2 := TInstr.len l2 l
  have hl1 := hb.1
  repeat' (first | ((with_reducible apply o_y); exact y_; rfl) | with_reducible refine al_none rfl ?_ | (with_reducible first | apply aw_seq | apply aw_region | apply al_nil | apply aq_then | apply aw_block | apply aw_skip) | (refine aw_cond_df rfl rr_ dd_ ?_))
  apply aw_loopk (X := Nat) [0, 1] (fun i => [(5, .int .i64 (i : Int))]) (fun _ => []) (fun i => i ≤ l.length) (fun i => l.length - i) 0 (Nat.zero_le _)
  exact kp_; (repeat (first | exact Weak.envNil | refine Weak.envCons we_ ?_))
  · exact .refl _
  intro i hi
  try dsimp only
  by_cases hlt : i < l.length
  · have hr1 : (l.map (TInstr.tw l1))[i]? = some (l[i].tw l1) := row_map hlt
    have hr2 : (l.map (TInstr.tw l2))[i]? = some (l[i].tw l2) := row_map hlt
    have hbi := hb.2 _ (List.getElem_mem hlt)
    generalize l[i] = x at hr1 hr2 hbi
    have hct := eqInstr_ct hst l1 l2 x hbi
    unfold TInstr.tw at hct
    rw [show x.tw l1 = [.int .i64 x.op, .int .i64 x.a, .int .i64 x.b, .str x.text] from rfl] at hr1
    rw [show x.tw l2 = [.int .i64 x.op, .int .i64 x.a, .int .i64 x.b, .str x.text] from rfl] at hr2
    repeat' (first | ((with_reducible apply o_y); exact y_; rfl) | with_reducible refine aw_draw (by kernel_rfl) (by kernel_rfl) ?_ | with_reducible refine dr_nil ?_ | with_reducible refine dr_none rfl ?_ | ((with_reducible apply d_y); exact y_; rfl) | refine e_calld hG hst (hct) ?_ | with_reducible refine al_none rfl ?_ | (with_reducible first | apply aw_seq | apply aw_region | apply al_nil | apply aq_then | apply aw_block | apply aw_skip | apply aq_block) | refine aw_cond_f rfl rr_ ?_ | (refine aw_cond_dt rfl rr_ dd_ ?_))
    exact aq_round (i + 1) (by omega) (by omega) (.of _ nw_ od_ pk_)
  · repeat' (first | ((with_reducible apply o_y); exact y_; rfl) | with_reducible refine al_none rfl ?_ | (with_reducible first | apply aw_seq | apply aw_region | apply al_nil | apply aq_then | apply aw_exit | apply aw_ret | apply aq_block_hit | apply aq_then_exit) | (refine aw_cond_df rfl rr_ dd_ ?_))
    refine aq_ret1 x_ rfl (.tmp _ _ rfl) (fun _ => ?_)
    exact Fin.flat rfl
end
def TCode.tw (lo : Nat) (x : TCode) : List TV := [.bool x.block, .int .i64 x.params, .int .i64 x.slots, .sl lo 4 (x.instrs.map (TInstr.tw lo))]
def TCode.small (n : Nat) (x : TCode) : Prop := (x.instrs.length ≤ n ∧ ∀ y ∈ x.instrs, TInstr.small n y)
def TCode.tz : List TV := [.bool false, .int .i64 0, .int .i64 0, .nils]
theorem TCode.fin (B K : Nat) (objs : Objs) (x : TCode) : FinL B objs K (x.tw B) (x.tw K) := .cons (.flat rfl) (.cons (.flat rfl) (.cons (.flat rfl) (.cons (fin_sl (fun x => TInstr.fin B K objs x) _) (.nil))))
theorem TCode.len (lo : Nat) (l : List TCode) : (l.map (TCode.tw lo)).length = l.length := by simp
section
variable {G : World → Prop}
theorem szCode_ct (hst : Stable G) (lo : Nat) (x : TCode) (left : Int) (h : 0 ≤ left ∧ left ≤ 1048576) (hb : x.small 9223372036854775807) : CtM Tryz.prog G 104 [.agg (x.tw lo), .int .i64 left] [] (fun y : Int => -1 ≤ y ∧ y ≤ left ∧ (0 ≤ y → x.small 1048576)) (fun _ => []) (fun y => .int .i64 y) := by
  refine ctm_enter Tryz.func104 rfl Tryz.ntmps104 rfl rfl rfl fun w0 R gs objsR hG hR => ?_
  obtain rfl := hR.inv0
  clear hR
  unfold TCode.small at hb
  skip
  unfold TCode.tw
  repeat' (first | ((with_reducible apply o_y); exact y_; rfl) | refine e_box ?_ | ((with_reducible apply o_callM); rfl; kernel_rfl; (repeat (first | exact ArgsM.nil | ((with_reducible apply ArgsM.cons); rfl))); exact hG; exact szInstrS_ct hst _ x.instrs _ (by omega) hb; exact .nil _; intro y1 hy1; refine al_app0 ?_) | with_reducible refine al_none rfl ?_ | (with_reducible first | apply aw_seq | apply aw_region | apply al_nil | apply aq_then | apply aw_skip | apply aw_ret | apply aq_then_ret) | (refine aw_cond rfl rr_ (fun hc => ?_) (fun hc => ?_)))
  all_goals first
    | exact aq_retm1 x_ rfl (-1) ⟨by omega, by omega, fun h => by omega⟩ rfl (.nil R) (.refl _) (.tmp _ _ rfl) rfl
    | (refine aq_retm1 x_ rfl _ ⟨?_, ?_, fun _ => ?_⟩ rfl (.nil R) (.refl _) (.tmp _ _ rfl) rfl
       · omega
       · omega
       · exact hy1.2.2 (by omega))
theorem szCodeS_ct (hst : Stable G) (lo : Nat) (l : List TCode) (left : Int) (h : 0 ≤ left ∧ left ≤ 1048576) (hb : l.length ≤ 9223372036854775807 ∧ ∀ y ∈ l, TCode.small 9223372036854775807 y) : CtM Tryz.prog G 30 [.sl lo 4 (l.map (TCode.tw lo)), .int .i64 left] [] (fun y : Int => -1 ≤ y ∧ y ≤ left ∧ (0 ≤ y → l.length ≤ 1048576 ∧ ∀ y ∈ l, TCode.small 1048576 y)) (fun _ => []) (fun y => .int .i64 y) := by
  refine ctm_enter Tryz.func30 rfl Tryz.ntmps30 rfl rfl rfl fun w0 R gs objsR hG hR => ?_
  obtain rfl := hR.inv0
  clear hR
  have hlen := TCode.len lo l
  have hl1 := hb.1
  by_cases hn : left - l.length < 0
  · repeat' (first | ((with_reducible apply o_y); exact y_; rfl) | with_reducible refine al_none rfl ?_ | (with_reducible first | apply aw_seq | apply aw_region | apply al_nil | apply aq_then | apply aw_ret | apply aq_then_ret) | (refine aw_cond_dt rfl rr_ dd_ ?_))
    exact aq_retm1 x_ rfl (-1) ⟨by omega, by omega, fun h => by omega⟩ rfl (.nil R) (.refl _) (.tmp _ _ rfl) rfl
  · repeat' (first | ((with_reducible apply o_y); exact y_; rfl) | with_reducible refine al_none rfl ?_ | (with_reducible first | apply aw_seq | apply aw_region | apply al_nil | apply aq_then | apply aw_block | apply aw_skip) | (refine aw_cond_df rfl rr_ dd_ ?_))
    apply aw_loopk (X := Nat × Int) [0, 1000000] (fun x => [(5, .int .i64 (x.1 : Int)), (1, .int .i64 x.2)]) (fun _ => R) (fun x => x.1 ≤ l.length ∧ 0 ≤ x.2 ∧ x.2 ≤ left ∧ ∀ y ∈ l.take x.1, TCode.small 1048576 y) (fun x => l.length - x.1) (0, left - l.length) ⟨Nat.zero_le _, by dsimp only; omega, by dsimp only; omega, by simp⟩
    exact kp_; (repeat (first | exact Weak.envNil | refine Weak.envCons we_ ?_))
    · exact .refl _
    rintro ⟨i, lf⟩ ⟨hi, h0, h1, hs⟩
    dsimp only at hi h0 h1 hs ⊢
    by_cases hlt : i < l.length
    · have hrow : (l.map (TCode.tw lo))[i]? = some (l[i].tw lo) := row_map hlt
      have hbi := hb.2 _ (List.getElem_mem hlt)
      have hta := take_all (p := TCode.small 1048576) hlt hs
      generalize l[i] = x at hrow hbi hta
      have hct := szCode_ct hst lo x lf (by omega) hbi
      unfold TCode.tw at hct
      rw [show x.tw lo = [.bool x.block, .int .i64 x.params, .int .i64 x.slots, .sl lo 4 (x.instrs.map (TInstr.tw lo))] from rfl] at hrow
      repeat' (first | ((with_reducible apply o_y); exact y_; rfl) | ((with_reducible apply o_callM); rfl; kernel_rfl; (repeat (first | exact ArgsM.nil | ((with_reducible apply ArgsM.cons); rfl))); exact hG; exact hct; exact .nil _; intro y hy; refine al_app0 ?_) | with_reducible refine al_none rfl ?_ | (with_reducible first | apply aw_seq | apply aw_region | apply al_nil | apply aq_then | apply aw_block | apply aw_skip | apply aw_ret | apply aq_then_ret | apply aq_block_ret | apply aq_block) | (refine aw_cond_dt rfl rr_ dd_ ?_) | (refine aw_cond rfl rr_ (fun hc => ?_) (fun hc => ?_)))
      all_goals first
        | exact aq_retm1 x_ rfl (-1) ⟨by omega, by omega, fun h => by omega⟩ rfl (.nil R) (.refl _) (.tmp _ _ rfl) rfl
        | exact aq_round (i + 1, y) ⟨by dsimp only; omega, by dsimp only; omega, by dsimp only; omega, hta (hy.2.2 (by omega))⟩ (by dsimp only; omega) (.of _ nw_ od_ pk_)
    · rw [List.take_of_length_le (by omega)] at hs
      repeat' (first | ((with_reducible apply o_y); exact y_; rfl) | with_reducible refine al_none rfl ?_ | (with_reducible first | apply aw_seq | apply aw_region | apply al_nil | apply aq_then | apply aw_exit | apply aw_ret | apply aq_block_hit | apply aq_then_exit) | (refine aw_cond_df rfl rr_ dd_ ?_))
      exact aq_retm1 x_ rfl lf ⟨by omega, by omega, fun _ => ⟨by omega, hs⟩⟩ rfl (.nil R) (.refl _) (.tmp _ _ rfl) rfl
theorem toCode_ct (hst : Stable G) (lo : Nat) (x : TCode) (hb : x.small 1048576) : Ct Tryz.prog G 115 [.agg (x.tw lo)] (fun K => .agg (x.tw K)) := by
  refine ct_enter Tryz.func115 rfl Tryz.ntmps115 rfl rfl fun w0 _ hG => ?_
  unfold TCode.small at hb
  have hsinstrs := hb
  repeat' (first | ((with_reducible apply o_y); exact y_; rfl) | refine e_box ?_ | (refine e_alloc ?_; intro ss bb) | refine e_storep ?_ | refine e_call hG hst (toInstrS_ct hst _ x.instrs (hsinstrs)) ?_ | with_reducible refine al_none rfl ?_ | (with_reducible first | apply aw_seq | apply aw_region | apply al_nil | apply aq_then | apply aw_ret))
  refine aq_ret1 x_ rfl (.cell _ _ _ _ _ rfl mm_ (by kernel_rfl) (by kernel_rfl) (by kernel_rfl)) (fun _ => ?_)
  exact fin_agg (TCode.fin _ _ _ x)
theorem toCodeS_ct (hst : Stable G) (lo : Nat) (l : List TCode) (hb : l.length ≤ 1048576 ∧ ∀ y ∈ l, TCode.small 1048576 y) : Ct Tryz.prog G 37 [.sl lo 4 (l.map (TCode.tw lo))] (fun K => .sl K 4 (l.map (TCode.tw K))) := by
  refine ct_enter Tryz.func37 rfl Tryz.ntmps37 rfl rfl fun w0 _ hG => ?_
  have hlen := TCode.len lo l
  have hl1 := hb.1
  have h0 := copyR_zero (TCode.tw w0.heap.size) TCode.tz l
  repeat' (first | ((with_reducible apply o_y); exact y_; rfl) | (refine e_make ?_; intro ss bb) | with_reducible refine al_none rfl ?_ | (with_reducible first | apply aw_seq | apply aw_region | apply al_nil | apply aq_then | apply aw_block))
  apply aw_loopk (X := Nat) [0, 3] (fun i => [(4, .int .i64 (i : Int))]) (fun i => [(ss, bb, .row 4 (copyR (TCode.tw w0.heap.size) TCode.tz l i))]) (fun i => i ≤ l.length) (fun i => l.length - i) 0 (Nat.zero_le _)
  exact kp_; (repeat (first | exact Weak.envNil | refine Weak.envCons we_ ?_))
  · rw [← h0]; exact .refl _
  intro i hi
  try dsimp only
  by_cases hlt : i < l.length
  · obtain ⟨hrow, hset⟩ := copyR_set (TCode.tw w0.heap.size) TCode.tz hlt
    have hra : (l.map (TCode.tw lo))[i]? = some (l[i].tw lo) := row_map hlt
    have hbi := hb.2 _ (List.getElem_mem hlt)
    generalize l[i] = x at hset hra hbi
    have hct := toCode_ct hst lo x hbi
    unfold TCode.tw at hct
    rw [show x.tw lo = [.bool x.block, .int .i64 x.params, .int .i64 x.slots, .sl lo 4 (x.instrs.map (TInstr.tw lo))] from rfl] at hra
    replace hrow : (copyR (TCode.tw w0.heap.size) TCode.tz l i)[i]? = some [.bool false, .int .i64 0, .int .i64 0, .nils] := hrow
    repeat' (first | ((with_reducible apply o_y); exact y_; rfl) | refine e_call hG hst (hct) ?_ | refine e_store ?_ | with_reducible refine al_none rfl ?_ | (with_reducible first | apply aw_seq | apply aw_region | apply al_nil | apply aq_then | apply aw_block | apply aw_skip | apply aq_block) | (refine aw_cond_dt rfl rr_ dd_ ?_))
    refine aq_round (i + 1) (by omega) (by omega) (.of _ nw_ od_ (by rw [← hset]; exact .refl _))
  · obtain rfl : i = l.length := by omega
    rw [copyR_full]
    repeat' (first | ((with_reducible apply o_y); exact y_; rfl) | with_reducible refine al_none rfl ?_ | (with_reducible first | apply aw_seq | apply aw_region | apply al_nil | apply aq_then | apply aw_exit | apply aw_ret | apply aq_block_hit | apply aq_then_exit) | (refine aw_cond_df rfl rr_ dd_ ?_))
    refine aq_ret1 x_ rfl (.tmp _ _ rfl) (fun _ => ?_)
    exact fin_ms (fun x => TCode.fin _ _ _ x) List.mem_cons_self
theorem eqCode_ct (hst : Stable G) (l1 l2 : Nat) (x : TCode) (hb : x.small 1048576) : Ct Tryz.prog G 125 [.agg (x.tw l1), .agg (x.tw l2)] (fun _ => .bool true) := by
  refine ct_enter Tryz.func125 rfl Tryz.ntmps125 rfl rfl fun w0 _ hG => ?_
  unfold TCode.small at hb
  have hsinstrs := hb
  unfold TCode.tw
  repeat' (first | ((with_reducible apply o_y); exact y_; rfl) | refine e_box ?_ | refine e_call hG hst (eqInstrS_ct hst _ _ x.instrs hsinstrs) ?_ | with_reducible refine al_none rfl ?_ | (with_reducible first | apply aw_seq | apply aw_region | apply al_nil | apply aq_then | apply aw_skip | apply aw_ret | apply aq_then_ret) | refine aw_cond_f rfl rr_ ?_ | (refine aw_cond_df rfl rr_ dd_ ?_) | (refine aw_cond_b rfl rr_ (fun hc => ?_) (fun hc => ?_)))
  all_goals first
    | (exfalso; simp at hc; done)
    | (refine aq_ret1 x_ rfl (.tmp _ _ rfl) (fun _ => ?_)
       exact Fin.flat rfl)
theorem eqCodeS_ct (hst : Stable G) (l1 l2 : Nat) (l : List TCode) (hb : l.length ≤ 1048576 ∧ ∀ y ∈ l, TCode.small 1048576 y) : Ct Tryz.prog G 46 [.sl l1 4 (l.map (TCode.tw l1)), .sl l2 4 (l.map (TCode.tw l2))] (fun _ => .bool true) := by
  refine ct_enter Tryz.func46 rfl Tryz.ntmps46 rfl rfl fun w0 _ hG => ?_
  have hlen := TCode.len l1 l
  have hlen2 := TCode.len l2 l
  have hl1 := hb.1
  repeat' (first | ((with_reducible apply o_y); exact y_; rfl) | with_reducible refine al_none rfl ?_ | (with_reducible first | apply aw_seq | apply aw_region | apply al_nil | apply aq_then | apply aw_block | apply aw_skip) | (refine aw_cond_df rfl rr_ dd_ ?_))
  apply aw_loopk (X := Nat) [0, 1] (fun i => [(5, .int .i64 (i : Int))]) (fun _ => []) (fun i => i ≤ l.length) (fun i => l.length - i) 0 (Nat.zero_le _)
  exact kp_; (repeat (first | exact Weak.envNil | refine Weak.envCons we_ ?_))
  · exact .refl _
  intro i hi
  try dsimp only
  by_cases hlt : i < l.length
  · have hr1 : (l.map (TCode.tw l1))[i]? = some (l[i].tw l1) := row_map hlt
    have hr2 : (l.map (TCode.tw l2))[i]? = some (l[i].tw l2) := row_map hlt
    have hbi := hb.2 _ (List.getElem_mem hlt)
    generalize l[i] = x at hr1 hr2 hbi
    have hct := eqCode_ct hst l1 l2 x hbi
    unfold TCode.tw at hct
    rw [show x.tw l1 = [.bool x.block, .int .i64 x.params, .int .i64 x.slots, .sl l1 4 (x.instrs.map (TInstr.tw l1))] from rfl] at hr1
    rw [show x.tw l2 = [.bool x.block, .int .i64 x.params, .int .i64 x.slots, .sl l2 4 (x.instrs.map (TInstr.tw l2))] from rfl] at hr2
    repeat' (first | ((with_reducible apply o_y); exact y_; rfl) | with_reducible refine aw_draw (by kernel_rfl) (by kernel_rfl) ?_ | with_reducible refine dr_nil ?_ | with_reducible refine dr_none rfl ?_ | ((with_reducible apply d_y); exact y_; rfl) | refine e_calld hG hst (hct) ?_ | with_reducible refine al_none rfl ?_ | (with_reducible first | apply aw_seq | apply aw_region | apply al_nil | apply aq_then | apply aw_block | apply aw_skip | apply aq_block) | refine aw_cond_f rfl rr_ ?_ | (refine aw_cond_dt rfl rr_ dd_ ?_))
    exact aq_round (i + 1) (by omega) (by omega) (.of _ nw_ od_ pk_)
  · repeat' (first | ((with_reducible apply o_y); exact y_; rfl) | with_reducible refine al_none rfl ?_ | (with_reducible first | apply aw_seq | apply aw_region | apply al_nil | apply aq_then | apply aw_exit | apply aw_ret | apply aq_block_hit | apply aq_then_exit) | (refine aw_cond_df rfl rr_ dd_ ?_))
    refine aq_ret1 x_ rfl (.tmp _ _ rfl) (fun _ => ?_)
    exact Fin.flat rfl
end
def TEntry.tw (lo : Nat) (x : TEntry) : List TV := [.int .i64 x.owner, .bool x.class_, .str x.selector, .int .i64 x.code]
def TEntry.small (n : Nat) (x : TEntry) : Prop := (x.selector.size ≤ n)
def TEntry.tz : List TV := [.int .i64 0, .bool false, .str ⟨#[]⟩, .int .i64 0]
theorem TEntry.fin (B K : Nat) (objs : Objs) (x : TEntry) : FinL B objs K (x.tw B) (x.tw K) := .cons (.flat rfl) (.cons (.flat rfl) (.cons (.flat rfl) (.cons (.flat rfl) (.nil))))
theorem TEntry.len (lo : Nat) (l : List TEntry) : (l.map (TEntry.tw lo)).length = l.length := by simp
section
variable {G : World → Prop}
theorem szEntry_ct (hst : Stable G) (lo : Nat) (x : TEntry) (left : Int) (h : 0 ≤ left ∧ left ≤ 1048576) (hb : x.small 9223372036854775807) : CtM Tryz.prog G 105 [.agg (x.tw lo), .int .i64 left] [] (fun y : Int => -1 ≤ y ∧ y ≤ left ∧ (0 ≤ y → x.small 1048576)) (fun _ => []) (fun y => .int .i64 y) := by
  refine ctm_enter Tryz.func105 rfl Tryz.ntmps105 rfl rfl rfl fun w0 R gs objsR hG hR => ?_
  obtain rfl := hR.inv0
  clear hR
  unfold TEntry.small at hb
  have hb1 : x.selector.size ≤ 9223372036854775807 := hb
  unfold TEntry.tw
  repeat' (first | ((with_reducible apply o_y); exact y_; rfl) | refine e_box ?_ | with_reducible refine al_none rfl ?_ | (with_reducible first | apply aw_seq | apply aw_region | apply al_nil | apply aq_then | apply aw_skip | apply aw_ret | apply aq_then_ret) | (refine aw_cond rfl rr_ (fun hc => ?_) (fun hc => ?_)))
  all_goals first
    | exact aq_retm1 x_ rfl (-1) ⟨by omega, by omega, fun h => by omega⟩ rfl (.nil R) (.refl _) (.tmp _ _ rfl) rfl
    | (refine aq_retm1 x_ rfl _ ⟨?_, ?_, fun _ => ?_⟩ rfl (.nil R) (.refl _) (.tmp _ _ rfl) rfl
       · omega
       · omega
       · show _ ≤ _; omega)
theorem szEntryS_ct (hst : Stable G) (lo : Nat) (l : List TEntry) (left : Int) (h : 0 ≤ left ∧ left ≤ 1048576) (hb : l.length ≤ 9223372036854775807 ∧ ∀ y ∈ l, TEntry.small 9223372036854775807 y) : CtM Tryz.prog G 31 [.sl lo 4 (l.map (TEntry.tw lo)), .int .i64 left] [] (fun y : Int => -1 ≤ y ∧ y ≤ left ∧ (0 ≤ y → l.length ≤ 1048576 ∧ ∀ y ∈ l, TEntry.small 1048576 y)) (fun _ => []) (fun y => .int .i64 y) := by
  refine ctm_enter Tryz.func31 rfl Tryz.ntmps31 rfl rfl rfl fun w0 R gs objsR hG hR => ?_
  obtain rfl := hR.inv0
  clear hR
  have hlen := TEntry.len lo l
  have hl1 := hb.1
  by_cases hn : left - l.length < 0
  · repeat' (first | ((with_reducible apply o_y); exact y_; rfl) | with_reducible refine al_none rfl ?_ | (with_reducible first | apply aw_seq | apply aw_region | apply al_nil | apply aq_then | apply aw_ret | apply aq_then_ret) | (refine aw_cond_dt rfl rr_ dd_ ?_))
    exact aq_retm1 x_ rfl (-1) ⟨by omega, by omega, fun h => by omega⟩ rfl (.nil R) (.refl _) (.tmp _ _ rfl) rfl
  · repeat' (first | ((with_reducible apply o_y); exact y_; rfl) | with_reducible refine al_none rfl ?_ | (with_reducible first | apply aw_seq | apply aw_region | apply al_nil | apply aq_then | apply aw_block | apply aw_skip) | (refine aw_cond_df rfl rr_ dd_ ?_))
    apply aw_loopk (X := Nat × Int) [0, 1000000] (fun x => [(5, .int .i64 (x.1 : Int)), (1, .int .i64 x.2)]) (fun _ => R) (fun x => x.1 ≤ l.length ∧ 0 ≤ x.2 ∧ x.2 ≤ left ∧ ∀ y ∈ l.take x.1, TEntry.small 1048576 y) (fun x => l.length - x.1) (0, left - l.length) ⟨Nat.zero_le _, by dsimp only; omega, by dsimp only; omega, by simp⟩
    exact kp_; (repeat (first | exact Weak.envNil | refine Weak.envCons we_ ?_))
    · exact .refl _
    rintro ⟨i, lf⟩ ⟨hi, h0, h1, hs⟩
    dsimp only at hi h0 h1 hs ⊢
    by_cases hlt : i < l.length
    · have hrow : (l.map (TEntry.tw lo))[i]? = some (l[i].tw lo) := row_map hlt
      have hbi := hb.2 _ (List.getElem_mem hlt)
      have hta := take_all (p := TEntry.small 1048576) hlt hs
      generalize l[i] = x at hrow hbi hta
      have hct := szEntry_ct hst lo x lf (by omega) hbi
      unfold TEntry.tw at hct
      rw [show x.tw lo = [.int .i64 x.owner, .bool x.class_, .str x.selector, .int .i64 x.code] from rfl] at hrow
      repeat' (first | ((with_reducible apply o_y); exact y_; rfl) | ((with_reducible apply o_callM); rfl; kernel_rfl; (repeat (first | exact ArgsM.nil | ((with_reducible apply ArgsM.cons); rfl))); exact hG; exact hct; exact .nil _; intro y hy; refine al_app0 ?_) | with_reducible refine al_none rfl ?_ | (with_reducible first | apply aw_seq | apply aw_region | apply al_nil | apply aq_then | apply aw_block | apply aw_skip | apply aw_ret | apply aq_then_ret | apply aq_block_ret | apply aq_block) | (refine aw_cond_dt rfl rr_ dd_ ?_) | (refine aw_cond rfl rr_ (fun hc => ?_) (fun hc => ?_)))
      all_goals first
        | exact aq_retm1 x_ rfl (-1) ⟨by omega, by omega, fun h => by omega⟩ rfl (.nil R) (.refl _) (.tmp _ _ rfl) rfl
        | exact aq_round (i + 1, y) ⟨by dsimp only; omega, by dsimp only; omega, by dsimp only; omega, hta (hy.2.2 (by omega))⟩ (by dsimp only; omega) (.of _ nw_ od_ pk_)
    · rw [List.take_of_length_le (by omega)] at hs
      repeat' (first | ((with_reducible apply o_y); exact y_; rfl) | with_reducible refine al_none rfl ?_ | (with_reducible first | apply aw_seq | apply aw_region | apply al_nil | apply aq_then | apply aw_exit | apply aw_ret | apply aq_block_hit | apply aq_then_exit) | (refine aw_cond_df rfl rr_ dd_ ?_))
      exact aq_retm1 x_ rfl lf ⟨by omega, by omega, fun _ => ⟨by omega, hs⟩⟩ rfl (.nil R) (.refl _) (.tmp _ _ rfl) rfl
theorem toEntry_ct (hst : Stable G) (lo : Nat) (x : TEntry) (hb : x.small 1048576) : Ct Tryz.prog G 116 [.agg (x.tw lo)] (fun K => .agg (x.tw K)) := by
  refine ct_enter Tryz.func116 rfl Tryz.ntmps116 rfl rfl fun w0 _ hG => ?_
  unfold TEntry.small at hb
  skip
  repeat' (first | ((with_reducible apply o_y); exact y_; rfl) | refine e_box ?_ | (refine e_alloc ?_; intro ss bb) | refine e_storep ?_ | with_reducible refine al_none rfl ?_ | (with_reducible first | apply aw_seq | apply aw_region | apply al_nil | apply aq_then | apply aw_ret))
  refine aq_ret1 x_ rfl (.cell _ _ _ _ _ rfl mm_ (by kernel_rfl) (by kernel_rfl) (by kernel_rfl)) (fun _ => ?_)
  exact fin_agg (TEntry.fin _ _ _ x)
theorem toEntryS_ct (hst : Stable G) (lo : Nat) (l : List TEntry) (hb : l.length ≤ 1048576 ∧ ∀ y ∈ l, TEntry.small 1048576 y) : Ct Tryz.prog G 38 [.sl lo 4 (l.map (TEntry.tw lo))] (fun K => .sl K 4 (l.map (TEntry.tw K))) := by
  refine ct_enter Tryz.func38 rfl Tryz.ntmps38 rfl rfl fun w0 _ hG => ?_
  have hlen := TEntry.len lo l
  have hl1 := hb.1
  have h0 := copyR_zero (TEntry.tw w0.heap.size) TEntry.tz l
  repeat' (first | ((with_reducible apply o_y); exact y_; rfl) | (refine e_make ?_; intro ss bb) | with_reducible refine al_none rfl ?_ | (with_reducible first | apply aw_seq | apply aw_region | apply al_nil | apply aq_then | apply aw_block))
  apply aw_loopk (X := Nat) [0, 3] (fun i => [(4, .int .i64 (i : Int))]) (fun i => [(ss, bb, .row 4 (copyR (TEntry.tw w0.heap.size) TEntry.tz l i))]) (fun i => i ≤ l.length) (fun i => l.length - i) 0 (Nat.zero_le _)
  exact kp_; (repeat (first | exact Weak.envNil | refine Weak.envCons we_ ?_))
  · rw [← h0]; exact .refl _
  intro i hi
  try dsimp only
  by_cases hlt : i < l.length
  · obtain ⟨hrow, hset⟩ := copyR_set (TEntry.tw w0.heap.size) TEntry.tz hlt
    have hra : (l.map (TEntry.tw lo))[i]? = some (l[i].tw lo) := row_map hlt
    have hbi := hb.2 _ (List.getElem_mem hlt)
    generalize l[i] = x at hset hra hbi
    have hct := toEntry_ct hst lo x hbi
    unfold TEntry.tw at hct
    rw [show x.tw lo = [.int .i64 x.owner, .bool x.class_, .str x.selector, .int .i64 x.code] from rfl] at hra
    replace hrow : (copyR (TEntry.tw w0.heap.size) TEntry.tz l i)[i]? = some [.int .i64 0, .bool false, .str ⟨#[]⟩, .int .i64 0] := hrow
    repeat' (first | ((with_reducible apply o_y); exact y_; rfl) | refine e_call hG hst (hct) ?_ | refine e_store ?_ | with_reducible refine al_none rfl ?_ | (with_reducible first | apply aw_seq | apply aw_region | apply al_nil | apply aq_then | apply aw_block | apply aw_skip | apply aq_block) | (refine aw_cond_dt rfl rr_ dd_ ?_))
    refine aq_round (i + 1) (by omega) (by omega) (.of _ nw_ od_ (by rw [← hset]; exact .refl _))
  · obtain rfl : i = l.length := by omega
    rw [copyR_full]
    repeat' (first | ((with_reducible apply o_y); exact y_; rfl) | with_reducible refine al_none rfl ?_ | (with_reducible first | apply aw_seq | apply aw_region | apply al_nil | apply aq_then | apply aw_exit | apply aw_ret | apply aq_block_hit | apply aq_then_exit) | (refine aw_cond_df rfl rr_ dd_ ?_))
    refine aq_ret1 x_ rfl (.tmp _ _ rfl) (fun _ => ?_)
    exact fin_ms (fun x => TEntry.fin _ _ _ x) List.mem_cons_self
theorem eqEntry_ct (hst : Stable G) (l1 l2 : Nat) (x : TEntry) (hb : x.small 1048576) : Ct Tryz.prog G 126 [.agg (x.tw l1), .agg (x.tw l2)] (fun _ => .bool true) := by
  refine ct_enter Tryz.func126 rfl Tryz.ntmps126 rfl rfl fun w0 _ hG => ?_
  unfold TEntry.small at hb
  have hneselector : ¬ x.selector ≠ x.selector := fun h => h rfl
  unfold TEntry.tw
  repeat' (first | ((with_reducible apply o_y); exact y_; rfl) | refine e_box ?_ | with_reducible refine al_none rfl ?_ | (with_reducible first | apply aw_seq | apply aw_region | apply al_nil | apply aq_then | apply aw_skip | apply aw_ret | apply aq_then_ret) | (refine aw_cond_df rfl rr_ dd_ ?_) | (refine aw_cond_b rfl rr_ (fun hc => ?_) (fun hc => ?_)))
  all_goals first
    | (exfalso; simp at hc; done)
    | (refine aq_ret1 x_ rfl (.tmp _ _ rfl) (fun _ => ?_)
       exact Fin.flat rfl)
theorem eqEntryS_ct (hst : Stable G) (l1 l2 : Nat) (l : List TEntry) (hb : l.length ≤ 1048576 ∧ ∀ y ∈ l, TEntry.small 1048576 y) : Ct Tryz.prog G 47 [.sl l1 4 (l.map (TEntry.tw l1)), .sl l2 4 (l.map (TEntry.tw l2))] (fun _ => .bool true) := by
  refine ct_enter Tryz.func47 rfl Tryz.ntmps47 rfl rfl fun w0 _ hG => ?_
  have hlen := TEntry.len l1 l
  have hlen2 := TEntry.len l2 l
  have hl1 := hb.1
  repeat' (first | ((with_reducible apply o_y); exact y_; rfl) | with_reducible refine al_none rfl ?_ | (with_reducible first | apply aw_seq | apply aw_region | apply al_nil | apply aq_then | apply aw_block | apply aw_skip) | (refine aw_cond_df rfl rr_ dd_ ?_))
  apply aw_loopk (X := Nat) [0, 1] (fun i => [(5, .int .i64 (i : Int))]) (fun _ => []) (fun i => i ≤ l.length) (fun i => l.length - i) 0 (Nat.zero_le _)
  exact kp_; (repeat (first | exact Weak.envNil | refine Weak.envCons we_ ?_))
  · exact .refl _
  intro i hi
  try dsimp only
  by_cases hlt : i < l.length
  · have hr1 : (l.map (TEntry.tw l1))[i]? = some (l[i].tw l1) := row_map hlt
    have hr2 : (l.map (TEntry.tw l2))[i]? = some (l[i].tw l2) := row_map hlt
    have hbi := hb.2 _ (List.getElem_mem hlt)
    generalize l[i] = x at hr1 hr2 hbi
    have hct := eqEntry_ct hst l1 l2 x hbi
    unfold TEntry.tw at hct
    rw [show x.tw l1 = [.int .i64 x.owner, .bool x.class_, .str x.selector, .int .i64 x.code] from rfl] at hr1
    rw [show x.tw l2 = [.int .i64 x.owner, .bool x.class_, .str x.selector, .int .i64 x.code] from rfl] at hr2
    repeat' (first | ((with_reducible apply o_y); exact y_; rfl) | with_reducible refine aw_draw (by kernel_rfl) (by kernel_rfl) ?_ | with_reducible refine dr_nil ?_ | with_reducible refine dr_none rfl ?_ | ((with_reducible apply d_y); exact y_; rfl) | refine e_calld hG hst (hct) ?_ | with_reducible refine al_none rfl ?_ | (with_reducible first | apply aw_seq | apply aw_region | apply al_nil | apply aq_then | apply aw_block | apply aw_skip | apply aq_block) | refine aw_cond_f rfl rr_ ?_ | (refine aw_cond_dt rfl rr_ dd_ ?_))
    exact aq_round (i + 1) (by omega) (by omega) (.of _ nw_ od_ pk_)
  · repeat' (first | ((with_reducible apply o_y); exact y_; rfl) | with_reducible refine al_none rfl ?_ | (with_reducible first | apply aw_seq | apply aw_region | apply al_nil | apply aq_then | apply aw_exit | apply aw_ret | apply aq_block_hit | apply aq_then_exit) | (refine aw_cond_df rfl rr_ dd_ ?_))
    refine aq_ret1 x_ rfl (.tmp _ _ rfl) (fun _ => ?_)
    exact Fin.flat rfl
end
def TClassInfo.tw (lo : Nat) (x : TClassInfo) : List TV := [.str x.name, .int .i64 x.parent, .sl lo 1 (strR x.fields)]
def TClassInfo.small (n : Nat) (x : TClassInfo) : Prop := (x.name.size ≤ n) ∧ (x.fields.length ≤ n ∧ ∀ y ∈ x.fields, ByteArray.size y ≤ n)
def TClassInfo.tz : List TV := [.str ⟨#[]⟩, .int .i64 0, .nils]
theorem TClassInfo.fin (B K : Nat) (objs : Objs) (x : TClassInfo) : FinL B objs K (x.tw B) (x.tw K) := .cons (.flat rfl) (.cons (.flat rfl) (.cons (fin_sl (fun x => .cons (.flat rfl) .nil) _) (.nil)))
theorem TClassInfo.len (lo : Nat) (l : List TClassInfo) : (l.map (TClassInfo.tw lo)).length = l.length := by simp
section
variable {G : World → Prop}
theorem szClassInfo_ct (hst : Stable G) (lo : Nat) (x : TClassInfo) (left : Int) (h : 0 ≤ left ∧ left ≤ 1048576) (hb : x.small 9223372036854775807) : CtM Tryz.prog G 103 [.agg (x.tw lo), .int .i64 left] [] (fun y : Int => -1 ≤ y ∧ y ≤ left ∧ (0 ≤ y → x.small 1048576)) (fun _ => []) (fun y => .int .i64 y) := by
  refine ctm_enter Tryz.func103 rfl Tryz.ntmps103 rfl rfl rfl fun w0 R gs objsR hG hR => ?_
  obtain rfl := hR.inv0
  clear hR
  unfold TClassInfo.small at hb
  have hb1 : x.name.size ≤ 9223372036854775807 := hb.1
  unfold TClassInfo.tw
  repeat' (first | ((with_reducible apply o_y); exact y_; rfl) | refine e_box ?_ | ((with_reducible apply o_callM); rfl; kernel_rfl; (repeat (first | exact ArgsM.nil | ((with_reducible apply ArgsM.cons); rfl))); exact hG; exact szStringS_ct _ x.fields _ (by omega) hb.2; exact .nil _; intro y2 hy2; refine al_app0 ?_) | with_reducible refine al_none rfl ?_ | (with_reducible first | apply aw_seq | apply aw_region | apply al_nil | apply aq_then | apply aw_skip | apply aw_ret | apply aq_then_ret) | (refine aw_cond rfl rr_ (fun hc => ?_) (fun hc => ?_)))
  all_goals first
    | exact aq_retm1 x_ rfl (-1) ⟨by omega, by omega, fun h => by omega⟩ rfl (.nil R) (.refl _) (.tmp _ _ rfl) rfl
    | (refine aq_retm1 x_ rfl _ ⟨?_, ?_, fun _ => ?_⟩ rfl (.nil R) (.refl _) (.tmp _ _ rfl) rfl
       · omega
       · omega
       · exact ⟨by omega, hy2.2.2 (by omega)⟩)
theorem szClassInfoS_ct (hst : Stable G) (lo : Nat) (l : List TClassInfo) (left : Int) (h : 0 ≤ left ∧ left ≤ 1048576) (hb : l.length ≤ 9223372036854775807 ∧ ∀ y ∈ l, TClassInfo.small 9223372036854775807 y) : CtM Tryz.prog G 29 [.sl lo 3 (l.map (TClassInfo.tw lo)), .int .i64 left] [] (fun y : Int => -1 ≤ y ∧ y ≤ left ∧ (0 ≤ y → l.length ≤ 1048576 ∧ ∀ y ∈ l, TClassInfo.small 1048576 y)) (fun _ => []) (fun y => .int .i64 y) := by
  refine ctm_enter Tryz.func29 rfl Tryz.ntmps29 rfl rfl rfl fun w0 R gs objsR hG hR => ?_
  obtain rfl := hR.inv0
  clear hR
  have hlen := TClassInfo.len lo l
  have hl1 := hb.1
  by_cases hn : left - l.length < 0
  · repeat' (first | ((with_reducible apply o_y); exact y_; rfl) | with_reducible refine al_none rfl ?_ | (with_reducible first | apply aw_seq | apply aw_region | apply al_nil | apply aq_then | apply aw_ret | apply aq_then_ret) | (refine aw_cond_dt rfl rr_ dd_ ?_))
    exact aq_retm1 x_ rfl (-1) ⟨by omega, by omega, fun h => by omega⟩ rfl (.nil R) (.refl _) (.tmp _ _ rfl) rfl
  · repeat' (first | ((with_reducible apply o_y); exact y_; rfl) | with_reducible refine al_none rfl ?_ | (with_reducible first | apply aw_seq | apply aw_region | apply al_nil | apply aq_then | apply aw_block | apply aw_skip) | (refine aw_cond_df rfl rr_ dd_ ?_))
    apply aw_loopk (X := Nat × Int) [0, 1000000] (fun x => [(5, .int .i64 (x.1 : Int)), (1, .int .i64 x.2)]) (fun _ => R) (fun x => x.1 ≤ l.length ∧ 0 ≤ x.2 ∧ x.2 ≤ left ∧ ∀ y ∈ l.take x.1, TClassInfo.small 1048576 y) (fun x => l.length - x.1) (0, left - l.length) ⟨Nat.zero_le _, by dsimp only; omega, by dsimp only; omega, by simp⟩
    exact kp_; (repeat (first | exact Weak.envNil | refine Weak.envCons we_ ?_))
    · exact .refl _
    rintro ⟨i, lf⟩ ⟨hi, h0, h1, hs⟩
    dsimp only at hi h0 h1 hs ⊢
    by_cases hlt : i < l.length
    · have hrow : (l.map (TClassInfo.tw lo))[i]? = some (l[i].tw lo) := row_map hlt
      have hbi := hb.2 _ (List.getElem_mem hlt)
      have hta := take_all (p := TClassInfo.small 1048576) hlt hs
      generalize l[i] = x at hrow hbi hta
      have hct := szClassInfo_ct hst lo x lf (by omega) hbi
      unfold TClassInfo.tw at hct
      rw [show x.tw lo = [.str x.name, .int .i64 x.parent, .sl lo 1 (strR x.fields)] from rfl] at hrow
      repeat' (first | ((with_reducible apply o_y); exact y_; rfl) | ((with_reducible apply o_callM); rfl; kernel_rfl; (repeat (first | exact ArgsM.nil | ((with_reducible apply ArgsM.cons); rfl))); exact hG; exact hct; exact .nil _; intro y hy; refine al_app0 ?_) | with_reducible refine al_none rfl ?_ | (with_reducible first | apply aw_seq | apply aw_region | apply al_nil | apply aq_then | apply aw_block | apply aw_skip | apply aw_ret | apply aq_then_ret | apply aq_block_ret | apply aq_block) | (refine aw_cond_dt rfl rr_ dd_ ?_) | (refine aw_cond rfl rr_ (fun hc => ?_) (fun hc => ?_)))
      all_goals first
        | exact aq_retm1 x_ rfl (-1) ⟨by omega, by omega, fun h => by omega⟩ rfl (.nil R) (.refl _) (.tmp _ _ rfl) rfl
        | exact aq_round (i + 1, y) ⟨by dsimp only; omega, by dsimp only; omega, by dsimp only; omega, hta (hy.2.2 (by omega))⟩ (by dsimp only; omega) (.of _ nw_ od_ pk_)
    · rw [List.take_of_length_le (by omega)] at hs
      repeat' (first | ((with_reducible apply o_y); exact y_; rfl) | with_reducible refine al_none rfl ?_ | (with_reducible first | apply aw_seq | apply aw_region | apply al_nil | apply aq_then | apply aw_exit | apply aw_ret | apply aq_block_hit | apply aq_then_exit) | (refine aw_cond_df rfl rr_ dd_ ?_))
      exact aq_retm1 x_ rfl lf ⟨by omega, by omega, fun _ => ⟨by omega, hs⟩⟩ rfl (.nil R) (.refl _) (.tmp _ _ rfl) rfl
theorem toClassInfo_ct (hst : Stable G) (lo : Nat) (x : TClassInfo) (hb : x.small 1048576) : Ct Tryz.prog G 114 [.agg (x.tw lo)] (fun K => .agg (x.tw K)) := by
  refine ct_enter Tryz.func114 rfl Tryz.ntmps114 rfl rfl fun w0 _ hG => ?_
  unfold TClassInfo.small at hb
  have hsfields := (hb.2).1
  repeat' (first | ((with_reducible apply o_y); exact y_; rfl) | refine e_box ?_ | (refine e_alloc ?_; intro ss bb) | refine e_storep ?_ | refine e_call hG hst (toStringS_ct hst _ x.fields (hsfields)) ?_ | with_reducible refine al_none rfl ?_ | (with_reducible first | apply aw_seq | apply aw_region | apply al_nil | apply aq_then | apply aw_ret))
  refine aq_ret1 x_ rfl (.cell _ _ _ _ _ rfl mm_ (by kernel_rfl) (by kernel_rfl) (by kernel_rfl)) (fun _ => ?_)
  exact fin_agg (TClassInfo.fin _ _ _ x)
theorem toClassInfoS_ct (hst : Stable G) (lo : Nat) (l : List TClassInfo) (hb : l.length ≤ 1048576 ∧ ∀ y ∈ l, TClassInfo.small 1048576 y) : Ct Tryz.prog G 36 [.sl lo 3 (l.map (TClassInfo.tw lo))] (fun K => .sl K 3 (l.map (TClassInfo.tw K))) := by
  refine ct_enter Tryz.func36 rfl Tryz.ntmps36 rfl rfl fun w0 _ hG => ?_
  have hlen := TClassInfo.len lo l
  have hl1 := hb.1
  have h0 := copyR_zero (TClassInfo.tw w0.heap.size) TClassInfo.tz l
  repeat' (first | ((with_reducible apply o_y); exact y_; rfl) | (refine e_make ?_; intro ss bb) | with_reducible refine al_none rfl ?_ | (with_reducible first | apply aw_seq | apply aw_region | apply al_nil | apply aq_then | apply aw_block))
  apply aw_loopk (X := Nat) [0, 3] (fun i => [(4, .int .i64 (i : Int))]) (fun i => [(ss, bb, .row 3 (copyR (TClassInfo.tw w0.heap.size) TClassInfo.tz l i))]) (fun i => i ≤ l.length) (fun i => l.length - i) 0 (Nat.zero_le _)
  exact kp_; (repeat (first | exact Weak.envNil | refine Weak.envCons we_ ?_))
  · rw [← h0]; exact .refl _
  intro i hi
  try dsimp only
  by_cases hlt : i < l.length
  · obtain ⟨hrow, hset⟩ := copyR_set (TClassInfo.tw w0.heap.size) TClassInfo.tz hlt
    have hra : (l.map (TClassInfo.tw lo))[i]? = some (l[i].tw lo) := row_map hlt
    have hbi := hb.2 _ (List.getElem_mem hlt)
    generalize l[i] = x at hset hra hbi
    have hct := toClassInfo_ct hst lo x hbi
    unfold TClassInfo.tw at hct
    rw [show x.tw lo = [.str x.name, .int .i64 x.parent, .sl lo 1 (strR x.fields)] from rfl] at hra
    replace hrow : (copyR (TClassInfo.tw w0.heap.size) TClassInfo.tz l i)[i]? = some [.str ⟨#[]⟩, .int .i64 0, .nils] := hrow
    repeat' (first | ((with_reducible apply o_y); exact y_; rfl) | refine e_call hG hst (hct) ?_ | refine e_store ?_ | with_reducible refine al_none rfl ?_ | (with_reducible first | apply aw_seq | apply aw_region | apply al_nil | apply aq_then | apply aw_block | apply aw_skip | apply aq_block) | (refine aw_cond_dt rfl rr_ dd_ ?_))
    refine aq_round (i + 1) (by omega) (by omega) (.of _ nw_ od_ (by rw [← hset]; exact .refl _))
  · obtain rfl : i = l.length := by omega
    rw [copyR_full]
    repeat' (first | ((with_reducible apply o_y); exact y_; rfl) | with_reducible refine al_none rfl ?_ | (with_reducible first | apply aw_seq | apply aw_region | apply al_nil | apply aq_then | apply aw_exit | apply aw_ret | apply aq_block_hit | apply aq_then_exit) | (refine aw_cond_df rfl rr_ dd_ ?_))
    refine aq_ret1 x_ rfl (.tmp _ _ rfl) (fun _ => ?_)
    exact fin_ms (fun x => TClassInfo.fin _ _ _ x) List.mem_cons_self
theorem eqClassInfo_ct (hst : Stable G) (l1 l2 : Nat) (x : TClassInfo) (hb : x.small 1048576) : Ct Tryz.prog G 124 [.agg (x.tw l1), .agg (x.tw l2)] (fun _ => .bool true) := by
  refine ct_enter Tryz.func124 rfl Tryz.ntmps124 rfl rfl fun w0 _ hG => ?_
  unfold TClassInfo.small at hb
  have hsfields := (hb.2).1
  have hnename : ¬ x.name ≠ x.name := fun h => h rfl
  unfold TClassInfo.tw
  repeat' (first | ((with_reducible apply o_y); exact y_; rfl) | refine e_box ?_ | refine e_call hG hst (eqStringS_ct _ _ x.fields hsfields) ?_ | with_reducible refine al_none rfl ?_ | (with_reducible first | apply aw_seq | apply aw_region | apply al_nil | apply aq_then | apply aw_skip | apply aw_ret) | refine aw_cond_f rfl rr_ ?_ | (refine aw_cond_df rfl rr_ dd_ ?_))
  all_goals first
    | (exfalso; simp at hc; done)
    | (refine aq_ret1 x_ rfl (.tmp _ _ rfl) (fun _ => ?_)
       exact Fin.flat rfl)
theorem eqClassInfoS_ct (hst : Stable G) (l1 l2 : Nat) (l : List TClassInfo) (hb : l.length ≤ 1048576 ∧ ∀ y ∈ l, TClassInfo.small 1048576 y) : Ct Tryz.prog G 45 [.sl l1 3 (l.map (TClassInfo.tw l1)), .sl l2 3 (l.map (TClassInfo.tw l2))] (fun _ => .bool true) := by
  refine ct_enter Tryz.func45 rfl Tryz.ntmps45 rfl rfl fun w0 _ hG => ?_
  have hlen := TClassInfo.len l1 l
  have hlen2 := TClassInfo.len l2 l
  have hl1 := hb.1
  repeat' (first | ((with_reducible apply o_y); exact y_; rfl) | with_reducible refine al_none rfl ?_ | (with_reducible first | apply aw_seq | apply aw_region | apply al_nil | apply aq_then | apply aw_block | apply aw_skip) | (refine aw_cond_df rfl rr_ dd_ ?_))
  apply aw_loopk (X := Nat) [0, 1] (fun i => [(5, .int .i64 (i : Int))]) (fun _ => []) (fun i => i ≤ l.length) (fun i => l.length - i) 0 (Nat.zero_le _)
  exact kp_; (repeat (first | exact Weak.envNil | refine Weak.envCons we_ ?_))
  · exact .refl _
  intro i hi
  try dsimp only
  by_cases hlt : i < l.length
  · have hr1 : (l.map (TClassInfo.tw l1))[i]? = some (l[i].tw l1) := row_map hlt
    have hr2 : (l.map (TClassInfo.tw l2))[i]? = some (l[i].tw l2) := row_map hlt
    have hbi := hb.2 _ (List.getElem_mem hlt)
    generalize l[i] = x at hr1 hr2 hbi
    have hct := eqClassInfo_ct hst l1 l2 x hbi
    unfold TClassInfo.tw at hct
    rw [show x.tw l1 = [.str x.name, .int .i64 x.parent, .sl l1 1 (strR x.fields)] from rfl] at hr1
    rw [show x.tw l2 = [.str x.name, .int .i64 x.parent, .sl l2 1 (strR x.fields)] from rfl] at hr2
    repeat' (first | ((with_reducible apply o_y); exact y_; rfl) | with_reducible refine aw_draw (by kernel_rfl) (by kernel_rfl) ?_ | with_reducible refine dr_nil ?_ | with_reducible refine dr_none rfl ?_ | ((with_reducible apply d_y); exact y_; rfl) | refine e_calld hG hst (hct) ?_ | with_reducible refine al_none rfl ?_ | (with_reducible first | apply aw_seq | apply aw_region | apply al_nil | apply aq_then | apply aw_block | apply aw_skip | apply aq_block) | refine aw_cond_f rfl rr_ ?_ | (refine aw_cond_dt rfl rr_ dd_ ?_))
    exact aq_round (i + 1) (by omega) (by omega) (.of _ nw_ od_ pk_)
  · repeat' (first | ((with_reducible apply o_y); exact y_; rfl) | with_reducible refine al_none rfl ?_ | (with_reducible first | apply aw_seq | apply aw_region | apply al_nil | apply aq_then | apply aw_exit | apply aw_ret | apply aq_block_hit | apply aq_then_exit) | (refine aw_cond_df rfl rr_ dd_ ?_))
    refine aq_ret1 x_ rfl (.tmp _ _ rfl) (fun _ => ?_)
    exact Fin.flat rfl
end
def TCodeBase.tw (lo : Nat) (x : TCodeBase) : List TV := [.sl lo 3 (x.classes.map (TClassInfo.tw lo)), .sl lo 4 (x.codes.map (TCode.tw lo)), .sl lo 4 (x.entries.map (TEntry.tw lo)), .int .i64 x.main]
def TCodeBase.small (n : Nat) (x : TCodeBase) : Prop := (x.classes.length ≤ n ∧ ∀ y ∈ x.classes, TClassInfo.small n y) ∧ (x.codes.length ≤ n ∧ ∀ y ∈ x.codes, TCode.small n y) ∧ (x.entries.length ≤ n ∧ ∀ y ∈ x.entries, TEntry.small n y)
def TCodeBase.tz : List TV := [.nils, .nils, .nils, .int .i64 0]
theorem TCodeBase.fin (B K : Nat) (objs : Objs) (x : TCodeBase) : FinL B objs K (x.tw B) (x.tw K) := .cons (fin_sl (fun x => TClassInfo.fin B K objs x) _) (.cons (fin_sl (fun x => TCode.fin B K objs x) _) (.cons (fin_sl (fun x => TEntry.fin B K objs x) _) (.cons (.flat rfl) (.nil))))
theorem TCodeBase.len (lo : Nat) (l : List TCodeBase) : (l.map (TCodeBase.tw lo)).length = l.length := by simp
section
variable {G : World → Prop}
theorem szCodeBase_ct (hst : Stable G) (lo : Nat) (x : TCodeBase) (left : Int) (h : 0 ≤ left ∧ left ≤ 1048576) (hb : x.small 9223372036854775807) : CtM Tryz.prog G 8 [.agg (x.tw lo), .int .i64 left] [] (fun y : Int => -1 ≤ y ∧ y ≤ left ∧ (0 ≤ y → x.small 1048576)) (fun _ => []) (fun y => .int .i64 y) := by
  refine ctm_enter Tryz.func8 rfl Tryz.ntmps8 rfl rfl rfl fun w0 R gs objsR hG hR => ?_
  obtain rfl := hR.inv0
  clear hR
  unfold TCodeBase.small at hb
  skip
  unfold TCodeBase.tw
  repeat' (first | ((with_reducible apply o_y); exact y_; rfl) | refine e_box ?_ | ((with_reducible apply o_callM); rfl; kernel_rfl; (repeat (first | exact ArgsM.nil | ((with_reducible apply ArgsM.cons); rfl))); exact hG; exact szClassInfoS_ct hst _ x.classes _ (by omega) hb.1; exact .nil _; intro y1 hy1; refine al_app0 ?_) | ((with_reducible apply o_callM); rfl; kernel_rfl; (repeat (first | exact ArgsM.nil | ((with_reducible apply ArgsM.cons); rfl))); exact hG; exact szCodeS_ct hst _ x.codes _ (by omega) hb.2.1; exact .nil _; intro y2 hy2; refine al_app0 ?_) | ((with_reducible apply o_callM); rfl; kernel_rfl; (repeat (first | exact ArgsM.nil | ((with_reducible apply ArgsM.cons); rfl))); exact hG; exact szEntryS_ct hst _ x.entries _ (by omega) hb.2.2; exact .nil _; intro y3 hy3; refine al_app0 ?_) | with_reducible refine al_none rfl ?_ | (with_reducible first | apply aw_seq | apply aw_region | apply al_nil | apply aq_then | apply aw_skip | apply aw_ret | apply aq_then_ret) | (refine aw_cond rfl rr_ (fun hc => ?_) (fun hc => ?_)))
  all_goals first
    | exact aq_retm1 x_ rfl (-1) ⟨by omega, by omega, fun h => by omega⟩ rfl (.nil R) (.refl _) (.tmp _ _ rfl) rfl
    | (refine aq_retm1 x_ rfl _ ⟨?_, ?_, fun _ => ?_⟩ rfl (.nil R) (.refl _) (.tmp _ _ rfl) rfl
       · omega
       · omega
       · exact ⟨hy1.2.2 (by omega), hy2.2.2 (by omega), hy3.2.2 (by omega)⟩)
theorem toCodeBase_ct (hst : Stable G) (lo : Nat) (x : TCodeBase) (hb : x.small 1048576) : Ct Tryz.prog G 10 [.agg (x.tw lo)] (fun K => .agg (x.tw K)) := by
  refine ct_enter Tryz.func10 rfl Tryz.ntmps10 rfl rfl fun w0 _ hG => ?_
  unfold TCodeBase.small at hb
  have hsclasses := hb.1
  have hscodes := hb.2.1
  have hsentries := hb.2.2
  repeat' (first | ((with_reducible apply o_y); exact y_; rfl) | refine e_box ?_ | (refine e_alloc ?_; intro ss bb) | refine e_storep ?_ | refine e_call hG hst (toClassInfoS_ct hst _ x.classes (hsclasses)) ?_ | refine e_call hG hst (toCodeS_ct hst _ x.codes (hscodes)) ?_ | refine e_call hG hst (toEntryS_ct hst _ x.entries (hsentries)) ?_ | with_reducible refine al_none rfl ?_ | (with_reducible first | apply aw_seq | apply aw_region | apply al_nil | apply aq_then | apply aw_ret))
  refine aq_ret1 x_ rfl (.cell _ _ _ _ _ rfl mm_ (by kernel_rfl) (by kernel_rfl) (by kernel_rfl)) (fun _ => ?_)
  exact fin_agg (TCodeBase.fin _ _ _ x)
theorem eqCodeBase_ct (hst : Stable G) (l1 l2 : Nat) (x : TCodeBase) (hb : x.small 1048576) : Ct Tryz.prog G 12 [.agg (x.tw l1), .agg (x.tw l2)] (fun _ => .bool true) := by
  refine ct_enter Tryz.func12 rfl Tryz.ntmps12 rfl rfl fun w0 _ hG => ?_
  unfold TCodeBase.small at hb
  have hsclasses := hb.1
  have hscodes := hb.2.1
  have hsentries := hb.2.2
  unfold TCodeBase.tw
  repeat' (first | ((with_reducible apply o_y); exact y_; rfl) | refine e_box ?_ | refine e_call hG hst (eqClassInfoS_ct hst _ _ x.classes hsclasses) ?_ | refine e_call hG hst (eqCodeS_ct hst _ _ x.codes hscodes) ?_ | refine e_call hG hst (eqEntryS_ct hst _ _ x.entries hsentries) ?_ | with_reducible refine al_none rfl ?_ | (with_reducible first | apply aw_seq | apply aw_region | apply al_nil | apply aq_then | apply aw_skip | apply aw_ret) | refine aw_cond_f rfl rr_ ?_ | (refine aw_cond_df rfl rr_ dd_ ?_))
  all_goals first
    | (exfalso; simp at hc; done)
    | (refine aq_ret1 x_ rfl (.tmp _ _ rfl) (fun _ => ?_)
       exact Fin.flat rfl)
end
def TEdit.tw (lo : Nat) (x : TEdit) : List TV := [.int .i64 x.code, .int .i64 x.at_, .int .i64 x.kind]
def TEdit.small (n : Nat) (x : TEdit) : Prop := True
def TEdit.tz : List TV := [.int .i64 0, .int .i64 0, .int .i64 0]
theorem TEdit.fin (B K : Nat) (objs : Objs) (x : TEdit) : FinL B objs K (x.tw B) (x.tw K) := .cons (.flat rfl) (.cons (.flat rfl) (.cons (.flat rfl) (.nil)))
theorem TEdit.len (lo : Nat) (l : List TEdit) : (l.map (TEdit.tw lo)).length = l.length := by simp
section
variable {G : World → Prop}
end
end Go.Proofs.YthpdkhejeookhaaGreatDoor
/- Nested memory that the call owns: the laws' copies of a code base. Written by gen_ne.py. -/
namespace Go.Proofs.YthpdkhejeookhaaGreatDoor
set_option maxRecDepth 20000
open Go Go.RowKit
/-- Rows whose elements hold rows of their own: a place (site, block) for each. -/
def nR {α : Type} (mk : α → Nat × Nat → List TV) (l : List α) (ps : List (Nat × Nat)) : List (List TV) := List.zipWith mk l ps
def nO {α : Type} (ob : α → TObj) (l : List α) (ps : List (Nat × Nat)) : Objs := List.zipWith (fun x p => (p.1, p.2, ob x)) l ps
theorem nR_len {α : Type} (mk : α → Nat × Nat → List TV) {l : List α} {ps : List (Nat × Nat)} (h : ps.length = l.length) : (nR mk l ps).length = l.length := by simp [nR, h]
theorem takeSnoc {α : Type} {l : List α} {i : Nat} (h : i < l.length) : l.take (i + 1) = l.take i ++ [l[i]] := by rw [List.take_add_one, List.getElem?_eq_getElem h]; rfl
theorem nO_snoc {α : Type} (ob : α → TObj) {l : List α} {ps : List (Nat × Nat)} {i : Nat} (h : i < l.length) (hp : ps.length = i) (p : Nat × Nat) : nO ob (l.take (i + 1)) (ps ++ [p]) = nO ob (l.take i) ps ++ [(p.1, p.2, ob l[i])] := by
  unfold nO
  rw [takeSnoc h, List.zipWith_append (by simp; omega)]; rfl
theorem nR_set {α : Type} (mk : α → Nat × Nat → List TV) (z : List TV) {l : List α} {ps : List (Nat × Nat)} {i : Nat} (h : i < l.length) (hp : ps.length = i) (p : Nat × Nat) :
    (nR mk (l.take i) ps ++ List.replicate (l.length - i) z)[i]? = some z ∧ (nR mk (l.take i) ps ++ List.replicate (l.length - i) z).set i (mk l[i] p) = nR mk (l.take (i + 1)) (ps ++ [p]) ++ List.replicate (l.length - (i + 1)) z := by
  have hl : (nR mk (l.take i) ps).length = i := by simp [nR]; omega
  have e : l.length - i = (l.length - (i + 1)) + 1 := by omega
  refine ⟨?_, ?_⟩
  · rw [List.getElem?_append_right (by omega), hl, Nat.sub_self, e, List.replicate_succ]; rfl
  · rw [List.set_append_right _ _ (by omega), hl, Nat.sub_self, e, List.replicate_succ, List.set_cons_zero]
    unfold nR
    rw [takeSnoc h, List.zipWith_append (by simp; omega), List.append_assoc]; rfl
theorem pick_snoc (a z : Nat × Nat × TObj) (T R : Objs) : Pick (a :: ((T ++ [z]) ++ R)) (z :: a :: (T ++ R)) := .perm (by
  have h : ((T ++ [z]) ++ R).Perm (z :: (T ++ R)) := by rw [List.append_assoc]; exact List.perm_middle
  exact (h.cons a).trans (List.Perm.swap z a _))
def clsMk (x : TClassInfo) (p : Nat × Nat) : List TV := [.str x.name, .int .i64 x.parent, .ms p.1 p.2 0 x.fields.length]
def clsOb (x : TClassInfo) : TObj := .row 1 (strR x.fields)
def codMk (x : TCode) (p : Nat × Nat) : List TV := [.bool x.block, .int .i64 x.params, .int .i64 x.slots, .ms p.1 p.2 0 x.instrs.length]
def codOb (x : TCode) : TObj := .row 4 (x.instrs.map (TInstr.tw 0))
section
variable {G : World → Prop}
theorem toStringS_own (hst : Stable G) (lo : Nat) (l : List ByteArray) (hn : l.length ≤ 1048576) : CtM Tryz.prog G 167 [.sl lo 1 (strR l)] [] (fun _ : Nat × Nat => True) (fun y => [(y.1, y.2, .row 1 (strR l))]) (fun y => .ms y.1 y.2 0 l.length) := by
  refine ctm_enter Tryz.func167 rfl Tryz.ntmps167 rfl rfl rfl fun w0 R gs objsR hG hR => ?_
  obtain rfl := hR.inv0
  clear hR
  have hlen := strR_len l
  have h0 := copyR_zero (fun s : ByteArray => [TV.str s]) [.str ⟨#[]⟩] l
  repeat' (first | ((with_reducible apply o_y); exact y_; rfl) | (refine e_make ?_; intro ss bb) | with_reducible refine al_none rfl ?_ | (with_reducible first | apply aw_seq | apply aw_region | apply al_nil | apply aq_then | apply aw_block))
  generalize ss = so; generalize bb = bo
  apply aw_loopk (X := Nat) [0, 3, 1000000] (fun i => [(4, .int .i64 (i : Int))]) (fun i => (so, bo, .row 1 (copyR (fun s : ByteArray => [TV.str s]) [.str ⟨#[]⟩] l i)) :: R) (fun i => i ≤ l.length) (fun i => l.length - i) 0 (Nat.zero_le _)
  exact kp_; (repeat (first | exact Weak.envNil | refine Weak.envCons we_ ?_))
  · rw [← h0]; exact .refl _
  intro i hi
  try dsimp only
  by_cases hlt : i < l.length
  · obtain ⟨hrow, hset⟩ := copyR_set (fun s : ByteArray => [TV.str s]) [.str ⟨#[]⟩] hlt
    have hra := strR_row hlt
    generalize l[i] = x at hset hra
    try dsimp only at hset
    repeat' (first | ((with_reducible apply o_y); exact y_; rfl) | refine e_store ?_ | with_reducible refine al_none rfl ?_ | (with_reducible first | apply aw_seq | apply aw_region | apply al_nil | apply aq_then | apply aw_block | apply aw_skip | apply aq_block) | (refine aw_cond_dt rfl rr_ dd_ ?_))
    refine aq_round (i + 1) (by omega) (by omega) (.of _ nw_ od_ (by rw [← hset]; exact .refl _))
  · obtain rfl : i = l.length := by omega
    rw [copyR_full]
    repeat' (first | ((with_reducible apply o_y); exact y_; rfl) | with_reducible refine al_none rfl ?_ | (with_reducible first | apply aw_seq | apply aw_region | apply al_nil | apply aq_then | apply aw_exit | apply aw_ret | apply aq_block_hit | apply aq_then_exit) | (refine aw_cond_df rfl rr_ dd_ ?_))
    exact aq_retm1 x_ rfl (so, bo) trivial rfl (.cons _ _ _ _ (.nil R)) pk_ (.tmp _ _ rfl) rfl
theorem toInstrS_own (hst : Stable G) (lo : Nat) (l : List TInstr) (hb : l.length ≤ 1048576 ∧ ∀ y ∈ l, TInstr.small 1048576 y) : CtM Tryz.prog G 186 [.sl lo 4 (l.map (TInstr.tw lo))] [] (fun _ : Nat × Nat => True) (fun y => [(y.1, y.2, .row 4 (l.map (TInstr.tw 0)))]) (fun y => .ms y.1 y.2 0 l.length) := by
  refine ctm_enter Tryz.func186 rfl Tryz.ntmps186 rfl rfl rfl fun w0 R gs objsR hG hR => ?_
  obtain rfl := hR.inv0
  clear hR
  have hlen := TInstr.len lo l
  have hl1 := hb.1
  have h0 := copyR_zero (TInstr.tw 0) TInstr.tz l
  repeat' (first | ((with_reducible apply o_y); exact y_; rfl) | (refine e_make ?_; intro ss bb) | with_reducible refine al_none rfl ?_ | (with_reducible first | apply aw_seq | apply aw_region | apply al_nil | apply aq_then | apply aw_block))
  generalize ss = so; generalize bb = bo
  apply aw_loopk (X := Nat) [0, 3, 1000000] (fun i => [(4, .int .i64 (i : Int))]) (fun i => (so, bo, .row 4 (copyR (TInstr.tw 0) TInstr.tz l i)) :: R) (fun i => i ≤ l.length) (fun i => l.length - i) 0 (Nat.zero_le _)
  exact kp_; (repeat (first | exact Weak.envNil | refine Weak.envCons we_ ?_))
  · rw [← h0]; exact .refl _
  intro i hi
  try dsimp only
  by_cases hlt : i < l.length
  · obtain ⟨hrow, hset⟩ := copyR_set (TInstr.tw 0) TInstr.tz hlt
    have hra : (l.map (TInstr.tw lo))[i]? = some (l[i].tw lo) := row_map hlt
    have hbi := hb.2 _ (List.getElem_mem hlt)
    generalize l[i] = x at hset hra hbi
    have hct := toInstr_ct hst lo x hbi
    unfold TInstr.tw at hct
    rw [show x.tw lo = [.int .i64 x.op, .int .i64 x.a, .int .i64 x.b, .str x.text] from rfl] at hra
    replace hrow : (copyR (TInstr.tw 0) TInstr.tz l i)[i]? = some [.int .i64 0, .int .i64 0, .int .i64 0, .str ⟨#[]⟩] := hrow
    repeat' (first | ((with_reducible apply o_y); exact y_; rfl) | refine e_call hG hst (hct) ?_ | refine e_store ?_ | with_reducible refine al_none rfl ?_ | (with_reducible first | apply aw_seq | apply aw_region | apply al_nil | apply aq_then | apply aw_block | apply aw_skip | apply aq_block) | (refine aw_cond_dt rfl rr_ dd_ ?_))
    refine aq_round (i + 1) (by omega) (by omega) (.of _ nw_ od_ (by rw [← hset]; exact .refl _))
  · obtain rfl : i = l.length := by omega
    rw [copyR_full]
    repeat' (first | ((with_reducible apply o_y); exact y_; rfl) | with_reducible refine al_none rfl ?_ | (with_reducible first | apply aw_seq | apply aw_region | apply al_nil | apply aq_then | apply aw_exit | apply aw_ret | apply aq_block_hit | apply aq_then_exit) | (refine aw_cond_df rfl rr_ dd_ ?_))
    exact aq_retm1 x_ rfl (so, bo) trivial rfl (.cons _ _ _ _ (.nil R)) pk_ (.tmp _ _ rfl) rfl
theorem toEntryS_own (hst : Stable G) (lo : Nat) (l : List TEntry) (hb : l.length ≤ 1048576 ∧ ∀ y ∈ l, TEntry.small 1048576 y) : CtM Tryz.prog G 38 [.sl lo 4 (l.map (TEntry.tw lo))] [] (fun _ : Nat × Nat => True) (fun y => [(y.1, y.2, .row 4 (l.map (TEntry.tw 0)))]) (fun y => .ms y.1 y.2 0 l.length) := by
  refine ctm_enter Tryz.func38 rfl Tryz.ntmps38 rfl rfl rfl fun w0 R gs objsR hG hR => ?_
  obtain rfl := hR.inv0
  clear hR
  have hlen := TEntry.len lo l
  have hl1 := hb.1
  have h0 := copyR_zero (TEntry.tw 0) TEntry.tz l
  repeat' (first | ((with_reducible apply o_y); exact y_; rfl) | (refine e_make ?_; intro ss bb) | with_reducible refine al_none rfl ?_ | (with_reducible first | apply aw_seq | apply aw_region | apply al_nil | apply aq_then | apply aw_block))
  generalize ss = so; generalize bb = bo
  apply aw_loopk (X := Nat) [0, 3, 1000000] (fun i => [(4, .int .i64 (i : Int))]) (fun i => (so, bo, .row 4 (copyR (TEntry.tw 0) TEntry.tz l i)) :: R) (fun i => i ≤ l.length) (fun i => l.length - i) 0 (Nat.zero_le _)
  exact kp_; (repeat (first | exact Weak.envNil | refine Weak.envCons we_ ?_))
  · rw [← h0]; exact .refl _
  intro i hi
  try dsimp only
  by_cases hlt : i < l.length
  · obtain ⟨hrow, hset⟩ := copyR_set (TEntry.tw 0) TEntry.tz hlt
    have hra : (l.map (TEntry.tw lo))[i]? = some (l[i].tw lo) := row_map hlt
    have hbi := hb.2 _ (List.getElem_mem hlt)
    generalize l[i] = x at hset hra hbi
    have hct := toEntry_ct hst lo x hbi
    unfold TEntry.tw at hct
    rw [show x.tw lo = [.int .i64 x.owner, .bool x.class_, .str x.selector, .int .i64 x.code] from rfl] at hra
    replace hrow : (copyR (TEntry.tw 0) TEntry.tz l i)[i]? = some [.int .i64 0, .bool false, .str ⟨#[]⟩, .int .i64 0] := hrow
    repeat' (first | ((with_reducible apply o_y); exact y_; rfl) | refine e_call hG hst (hct) ?_ | refine e_store ?_ | with_reducible refine al_none rfl ?_ | (with_reducible first | apply aw_seq | apply aw_region | apply al_nil | apply aq_then | apply aw_block | apply aw_skip | apply aq_block) | (refine aw_cond_dt rfl rr_ dd_ ?_))
    refine aq_round (i + 1) (by omega) (by omega) (.of _ nw_ od_ (by rw [← hset]; exact .refl _))
  · obtain rfl : i = l.length := by omega
    rw [copyR_full]
    repeat' (first | ((with_reducible apply o_y); exact y_; rfl) | with_reducible refine al_none rfl ?_ | (with_reducible first | apply aw_seq | apply aw_region | apply al_nil | apply aq_then | apply aw_exit | apply aw_ret | apply aq_block_hit | apply aq_then_exit) | (refine aw_cond_df rfl rr_ dd_ ?_))
    exact aq_retm1 x_ rfl (so, bo) trivial rfl (.cons _ _ _ _ (.nil R)) pk_ (.tmp _ _ rfl) rfl
theorem toClassInfo_own (hst : Stable G) (lo : Nat) (x : TClassInfo) (hb : x.small 1048576) : CtM Tryz.prog G 114 [.agg [.str x.name, .int .i64 x.parent, .sl lo 1 (strR x.fields)]] [] (fun _ : Nat × Nat => True) (fun y => [(y.1, y.2, .row 1 (strR x.fields))]) (fun y => .agg [.str x.name, .int .i64 x.parent, .ms y.1 y.2 0 x.fields.length]) := by
  refine ctm_enter Tryz.func114 rfl Tryz.ntmps114 rfl rfl rfl fun w0 R gs objsR hG hR => ?_
  obtain rfl := hR.inv0
  clear hR
  have hin := toStringS_own hst lo x.fields hb.2.1
  repeat' (first | ((with_reducible apply o_y); exact y_; rfl) | refine e_box ?_ | (refine e_alloc ?_; intro ss bb) | refine e_storep ?_ | ((with_reducible apply o_callM); rfl; kernel_rfl; (repeat (first | exact ArgsM.nil | ((with_reducible apply ArgsM.cons); rfl))); exact hG; exact hin; exact .nil _; intro y hy; refine al_app1 ?_) | with_reducible refine al_none rfl ?_ | (with_reducible first | apply aw_seq | apply aw_region | apply al_nil | apply aq_then | apply aw_ret))
  refine aq_retm1 x_ rfl y trivial rfl (.cons _ _ _ _ (.nil R)) pk_ (.cell _ _ _ _ _ rfl mm_ (by kernel_rfl) (by kernel_rfl) (by kernel_rfl)) rfl
theorem toClassInfoS_own (hst : Stable G) (lo : Nat) (l : List TClassInfo) (hb : l.length ≤ 1048576 ∧ ∀ y ∈ l, TClassInfo.small 1048576 y) : CtM Tryz.prog G 36 [.sl lo 3 (l.map (TClassInfo.tw lo))] [] (fun y : (Nat × Nat) × List (Nat × Nat) => y.2.length = l.length) (fun y => (y.1.1, y.1.2, .row 3 (nR clsMk l y.2)) :: nO clsOb l y.2) (fun y => .ms y.1.1 y.1.2 0 l.length) := by
  refine ctm_enter Tryz.func36 rfl Tryz.ntmps36 rfl rfl rfl fun w0 R gs objsR hG hR => ?_
  obtain rfl := hR.inv0
  clear hR
  have hlen := TClassInfo.len lo l
  have hl1 := hb.1
  have h0 : List.replicate l.length TClassInfo.tz = nR clsMk (l.take 0) [] ++ List.replicate (l.length - 0) TClassInfo.tz := by simp [nR]
  repeat' (first | ((with_reducible apply o_y); exact y_; rfl) | (refine e_make ?_; intro ss bb) | with_reducible refine al_none rfl ?_ | (with_reducible first | apply aw_seq | apply aw_region | apply al_nil | apply aq_then | apply aw_block))
  generalize ss = so; generalize bb = bo
  apply aw_loopk (X := Nat × List (Nat × Nat)) [0, 3, 1000000] (fun x => [(4, .int .i64 (x.1 : Int))]) (fun x => (so, bo, .row 3 (nR clsMk (l.take x.1) x.2 ++ List.replicate (l.length - x.1) TClassInfo.tz)) :: (nO clsOb (l.take x.1) x.2 ++ R)) (fun x => x.1 ≤ l.length ∧ x.2.length = x.1) (fun x => l.length - x.1) (0, []) ⟨Nat.zero_le _, rfl⟩
  exact kp_; (repeat (first | exact Weak.envNil | refine Weak.envCons we_ ?_))
  · rw [← h0]; exact .refl _
  rintro ⟨i, ps⟩ ⟨hi, hps⟩
  dsimp only at hi hps ⊢
  by_cases hlt : i < l.length
  · have hrs := fun p => nR_set clsMk TClassInfo.tz hlt hps p
    have hos := fun p => nO_snoc clsOb hlt hps p
    have hra : (l.map (TClassInfo.tw lo))[i]? = some (l[i].tw lo) := row_map hlt
    have hbi := hb.2 _ (List.getElem_mem hlt)
    generalize l[i] = x at hrs hos hra hbi
    have hct := toClassInfo_own hst lo x hbi
    rw [show x.tw lo = [.str x.name, .int .i64 x.parent, .sl lo 1 (strR x.fields)] from rfl] at hra
    have hrow : (nR clsMk (l.take i) ps ++ List.replicate (l.length - i) TClassInfo.tz)[i]? = some [.str ⟨#[]⟩, .int .i64 0, .nils] := (hrs (0, 0)).1
    generalize nO clsOb (l.take i) ps = T at hos ⊢
    repeat' (first | ((with_reducible apply o_y); exact y_; rfl) | ((with_reducible apply o_callM); rfl; kernel_rfl; (repeat (first | exact ArgsM.nil | ((with_reducible apply ArgsM.cons); rfl))); exact hG; exact hct; exact .nil _; intro y hy; refine al_app1 ?_) | refine e_store ?_ | with_reducible refine al_none rfl ?_ | (with_reducible first | apply aw_seq | apply aw_region | apply al_nil | apply aq_then | apply aw_block | apply aw_skip | apply aq_block) | (refine aw_cond_dt rfl rr_ dd_ ?_))
    refine aq_round (i + 1, ps ++ [y]) ⟨by dsimp only; omega, by dsimp only; simp [hps]⟩ (by dsimp only; omega) (.of _ nw_ od_ ?_)
    dsimp only
    rw [hos y, ← (hrs y).2]
    exact pick_snoc _ _ T R
  · obtain rfl : i = l.length := by omega
    rw [List.take_of_length_le (Nat.le_refl _), Nat.sub_self, List.replicate_zero, List.append_nil]
    repeat' (first | ((with_reducible apply o_y); exact y_; rfl) | with_reducible refine al_none rfl ?_ | (with_reducible first | apply aw_seq | apply aw_region | apply al_nil | apply aq_then | apply aw_exit | apply aw_ret | apply aq_block_hit | apply aq_then_exit) | (refine aw_cond_df rfl rr_ dd_ ?_))
    exact aq_retm1 x_ rfl ((so, bo), ps) hps rfl (.cons _ _ _ _ (.app _ R)) (.refl _) (.tmp _ _ rfl) rfl
theorem toCode_own (hst : Stable G) (lo : Nat) (x : TCode) (hb : x.small 1048576) : CtM Tryz.prog G 115 [.agg [.bool x.block, .int .i64 x.params, .int .i64 x.slots, .sl lo 4 (x.instrs.map (TInstr.tw lo))]] [] (fun _ : Nat × Nat => True) (fun y => [(y.1, y.2, .row 4 (x.instrs.map (TInstr.tw 0)))]) (fun y => .agg [.bool x.block, .int .i64 x.params, .int .i64 x.slots, .ms y.1 y.2 0 x.instrs.length]) := by
  refine ctm_enter Tryz.func115 rfl Tryz.ntmps115 rfl rfl rfl fun w0 R gs objsR hG hR => ?_
  obtain rfl := hR.inv0
  clear hR
  have hin := toInstrS_own hst lo x.instrs hb
  repeat' (first | ((with_reducible apply o_y); exact y_; rfl) | refine e_box ?_ | (refine e_alloc ?_; intro ss bb) | refine e_storep ?_ | ((with_reducible apply o_callM); rfl; kernel_rfl; (repeat (first | exact ArgsM.nil | ((with_reducible apply ArgsM.cons); rfl))); exact hG; exact hin; exact .nil _; intro y hy; refine al_app1 ?_) | with_reducible refine al_none rfl ?_ | (with_reducible first | apply aw_seq | apply aw_region | apply al_nil | apply aq_then | apply aw_ret))
  refine aq_retm1 x_ rfl y trivial rfl (.cons _ _ _ _ (.nil R)) pk_ (.cell _ _ _ _ _ rfl mm_ (by kernel_rfl) (by kernel_rfl) (by kernel_rfl)) rfl
theorem toCodeS_own (hst : Stable G) (lo : Nat) (l : List TCode) (hb : l.length ≤ 1048576 ∧ ∀ y ∈ l, TCode.small 1048576 y) : CtM Tryz.prog G 37 [.sl lo 4 (l.map (TCode.tw lo))] [] (fun y : (Nat × Nat) × List (Nat × Nat) => y.2.length = l.length) (fun y => (y.1.1, y.1.2, .row 4 (nR codMk l y.2)) :: nO codOb l y.2) (fun y => .ms y.1.1 y.1.2 0 l.length) := by
  refine ctm_enter Tryz.func37 rfl Tryz.ntmps37 rfl rfl rfl fun w0 R gs objsR hG hR => ?_
  obtain rfl := hR.inv0
  clear hR
  have hlen := TCode.len lo l
  have hl1 := hb.1
  have h0 : List.replicate l.length TCode.tz = nR codMk (l.take 0) [] ++ List.replicate (l.length - 0) TCode.tz := by simp [nR]
  repeat' (first | ((with_reducible apply o_y); exact y_; rfl) | (refine e_make ?_; intro ss bb) | with_reducible refine al_none rfl ?_ | (with_reducible first | apply aw_seq | apply aw_region | apply al_nil | apply aq_then | apply aw_block))
  generalize ss = so; generalize bb = bo
  apply aw_loopk (X := Nat × List (Nat × Nat)) [0, 3, 1000000] (fun x => [(4, .int .i64 (x.1 : Int))]) (fun x => (so, bo, .row 4 (nR codMk (l.take x.1) x.2 ++ List.replicate (l.length - x.1) TCode.tz)) :: (nO codOb (l.take x.1) x.2 ++ R)) (fun x => x.1 ≤ l.length ∧ x.2.length = x.1) (fun x => l.length - x.1) (0, []) ⟨Nat.zero_le _, rfl⟩
  exact kp_; (repeat (first | exact Weak.envNil | refine Weak.envCons we_ ?_))
  · rw [← h0]; exact .refl _
  rintro ⟨i, ps⟩ ⟨hi, hps⟩
  dsimp only at hi hps ⊢
  by_cases hlt : i < l.length
  · have hrs := fun p => nR_set codMk TCode.tz hlt hps p
    have hos := fun p => nO_snoc codOb hlt hps p
    have hra : (l.map (TCode.tw lo))[i]? = some (l[i].tw lo) := row_map hlt
    have hbi := hb.2 _ (List.getElem_mem hlt)
    generalize l[i] = x at hrs hos hra hbi
    have hct := toCode_own hst lo x hbi
    rw [show x.tw lo = [.bool x.block, .int .i64 x.params, .int .i64 x.slots, .sl lo 4 (x.instrs.map (TInstr.tw lo))] from rfl] at hra
    have hrow : (nR codMk (l.take i) ps ++ List.replicate (l.length - i) TCode.tz)[i]? = some [.bool false, .int .i64 0, .int .i64 0, .nils] := (hrs (0, 0)).1
    generalize nO codOb (l.take i) ps = T at hos ⊢
    repeat' (first | ((with_reducible apply o_y); exact y_; rfl) | ((with_reducible apply o_callM); rfl; kernel_rfl; (repeat (first | exact ArgsM.nil | ((with_reducible apply ArgsM.cons); rfl))); exact hG; exact hct; exact .nil _; intro y hy; refine al_app1 ?_) | refine e_store ?_ | with_reducible refine al_none rfl ?_ | (with_reducible first | apply aw_seq | apply aw_region | apply al_nil | apply aq_then | apply aw_block | apply aw_skip | apply aq_block) | (refine aw_cond_dt rfl rr_ dd_ ?_))
    refine aq_round (i + 1, ps ++ [y]) ⟨by dsimp only; omega, by dsimp only; simp [hps]⟩ (by dsimp only; omega) (.of _ nw_ od_ ?_)
    dsimp only
    rw [hos y, ← (hrs y).2]
    exact pick_snoc _ _ T R
  · obtain rfl : i = l.length := by omega
    rw [List.take_of_length_le (Nat.le_refl _), Nat.sub_self, List.replicate_zero, List.append_nil]
    repeat' (first | ((with_reducible apply o_y); exact y_; rfl) | with_reducible refine al_none rfl ?_ | (with_reducible first | apply aw_seq | apply aw_region | apply al_nil | apply aq_then | apply aw_exit | apply aw_ret | apply aq_block_hit | apply aq_then_exit) | (refine aw_cond_df rfl rr_ dd_ ?_))
    exact aq_retm1 x_ rfl ((so, bo), ps) hps rfl (.cons _ _ _ _ (.app _ R)) (.refl _) (.tmp _ _ rfl) rfl
end
end Go.Proofs.YthpdkhejeookhaaGreatDoor
