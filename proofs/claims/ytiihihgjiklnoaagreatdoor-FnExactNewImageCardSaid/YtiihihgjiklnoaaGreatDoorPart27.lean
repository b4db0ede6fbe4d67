/- Part 27 of the proof: the texts EngAF, CpA, CpB. -/
import Derived.Test.YtiihihgjiklnoaaGreatDoorPart26
import Derived.Test.YtiihihgjiklnoaaGreatDoorPart17
import Derived.Test.YtiihihgjiklnoaaGreatDoorPart21
/- The abstract walk, part 24: the steps of a drawn region that makes memory. Written by gen_eng3.py. -/
namespace Go.Proofs.YtiihihgjiklnoaaGreatDoor
open Go Go.RowKit
theorem ind1 {α : Type} {ops : Array Oper} {c : Nat} (f : Yu → α) : IndT ops c (fun p => f (p c)) := fun p p' h => by
  show f (p c) = f (p' c)
  rw [h c (.inl rfl)]
theorem srcO_none (L : List Mki) (p : Pt) : srcO L none p = [] := rfl
theorem ah_ {A : Prop} (h : A := by (first | exact .inl rfl | exact .inr ⟨by decide, by kernel_rfl⟩ | fail)) : A := h
theorem ind_ {A : Prop} (h : A := by (first | (intro p p' h; rfl) | (intro p p' h; (try dsimp only); (repeat rw [h _ ah_])) | fail)) : A := h
theorem inds_ {A : Prop} (h : A := by (first | (intro p p' h; rfl) | (intro p p' h; (try dsimp only); (repeat rw [h _ (by decide) ah_])) | fail)) : A := h
section
variable {P : Program} {w0 : World} {N : Nat} {Q : Exit → Act → World → Prop} {objs : Objs} {ops : Array Oper} {K : List Mki → (Pt → Env) → Prop} {c : Nat} {L : List Mki} {rest : List Oper} {E : Pt → Env} {d T0 : Nat} {pos : String} {af : Array Edge}
theorem m_q {op : Op} {T : Pt → TV} (hy : ∀ p R, (∀ x ∈ objs, x ∈ R) → Yd P w0 (E p) R ⟨some d, op, T0, pos, af, none⟩ (T p)) (hN : Nat.blt d N = true) (hi : IndT ops c T) (h : DM P w0 N ops objs K (c + 1) L rest (fun p => (d, T p) :: E p)) : DM P w0 N ops objs K c L (⟨some d, op, T0, pos, af, none⟩ :: rest) E :=
  .run c L _ rest E d T rfl hN rfl hi (fun p R hR => (hy p R hR).go) h
theorem m_litq {T n m : Nat} {ps : List (Nat × Operand)} {rows : Pt → List (List TV)} (hev : ∀ p, evL (E p) ps 0 = some (rows p)) (hN : Nat.blt d N = true) (hT : P.underlying T = some (.slice (P.elem T))) (hI : (zeroOk P (P.elem T)).isSome = true) (_hs : esT T = some m) (hm : P.cellsOf (P.elem T) = m) (hm0 : Nat.blt 0 m = true) (hn : ∀ p, (rows p).length = n) (hbig : Nat.ble (n * m) 16777216 = true) (hall : ∀ p, ((rows p).all fun r => Nat.beq r.length m) = true) (hi : IndT ops c rows)
    (h : DM P w0 N ops objs K (c + 1) L rest (fun p => (d, .sl w0.heap.size m (rows p)) :: E p)) : DM P w0 N ops objs K c L (⟨some d, .buildSlice T n ps.toArray, T0, pos, af, none⟩ :: rest) E :=
  .run c L _ rest E d (fun p => .sl w0.heap.size m (rows p)) rfl hN rfl (fun p p' h => by show TV.sl _ _ (rows p) = _; rw [hi p p' h]) (fun p R hR => y_lit rfl hT hI hm hm0 (hev p) (hn p) hbig (hall p)) h
theorem m_build {T : TypeId} {ps : List (Nat × Operand)} {zs : List TV} {l : Pt → List TV} (he : zT T = zs) (hb : ∀ p, TB P (E p) T ps zs (l p)) (hN : Nat.blt d N = true) (hz : zeroOk P T = some (zT T)) (hp : (placesOf P T).isSome = true) (hi : IndT ops c l)
    (h : DM P w0 N ops objs K (c + 1) L rest (fun p => (d, .agg (l p)) :: E p)) : DM P w0 N ops objs K c L (⟨some d, .build T ps.toArray, T0, pos, af, none⟩ :: rest) E :=
  .run c L _ rest E d (fun p => .agg (l p)) rfl hN rfl (fun p p' h => by show TV.agg (l p) = _; rw [hi p p' h]) (fun p R hR => y_build rfl hz hp (by rw [he]; exact hb p)) h
theorem m_alloc {T : TypeId} {zs : List TV} (hN : Nat.blt d N = true) (_he : zT T = zs) (hz : zeroOk P T = some zs)
    (h : DM P w0 N ops objs K (c + 1) (⟨c, fun p => [((p c).a, (p c).b, .box zs)], none, fun _ => True⟩ :: L) rest (fun p => (d, .mp (p c).a (p c).b 0) :: E p)) : DM P w0 N ops objs K c L (⟨some d, .alloc T, T0, pos, af, none⟩ :: rest) E :=
  .make c L _ rest E d (fun p => [((p c).a, (p c).b, .box zs)]) none (fun _ => True) (fun p => .mp (p c).a (p c).b 0) rfl hN rfl (ind1 fun y => TV.mp y.a y.b 0) (ind1 fun y => [(y.a, y.b, TObj.box zs)]) (fun _ h => by cases h) (fun p R hR => by
    have := mk_alloc (P := P) (w0 := w0) (env := E p) (R := R) (dd := some d) (T0 := T0) (pos := pos) (af := af) (g := none) hz
    simpa only [Pt.put_eq, srcO_none] using this) h
theorem m_own {T n m : Nat} {ps : List (Nat × Operand)} {rows : List (List TV)} (hev : ∀ p, evL (E p) ps 0 = some rows) (hN : Nat.blt d N = true) (hT : P.underlying T = some (.slice (P.elem T))) (hI : (zeroOk P (P.elem T)).isSome = true) (_hs : esT T = some m) (hm : P.cellsOf (P.elem T) = m) (hm0 : Nat.blt 0 m = true) (hn : rows.length = n) (hbig : Nat.ble (n * m) 16777216 = true) (hall : (rows.all fun r => Nat.beq r.length m) = true)
    (h : DM P w0 N ops objs K (c + 1) (⟨c, fun p => [((p c).a, (p c).b, .row m rows)], none, fun _ => True⟩ :: L) rest (fun p => (d, .ms (p c).a (p c).b 0 n) :: E p)) : DM P w0 N ops objs K c L (⟨some d, .buildSlice T n ps.toArray, T0, pos, af, none⟩ :: rest) E :=
  .make c L _ rest E d (fun p => [((p c).a, (p c).b, .row m rows)]) none (fun _ => True) (fun p => .ms (p c).a (p c).b 0 n) rfl hN rfl (ind1 fun y => TV.ms y.a y.b 0 n) (ind1 fun y => [(y.a, y.b, TObj.row m rows)]) (fun _ h => by cases h) (fun p R hR => by
    have := mk_lit (P := P) (w0 := w0) (env := E p) (R := R) (dd := some d) (T0 := T0) (pos := pos) (af := af) (g := none) hT hI hm hm0 (hev p) hn hbig hall
    simpa only [Pt.put_eq, srcO_none] using this) h
theorem m_app {T i len n m f : Nat} {x y : Operand} {rows rows2 news : List (List TV)} (hx : ∀ p, ev (E p) x = some (.ms (p i).a (p i).b 0 len)) (hy : ∀ p, ev (E p) y = some (.sl f m news)) (hN : Nat.blt d N = true) (hT : appOk P T m = true) (hsr : ∀ p, srcO L (some i) p = [((p i).a, (p i).b, .row m rows)]) (hl : rows.length = len) (hn : news.length = n) (hbig : len + n ≤ 1000000000) (hrows : rows ++ news = rows2)
    (hah : i ≠ c ∧ Ahead ops c i) (hfn : (fnd L i).isSome = true) (huse : ∀ m ∈ L, m.src ≠ some i)
    (h : DM P w0 N ops objs K (c + 1) (⟨c, fun p => [((p i).a, (p c).b, .row m rows2)], some i, fun _ => True⟩ :: L) rest (fun p => (d, .ms (p i).a (p c).b 0 (len + n)) :: E p)) : DM P w0 N ops objs K c L (⟨some d, .call { callee := .builtin .append, args := #[x, y], argTypes := #[T, T] }, T0, pos, af, none⟩ :: rest) E :=
  .make c L _ rest E d (fun p => [((p i).a, (p c).b, .row m rows2)]) (some i) (fun _ => True) (fun p => .ms (p i).a (p c).b 0 (len + n)) rfl hN rfl (fun p p' h => by show TV.ms (p i).a (p c).b 0 _ = TV.ms (p' i).a (p' c).b 0 _; rw [h c (.inl rfl), h i hah.2]) (fun p p' h => by show [((p i).a, (p c).b, TObj.row m rows2)] = [((p' i).a, (p' c).b, TObj.row m rows2)]; rw [h c (.inl rfl), h i hah.2])
    (fun j hj => by cases hj; exact ⟨fun _ => hah.2, hfn, huse⟩) (fun p R hR => by
    have := mk_append (P := P) (w0 := w0) (env := E p) (R := R) (dd := some d) (T0 := T0) (pos := pos) (af := af) (g := none) (hx p) (hy p) hT hl hn hbig hrows
    rw [hsr p]
    simpa only [Pt.put_eq, Pt.put_ne hah.1] using this) h
theorem m_app0 {T i n m f : Nat} {x y : Operand} {news : List (List TV)} (hx : ∀ p, ev (E p) x = some (.ms (p i).a (p i).b 0 0)) (hy : ∀ p, ev (E p) y = some (.sl f m news)) (hN : Nat.blt d N = true) (hT : appOk P T m = true) (hsr : ∀ p, srcO L (some i) p = [((p i).a, (p i).b, .row m [])]) (hn : news.length = n) (hbig : n ≤ 1000000000)
    (hah : i ≠ c ∧ Ahead ops c i) (hfn : (fnd L i).isSome = true) (huse : ∀ m ∈ L, m.src ≠ some i)
    (h : DM P w0 N ops objs K (c + 1) (⟨c, fun p => [((p i).a, (p c).b, .row m news)], some i, fun _ => True⟩ :: L) rest (fun p => (d, .ms (p i).a (p c).b 0 n) :: E p)) : DM P w0 N ops objs K c L (⟨some d, .call { callee := .builtin .append, args := #[x, y], argTypes := #[T, T] }, T0, pos, af, none⟩ :: rest) E :=
  m_app hx hy hN hT hsr rfl hn (by omega) (List.nil_append _) hah hfn huse (by simpa only [Nat.zero_add] using h)
theorem m_app1 {T s b len n m f : Nat} {x y : Operand} {rows : List (List TV)} {news rows2 : Pt → List (List TV)} (hx : ∀ p, ev (E p) x = some (.ms s b 0 len)) (hy : ∀ p, ev (E p) y = some (.sl f m (news p))) (hN : Nat.blt d N = true) (hT : appOk P T m = true) (hsr : ∀ p, srcO L (some 1000000) p = [(s, b, .row m rows)]) (hl : rows.length = len) (hn : ∀ p, (news p).length = n) (hbig : len + n ≤ 1000000000) (hrows : ∀ p, rows ++ news p = rows2 p)
    (hcs : ops.size < 1000000 ∧ c < 1000000) (hi : ∀ p p' : Pt, (∀ m, m ≠ c → Ahead ops c m → p m = p' m) → rows2 p = rows2 p') (hfn : (fnd L 1000000).isSome = true) (huse : ∀ m ∈ L, m.src ≠ some 1000000)
    (h : DM P w0 N ops objs K (c + 1) (⟨c, fun p => [(s, (p c).b, .row m (rows2 p))], some 1000000, fun _ => True⟩ :: L) rest (fun p => (d, .ms s (p c).b 0 (len + n)) :: E p)) : DM P w0 N ops objs K c L (⟨some d, .call { callee := .builtin .append, args := #[x, y], argTypes := #[T, T] }, T0, pos, af, none⟩ :: rest) E :=
  .make c L _ rest E d (fun p => [(s, (p c).b, .row m (rows2 p))]) (some 1000000) (fun _ => True) (fun p => .ms s (p c).b 0 (len + n)) rfl hN rfl (fun p p' h => by show TV.ms s (p c).b 0 _ = TV.ms s (p' c).b 0 _; rw [h c (.inl rfl)]) (fun p p' h => by show [(s, (p c).b, TObj.row m (rows2 p))] = [(s, (p' c).b, TObj.row m (rows2 p'))]; rw [h c (.inl rfl), hi p p' fun m _ ha => h m ha])
    (fun j hj => by cases hj; exact ⟨fun h => by omega, hfn, huse⟩) (fun p R hR => by
    have := mk_append (P := P) (w0 := w0) (env := E p) (R := R) (dd := some d) (T0 := T0) (pos := pos) (af := af) (g := none) (hx p) (hy p) hT hl (hn p) hbig (hrows p)
    rw [hsr p]
    have hr2 : ∀ y, rows2 (p.put c y) = rows2 p := fun y => hi _ _ fun m hne _ => Pt.put_ne hne
    simpa only [Pt.put_eq, hr2] using this) h
theorem m_call {G : World → Prop} {f : Nat} {xs : List Operand} {ts : Array TypeId} {args : List TV} {Y : Type} [Enc Y] {I : Y → Prop} {O : Y → Objs} {r : Y → TV} (hG : G w0) (hst : Stable G) (hct : CtM P G f args [] I O r) (hN : Nat.blt d N = true) (hc : callB P f = true) (hargs : ∀ p, Args (E p) objs xs args) (hnew : ∀ y, I y → (∀ s b o, (s, b, o) ∈ O y → ObjNew (O y) o) ∧ NewOk (O y) (r y))
    (h : DM P w0 N ops objs K (c + 1) (⟨c, fun p => O (Enc.dec (p c)), none, fun y => I (Enc.dec y)⟩ :: L) rest (fun p => (d, r (Enc.dec (p c))) :: E p)) : DM P w0 N ops objs K c L (⟨some d, .call { callee := .value (.func f), args := xs.toArray, argTypes := ts }, T0, pos, af, none⟩ :: rest) E :=
  .make c L _ rest E d (fun p => O (Enc.dec (p c))) none (fun y => I (Enc.dec y)) (fun p => r (Enc.dec (p c))) rfl hN rfl (ind1 fun y => r (Enc.dec y)) (ind1 fun y => O (Enc.dec y)) (fun _ h => by cases h) (fun p R hR => by
    have := mk_call (P := P) (w0 := w0) (env := E p) (R := R) (dd := some d) (T0 := T0) (pos := pos) (af := af) (g := none) (ts := ts) hc hct (hargs p) hR hG hst hnew
    simpa only [Pt.put_eq, srcO_none] using this) h
end
theorem o_append0 {P : Program} {w0 : World} {N : Nat} {Q : Exit → Act → World → Prop} {env : Env} {objs : Objs} {ops : Array Oper} {rest : List Oper} {d T0 : Nat} {pos : String} {af : Array Edge} {g : Option (Nat × Bool)} {objsOf : Nat → Objs} {T s b n m : Nat} {x y : Operand} {f : Nat} {news : List (List TV)} (hN : Nat.blt d N = true) (hx : ev env x = some (.ms s b 0 0)) (hy : ev env y = some (.sl f m news)) (hT : appOk P T m = true) (hm : (s, b, TObj.row m []) ∈ objs) (hn : news.length = n) (hbig : n ≤ 1000000000) (hu : ∀ b2, Upd (s, b, .row m []) (s, b2, .row m news) objs (objsOf b2)) (h : ∀ b2, AL P w0 N ops Q rest ((d, .ms s b2 0 n) :: env) (objsOf b2)) : AO P w0 N ops Q ⟨some d, .call { callee := .builtin .append, args := #[x, y], argTypes := #[T, T] }, T0, pos, af, g⟩ rest env objs :=
  o_append hN hx hy hT hm rfl hn (by omega) (List.nil_append _) hu (fun b2 => by simpa only [Nat.zero_add] using h b2)
theorem ym_ {A : Prop} (h : A := by (first | (intro p R hR; (try dsimp only); (first | ((with_reducible first | apply Y_move | apply Y_assign | apply Y_nilCheck_cp); rfl) | ((with_reducible apply Y_pick_t); rfl; (with_reducible rfl); rfl) | ((with_reducible apply Y_pick_f); rfl; (with_reducible rfl); rfl) | ((with_reducible apply Y_load_me); rfl; kernel_rfl; rfl; (exact hR _ mm_); (first | (with_reducible assumption) | (refine row_map ?_; omega) | (refine set_row ?_; simp only [List.length_set, List.length_map]; omega) | exact rfl | assumption); rfl) | ((with_reducible apply Y_load_cp); rfl; kernel_rfl; rfl; rfl) | ((with_reducible apply Y_load_mp); rfl; kernel_rfl; rfl; (exact hR _ mm_); rfl) | ((with_reducible apply Y_fieldAddr); rfl; kernel_rfl; rfl) | ((with_reducible apply Y_indexAddr); rfl; rfl; kernel_rfl; kernel_rfl; kernel_rfl; rfl; (first | (with_reducible first | exact rfl | exact nat0 | exact nat1 | exact nat2 | exact nat3) | exact rfl | exact nat_sub (by omega) | omega); (first | (with_reducible assumption) | (refine row_map ?_; omega) | (refine set_row ?_; simp only [List.length_set, List.length_map]; omega) | exact rfl | assumption)) | ((with_reducible apply Y_indexAddr_ms); rfl; rfl; (exact hR _ mm_); kernel_rfl; kernel_rfl; kernel_rfl; (first | (with_reducible first | exact rfl | exact nat0 | exact nat1 | exact nat2 | exact nat3) | exact rfl | exact nat_sub (by omega) | omega); (first | assumption | omega); (first | with_reducible exact Nat.zero_add _ | rfl)) | ((with_reducible apply Y_len_s); rfl; kernel_rfl) | ((with_reducible apply Y_len_sl); rfl; kernel_rfl; (first | exact List.length_map _ | rfl)) | ((with_reducible apply Y_len_ms); rfl; kernel_rfl) | ((with_reducible apply Y_len_nils); rfl; kernel_rfl) | ((with_reducible first | apply Y_eql | apply Y_neq | apply Y_lss | apply Y_leq | apply Y_gtr | apply Y_geq | apply Y_extract | apply Y_or | apply Y_and); rfl; rfl) | ((with_reducible first | apply Y_add | apply Y_sub | apply Y_mul); rfl; rfl; (first | ((with_reducible first | refine w_n1 ?_ | refine w_n2 ?_ | refine w_nn ?_ | refine w_nm1 ?_ | refine IntWalk.i64_in _ ?_ | refine w_u8 _ ?_); omega) | ((with_reducible refine IntWalk.i64_in _ ?_); omega) | (with_reducible assumption) | exact rfl)) | ((with_reducible apply Y_index_s); rfl; rfl; kernel_rfl; (first | (with_reducible first | exact rfl | exact nat0 | exact nat1 | exact nat2 | exact nat3) | exact rfl | exact nat_sub (by omega) | omega); (first | assumption | omega)) | ((with_reducible apply Y_not_t); rfl; (with_reducible rfl)) | ((with_reducible apply Y_not_f); rfl; (with_reducible rfl)) | ((with_reducible apply Y_not); rfl; (with_reducible rfl)) | ((with_reducible apply Y_not_b); rfl; (with_reducible rfl)) | ((with_reducible first | apply Y_eql_s | apply Y_neq_s); rfl; rfl) | ((with_reducible apply Y_conv_int); rfl; rfl; kernel_rfl; kernel_rfl; (first | ((with_reducible first | refine w_n1 ?_ | refine w_n2 ?_ | refine w_nn ?_ | refine w_nm1 ?_ | refine IntWalk.i64_in _ ?_ | refine w_u8 _ ?_); omega) | ((with_reducible refine IntWalk.i64_in _ ?_); omega) | (with_reducible assumption) | exact rfl)) | ((with_reducible apply Y_nilCheck_mp); rfl; (exact hR _ mm_)) | ((with_reducible apply Y_nilCheck_me); rfl; (exact hR _ mm_); (first | (with_reducible assumption) | (refine row_map ?_; omega) | (refine set_row ?_; simp only [List.length_set, List.length_map]; omega) | exact rfl | assumption)) | ((with_reducible apply Y_load_agg_me); rfl; kernel_rfl; kernel_rfl; kernel_rfl; rfl; (exact hR _ mm_); (first | (with_reducible assumption) | (refine row_map ?_; omega) | (refine set_row ?_; simp only [List.length_set, List.length_map]; omega) | exact rfl | assumption); (first | exact .zero _ | exact .succ _ _ _ _ (.zero _) | exact .succ _ _ _ _ (.succ _ _ _ _ (.zero _)) | exact .succ _ _ _ _ (.succ _ _ _ _ (.succ _ _ _ _ (.zero _))) | exact .succ _ _ _ _ (.succ _ _ _ _ (.succ _ _ _ _ (.succ _ _ _ _ (.zero _)))) | (repeat (first | exact .zero _ | apply Taken.succ)))) | ((with_reducible apply Y_load_agg_cp); rfl; kernel_rfl; kernel_rfl; kernel_rfl; rfl; (first | exact .zero _ | exact .succ _ _ _ _ (.zero _) | exact .succ _ _ _ _ (.succ _ _ _ _ (.zero _)) | exact .succ _ _ _ _ (.succ _ _ _ _ (.succ _ _ _ _ (.zero _))) | exact .succ _ _ _ _ (.succ _ _ _ _ (.succ _ _ _ _ (.succ _ _ _ _ (.zero _)))) | (repeat (first | exact .zero _ | apply Taken.succ)))) | ((with_reducible apply Y_load_agg_mp); rfl; kernel_rfl; kernel_rfl; kernel_rfl; rfl; (exact hR _ mm_); (first | exact .zero _ | exact .succ _ _ _ _ (.zero _) | exact .succ _ _ _ _ (.succ _ _ _ _ (.zero _)) | exact .succ _ _ _ _ (.succ _ _ _ _ (.succ _ _ _ _ (.zero _))) | exact .succ _ _ _ _ (.succ _ _ _ _ (.succ _ _ _ _ (.succ _ _ _ _ (.zero _)))) | (repeat (first | exact .zero _ | apply Taken.succ)))) | ((with_reducible apply Y_field); rfl; kernel_rfl; kernel_rfl; rfl) | ((with_reducible apply Y_slice_lh); rfl; rfl; rfl; kernel_rfl; (first | (with_reducible first | exact rfl | exact nat0 | exact nat1 | exact nat2 | exact nat3) | exact rfl | exact nat_sub (by omega) | omega); (first | (with_reducible first | exact rfl | exact nat0 | exact nat1 | exact nat2 | exact nat3) | exact rfl | exact nat_sub (by omega) | omega); (first | assumption | omega); (first | assumption | omega)) | ((with_reducible apply Y_slice_l); rfl; rfl; kernel_rfl; (first | (with_reducible first | exact rfl | exact nat0 | exact nat1 | exact nat2 | exact nat3) | exact rfl | exact nat_sub (by omega) | omega); (first | assumption | omega)) | ((with_reducible apply Y_slice_h); rfl; rfl; kernel_rfl; (first | (with_reducible first | exact rfl | exact nat0 | exact nat1 | exact nat2 | exact nat3) | exact rfl | exact nat_sub (by omega) | omega); (first | assumption | omega)) | ((with_reducible apply Y_quo); rfl; rfl; omega; (first | ((with_reducible first | refine w_n1 ?_ | refine w_n2 ?_ | refine w_nn ?_ | refine w_nm1 ?_ | refine IntWalk.i64_in _ ?_ | refine w_u8 _ ?_); omega) | ((with_reducible refine IntWalk.i64_in _ ?_); omega) | (with_reducible assumption) | exact rfl)) | ((with_reducible apply Y_rem); rfl; rfl; omega; exact rfl) | ((with_reducible apply Y_add_s); rfl; rfl; (first | assumption | omega)) | ((with_reducible first | apply Y_eql_b | apply Y_neq_b); rfl; rfl; kernel_rfl) | ((with_reducible apply Y_shl); rfl; rfl; omega) | ((with_reducible first | apply Y_eql_a | apply Y_neq_a); rfl; rfl; kernel_rfl))) | fail)) : A := h
end Go.Proofs.YtiihihgjiklnoaaGreatDoor
/- Copies of a code base that the caller owns: the program's copyClasses. -/
namespace Go.Proofs.YtiihihgjiklnoaaGreatDoor
set_option maxRecDepth 20000
open Go Go.RowKit
theorem nR_snoc {α : Type} (mk : α → Nat × Nat → List TV) {l : List α} {ps : List (Nat × Nat)} {i : Nat} (h : i < l.length) (hp : ps.length = i) (p : Nat × Nat) : nR mk (l.take i) ps ++ [mk l[i] p] = nR mk (l.take (i + 1)) (ps ++ [p]) := by
  unfold nR
  rw [takeSnoc h, List.zipWith_append (by rw [List.length_take]; omega)]; rfl
section
variable {G : World → Prop}
theorem copyClasses_own (_hst : Stable G) (lo : Nat) (l : List TClassInfo) (hb : l.length ≤ 1048576 ∧ ∀ y ∈ l, TClassInfo.small 1048576 y) : CtM Tryz.prog G 141 [.sl lo 3 (l.map (TClassInfo.tw lo))] [] (fun y : (Nat × Nat) × List (Nat × Nat) => y.2.length = l.length) (fun y => (y.1.1, y.1.2, .row 3 (nR clsMk l y.2)) :: nO clsOb l y.2) (fun y => .ms y.1.1 y.1.2 0 l.length) := by
  refine ctm_enter Tryz.func141 rfl Tryz.ntmps141 rfl rfl rfl fun w0 R gs objsR hG hR => ?_
  obtain rfl := hR.inv0
  clear hR
  have hlen := TClassInfo.len lo l
  have hl1 := hb.1
  repeat' (first | refine W_ ?_ | (refine e_own ?_; intro ss bb) | refine c_ (fun hc => ?_) (fun hc => ?_) | refine g_ (fun hg => ?_) (fun hg => ?_))
  generalize ss = so; generalize bb = bo
  apply aw_loopk (X := Nat × Nat × List (Nat × Nat)) [7, 8, 1000000] (fun x => [(9, .int .i64 (x.1 : Int)), (3, .ms so x.2.1 0 x.1)]) (fun x => (so, x.2.1, .row 3 (nR clsMk (l.take x.1) x.2.2)) :: (nO clsOb (l.take x.1) x.2.2 ++ R)) (fun x => x.1 ≤ l.length ∧ x.2.2.length = x.1) (fun x => l.length - x.1) (0, bo, []) ⟨Nat.zero_le _, rfl⟩
  exact kp_; exact nw_
  · exact .refl _
  rintro ⟨i, bo, ps⟩ ⟨hi, hps⟩
  dsimp only at hi hps ⊢
  by_cases hlt : i < l.length
  · have hrs := fun p => nR_snoc clsMk hlt hps p
    have hos := fun p => nO_snoc clsOb hlt hps p
    have hra : (l.map (TClassInfo.tw lo))[i]? = some (l[i].tw lo) := row_map hlt
    have hrl : (nR clsMk (l.take i) ps).length = i := by rw [nR_len _ (by rw [List.length_take]; omega), List.length_take]; omega
    have hbi := hb.2 _ (List.getElem_mem hlt)
    generalize l[i] = x at hrs hos hra hbi
    rw [show x.tw lo = [.str x.name, .int .i64 x.parent, .sl lo 1 (strR x.fields)] from rfl] at hra
    have hsl := strR_len x.fields
    have hf := hbi.2.1
    generalize nO clsOb (l.take i) ps = T at hos ⊢
    repeat' (first | refine W_ ?_ | (refine e_alloc ?_; intro ss bb) | refine e_storep ?_ | ((with_reducible apply o_own (n := 0)); rfl; rfl; kernel_rfl; kernel_rfl; rfl; kernel_rfl; rfl; rfl; rfl; rfl; intro ss bb) | refine e_lit ?_ | ((with_reducible apply o_append0); rfl; rfl; rfl; kernel_rfl; (repeat (first | with_reducible exact mh | with_reducible refine mt ?_)); (first | with_reducible assumption | exact bytR_length _ | exact intR_length _ | exact strR_length _ | exact List.length_map _ | assumption | rfl); omega; (intro bq; (repeat (first | with_reducible exact Upd.head _ | with_reducible apply Upd.tail))); intro bb) | ((with_reducible apply o_append); rfl; rfl; rfl; kernel_rfl; (repeat (first | with_reducible exact mh | with_reducible refine mt ?_)); exact hrl; (first | (show List.length _ = 1; rfl) | (show List.length _ = 2; rfl) | (show List.length _ = 0; rfl) | (show List.length _ = 3; rfl) | (first | with_reducible assumption | exact bytR_length _ | exact intR_length _ | exact strR_length _ | exact List.length_map _ | assumption | rfl)); omega; exact hrs (_, _); (intro bq; (repeat (first | with_reducible exact Upd.head _ | with_reducible apply Upd.tail))); intro bb) | refine c_ (fun hc => ?_) (fun hc => ?_) | refine g_ (fun hg => ?_) (fun hg => ?_))

    rename_i s5 b5 _ bx
    generalize ss = sx
    refine aq_pick (objs' := (sx, bx, .row 1 (strR x.fields)) :: (so, bb, .row 3 (nR clsMk (l.take (i + 1)) (ps ++ [(sx, bx)]))) :: (T ++ R)) pk_ ?_
    refine aq_round (i + 1, bb, ps ++ [(sx, bx)]) ⟨by dsimp only; omega, by dsimp only; simp [hps]⟩ (by dsimp only; omega) (.of _ nw_ od_ ?_)
    dsimp only
    rw [hos (sx, bx)]
    exact pick_snoc _ _ T R
  · obtain rfl : i = l.length := by omega
    rw [List.take_of_length_le (Nat.le_refl _)]
    repeat' (first | refine W_ ?_ | refine c_ (fun hc => ?_) (fun hc => ?_) | refine g_ (fun hg => ?_) (fun hg => ?_))
    exact aq_retm1 x_ rfl ((so, bo), ps) hps rfl (.cons _ _ _ _ (.app _ R)) (.refl _) (.tmp _ _ rfl) rfl
end
end Go.Proofs.YtiihihgjiklnoaaGreatDoor
/- Copies of a code base that the caller owns: the program's copyBase. -/
namespace Go.Proofs.YtiihihgjiklnoaaGreatDoor
set_option maxRecDepth 20000
open Go Go.RowKit
theorem zip_mem {α β γ : Type} {f : α → β → γ} {l : List α} {ps : List β} {z : γ} (h : z ∈ List.zipWith f l ps) : ∃ x p, f x p = z ∧ ∀ {δ : Type} (g : α → β → δ), g x p ∈ List.zipWith g l ps := by
  induction l generalizing ps with
  | nil => simp at h
  | cons a l ih =>
    cases ps with
    | nil => simp at h
    | cons q ps =>
      rw [List.zipWith_cons_cons, List.mem_cons] at h
      rcases h with rfl | h
      · exact ⟨a, q, rfl, fun g => by rw [List.zipWith_cons_cons]; exact List.mem_cons_self⟩
      · obtain ⟨x, p, h1, h2⟩ := ih h
        exact ⟨x, p, h1, fun g => by rw [List.zipWith_cons_cons]; exact List.mem_cons_of_mem _ (h2 g)⟩
theorem nest_new {α : Type} {mk : α → Nat × Nat → List TV} {ob : α → TObj} {m s b n : Nat} (hmk : ∀ x p objs, (p.1, p.2, ob x) ∈ objs → ∀ t ∈ mk x p, NewOk objs t) (hob : ∀ x objs, ObjNew objs (ob x)) (l : List α) (ps : List (Nat × Nat)) :
    (∀ s' b' o, (s', b', o) ∈ (s, b, TObj.row m (nR mk l ps)) :: nO ob l ps → ObjNew ((s, b, TObj.row m (nR mk l ps)) :: nO ob l ps) o) ∧ NewOk ((s, b, TObj.row m (nR mk l ps)) :: nO ob l ps) (.ms s b 0 n) := by
  refine ⟨fun s' b' o h => ?_, .ms _ _ _ _ _ _ List.mem_cons_self⟩
  rcases List.mem_cons.1 h with h | h
  · simp only [Prod.mk.injEq] at h
    obtain ⟨_, _, rfl⟩ := h
    intro t ht
    obtain ⟨r, hr, htr⟩ := List.mem_flatten.1 ht
    obtain ⟨x, p, rfl, hg⟩ := zip_mem hr
    exact hmk x p _ (List.mem_cons_of_mem _ (hg fun x p => (p.1, p.2, ob x))) t htr
  · obtain ⟨x, p, he, _⟩ := zip_mem h
    simp only [Prod.mk.injEq] at he
    obtain ⟨_, _, rfl⟩ := he
    exact hob x _
theorem clsMk_new (x : TClassInfo) (p : Nat × Nat) (objs : Objs) (h : (p.1, p.2, clsOb x) ∈ objs) : ∀ t ∈ clsMk x p, NewOk objs t := fun t ht => by
  simp only [clsMk, List.mem_cons, List.not_mem_nil, or_false] at ht
  rcases ht with rfl | rfl | rfl
  · exact .flat _ rfl
  · exact .flat _ rfl
  · exact .ms _ _ _ _ _ _ h
theorem clsOb_new (x : TClassInfo) (objs : Objs) : ObjNew objs (clsOb x) := flat_new (strR_flat _)
theorem pick_snoc2 (a b z : Nat × Nat × TObj) (T R : Objs) : Pick (a :: b :: ((T ++ [z]) ++ R)) (z :: a :: b :: (T ++ R)) := .perm (by
  have h : ((T ++ [z]) ++ R).Perm (z :: (T ++ R)) := by
    rw [List.append_assoc]
    exact List.perm_middle
  exact ((h.cons b).cons a).trans (((List.Perm.swap z b _).cons a).trans (List.Perm.swap z a _)))
theorem pick_cp (a e z2 z3 : Nat × Nat × TObj) (C A R : Objs) : Pick (z2 :: z3 :: a :: (A ++ (e :: (C ++ R)))) (z3 :: a :: (A ++ (e :: (C ++ (z2 :: R))))) := .perm (by
  have h : ((z3 :: a :: A) ++ (e :: C) ++ z2 :: R).Perm (z2 :: ((z3 :: a :: A) ++ (e :: C) ++ R)) := List.perm_middle
  simpa using h.symm)
theorem perm_cp (a e : Nat × Nat × TObj) (C A R : Objs) : ((C ++ ((a :: A) ++ [e])) ++ R).Perm (a :: (A ++ (e :: (C ++ R)))) := by
  rw [List.append_assoc, List.append_assoc]
  refine (List.perm_append_comm_assoc C (a :: A) ([e] ++ R)).trans ?_
  exact List.Perm.append_left (a :: A) (List.perm_append_comm_assoc C [e] R)
section
variable {G : World → Prop}
set_option maxHeartbeats 1000000 in
theorem implCopyBase_own (hst : Stable G) (lo : Nat) (x : TCodeBase) (hb : x.small 1048576) : CtM Tryz.prog G 140 [.agg (x.tw lo)] [] (cbI x) (cbO x) (fun y => .agg (cbC x y)) := by
  refine ctm_enter Tryz.func140 rfl Tryz.ntmps140 rfl rfl rfl fun w0 R gs objsR hG hR => ?_
  obtain rfl := hR.inv0
  clear hR
  have c1 := copyClasses_own hst lo x.classes hb.1
  have n1 := fun (y : (Nat × Nat) × List (Nat × Nat)) (_ : y.2.length = x.classes.length) => nest_new (m := 3) (s := y.1.1) (b := y.1.2) (n := x.classes.length) clsMk_new clsOb_new x.classes y.2
  have hel := TEntry.len lo x.entries
  have he1 := hb.2.2.1
  unfold TCodeBase.tw
  repeat' (first | refine W_ ?_ | refine e_box ?_ | (refine e_alloc ?_; intro ss bb) | ((with_reducible apply aw_drawM (id := 1) 11); kernel_rfl; kernel_rfl; kernel_rfl; rfl; (repeat (first | exact Cut.zero _ | apply Cut.succ))) | ((with_reducible apply m_q); exact ym_; rfl; exact ind_) | ((with_reducible apply m_build); rfl; (intro p; try dsimp only); (repeat (first | exact TB.nil _ | ((with_reducible apply TB.cons); rfl; rfl; (first | exact .nil _ | exact .put _ _ _ _ _ (.nil _) | exact .skip _ _ _ _ _ (.put _ _ _ _ _ (.nil _)) | exact .skip _ _ _ _ _ (.skip _ _ _ _ _ (.put _ _ _ _ _ (.nil _))) | (repeat (first | exact .nil _ | apply Splice.put | apply Splice.skip))); kernel_rfl))); rfl; kernel_rfl; kernel_rfl; exact ind_) | ((with_reducible apply m_alloc); rfl; rfl; kernel_rfl) | ((with_reducible apply m_own); (intro p; rfl); rfl; kernel_rfl; kernel_rfl; rfl; kernel_rfl; rfl; rfl; rfl; rfl) | ((with_reducible apply m_app0); (intro p; rfl); (intro p; rfl); rfl; kernel_rfl; (intro p; rfl); (first | with_reducible assumption | exact bytR_length _ | exact intR_length _ | exact strR_length _ | exact List.length_map _ | assumption | rfl); omega; exact ⟨by decide, ah_⟩; rfl; (focus (simp; done))) | ((with_reducible apply m_call hG hst c1); rfl; kernel_rfl; (intro p; (repeat (first | exact Args.nil | ((with_reducible apply Args.cons); rfl; exact .same _)))); exact n1) | (with_reducible refine DM.nil _ _ _ ?_) | refine c_ (fun hc => ?_) (fun hc => ?_) | refine g_ (fun hg => ?_) (fun hg => ?_))
  generalize ss = s2; generalize bb = b2
  intro p hp
  simp only [List.forall_mem_cons] at hp
  obtain ⟨_, _, _, hI, _⟩ := hp
  refine al_obj (objs' := ((p 10).a, (p 10).b, .box [.nils, .nils, .nils, .int .i64 0]) :: ((p 3).a, (p 6).b, .row 4 (x.entries.map (TEntry.tw lo))) :: (clsO x.classes (Enc.dec (p 2)) ++ ((s2, b2, .box [.nils, .nils, .nils, .int .i64 0]) :: R))) (by rw [show liveL _ = [_, _, _] from rfl]; simp only [List.flatMap_cons, List.flatMap_nil, List.append_nil, List.cons_append, List.nil_append]; rfl) ?_
  dsimp only [Nat.reduceAdd] at hI ⊢
  generalize (Enc.dec (p 2) : (Nat × Nat) × List (Nat × Nat)) = yc at hI ⊢
  generalize Yu.a (p 10) = s3
  generalize Yu.b (p 10) = b3
  generalize Yu.a (p 3) = se
  generalize Yu.b (p 6) = be
  have hcl := TCode.len lo x.codes
  have hc1 := hb.2.1.1
  have hsm := hb.2.1.2
  repeat' (first | refine W_ ?_ | refine e_storep ?_ | refine c_ (fun hc => ?_) (fun hc => ?_) | refine g_ (fun hg => ?_) (fun hg => ?_))
  refine aw_nilC 1 4 (by decide) rfl fun sc => ?_
  obtain ⟨RR, hRR⟩ : ∃ RR : Objs, RR = ((se, be, .row 4 (x.entries.map (TEntry.tw 0))) :: (clsO x.classes yc ++ ((s2, b2, TObj.box [.nils, .nils, .nils, .int .i64 0]) :: R))) := ⟨_, rfl⟩
  refine aw_pick (objs' := (s3, b3, .box [.ms yc.1.1 yc.1.2 0 x.classes.length, .ms sc 0 0 0, .ms se be 0 x.entries.length, .int .i64 x.main]) :: (sc, 0, .row 4 []) :: RR) (by rw [hRR]; exact .refl _) ?_
  apply aw_loopk (X := Nat × Nat × List (Nat × Nat)) [2, 3, 17, 18, 1000000] (fun y => [(19, .int .i64 (y.1 : Int))])
    (fun y => (s3, b3, .box [.ms yc.1.1 yc.1.2 0 x.classes.length, .ms sc y.2.1 0 y.1, .ms se be 0 x.entries.length, .int .i64 x.main]) :: (sc, y.2.1, .row 4 (nR codMk (x.codes.take y.1) y.2.2)) :: (nO codOb (x.codes.take y.1) y.2.2 ++ RR))
    (fun y => y.1 ≤ x.codes.length ∧ y.2.2.length = y.1) (fun y => x.codes.length - y.1) (0, 0, []) ⟨Nat.zero_le _, rfl⟩
  exact kp_; exact nw_
  · exact .refl _
  rintro ⟨i, bc, ps⟩ ⟨hi, hps⟩
  dsimp only at hi hps ⊢
  by_cases hlt : i < x.codes.length
  · have hrs := fun p => nR_snoc codMk hlt hps p
    have hos := fun p => nO_snoc codOb hlt hps p
    have hra : (x.codes.map (TCode.tw lo))[i]? = some (x.codes[i].tw lo) := row_map hlt
    have hrl : (nR codMk (x.codes.take i) ps).length = i := by rw [nR_len _ (by rw [List.length_take]; omega), List.length_take]; omega
    have hbi := hsm _ (List.getElem_mem hlt)
    generalize x.codes[i] = c at hrs hos hra hbi
    have hil : c.instrs.length ≤ 1048576 := hbi.1
    rw [show c.tw lo = [.bool c.block, .int .i64 c.params, .int .i64 c.slots, .sl lo 4 (c.instrs.map (TInstr.tw lo))] from rfl] at hra
    generalize nO codOb (x.codes.take i) ps = T at hos ⊢
    repeat' (first | refine W_ ?_ | (refine e_alloc ?_; intro ss bb) | refine e_storep ?_ | ((with_reducible apply o_own (n := 0)); rfl; rfl; kernel_rfl; kernel_rfl; rfl; kernel_rfl; rfl; rfl; rfl; rfl; intro ss bb) | refine e_lit ?_ | ((with_reducible apply o_append0); rfl; rfl; rfl; kernel_rfl; (repeat (first | with_reducible exact mh | with_reducible refine mt ?_)); (first | with_reducible assumption | exact bytR_length _ | exact intR_length _ | exact strR_length _ | exact List.length_map _ | assumption | rfl); omega; (intro bq; (repeat (first | with_reducible exact Upd.head _ | with_reducible apply Upd.tail))); intro bb) | ((with_reducible apply o_append); rfl; rfl; rfl; kernel_rfl; (repeat (first | with_reducible exact mh | with_reducible refine mt ?_)); exact hrl; (first | (show List.length _ = 1; rfl) | (show List.length _ = 2; rfl) | (show List.length _ = 0; rfl) | (show List.length _ = 3; rfl) | (first | with_reducible assumption | exact bytR_length _ | exact intR_length _ | exact strR_length _ | exact List.length_map _ | assumption | rfl)); omega; exact hrs (_, _); (intro bq; (repeat (first | with_reducible exact Upd.head _ | with_reducible apply Upd.tail))); intro bb) | refine c_ (fun hc => ?_) (fun hc => ?_) | refine g_ (fun hg => ?_) (fun hg => ?_))
    rename_i s5 b5 _ bx
    generalize ss = sx
    refine aq_pick (objs' := (sx, bx, .row 4 (c.instrs.map (TInstr.tw 0))) :: (s3, b3, .box [.ms yc.1.1 yc.1.2 0 x.classes.length, .ms sc bb 0 (i + 1), .ms se be 0 x.entries.length, .int .i64 x.main]) :: (sc, bb, .row 4 (nR codMk (x.codes.take (i + 1)) (ps ++ [(sx, bx)]))) :: (T ++ RR)) pk_ ?_
    refine aq_round (i + 1, bb, ps ++ [(sx, bx)]) ⟨by dsimp only; omega, by dsimp only; simp [hps]⟩ (by dsimp only; omega) (.of _ nw_ od_ ?_)
    dsimp only
    rw [hos (sx, bx)]
    exact pick_snoc2 _ _ _ T RR
  · obtain rfl : i = x.codes.length := by omega
    rw [List.take_of_length_le (Nat.le_refl _), hRR]
    refine aw_pick (pick_cp _ _ _ _ _ _ _) ?_
    repeat' (first | refine W_ ?_ | refine e_storep ?_ | refine c_ (fun hc => ?_) (fun hc => ?_) | refine g_ (fun hg => ?_) (fun hg => ?_))
    exact aq_retm1 (t1 := .agg [.ms yc.1.1 yc.1.2 0 x.classes.length, .ms sc bc 0 x.codes.length, .ms se be 0 x.entries.length, .int .i64 x.main]) x_ rfl (yc, ((sc, bc), ps), (se, be)) ⟨hI, hps⟩ rfl (.app _ R) (.drop (.drop (.perm (perm_cp _ _ _ _ R)))) (.cell _ _ _ _ _ rfl mm_ (by kernel_rfl) (by kernel_rfl) (by kernel_rfl)) rfl
end
end Go.Proofs.YtiihihgjiklnoaaGreatDoor
