/- Part 14 of the proof: the texts EngW, EngX, EngY. -/
import Derived.Test.YtiihihgjiklnoaaGreatDoorPart13
import Derived.Laws.MakeOwn
/- The abstract walk, part 14: the rest of an owned row, make. -/
namespace Go.Proofs.YtiihihgjiklnoaaGreatDoor
open Go Go.RowKit
section
variable {P : Program} {w0 : World} {N : Nat} {Q : Exit → Act → World → Prop} {env : Env} {objs : Objs} {o : Oper}
theorem y_slice_ms {T : TypeId} {x lo : Operand} {s b off len m : Nat} {rows : List (List TV)} {k1 : IntKind} {n : Int} {i : Nat} (ho : o.op = .slice T x (some lo) none none) (hx : ev env x = some (.ms s b off len)) (hlo : ev env lo = some (.int k1 n))
    (hobj : (s, b, TObj.row m rows) ∈ objs) (hT : P.underlying T = some (.slice (P.elem T))) (hI : (P.info? (P.elem T)).isSome = true) (hm : P.cellsOf (P.elem T) = m) (hn : n = (i : Int)) (hi : i ≤ len) :
    Yields P w0 env objs o (.ms s b (off + i) (len - i)) := yields_same fun a w hw hop => by
  have h0 := hop x (slice_opnd ho) _ hx
  have h1 := (hop lo (by simp [ho, Op.operands]) _ hlo).int_inv
  have huniq : ∀ m' rows', (s, b, TObj.row m' rows') ∈ objs → m' = m := fun m' rows' h' => by
    have key : ∀ (l : Objs), List.Pairwise (fun (x y : Nat × Nat × TObj) => x.1 ≠ y.1 ∧ (x.2.1 ≠ y.2.1 ∨ x.2.1 = 0)) l → (s, b, TObj.row m rows) ∈ l → (s, b, TObj.row m' rows') ∈ l → m' = m := fun l => by
      induction l with
      | nil => intro _ h; simp at h
      | cons z l ih =>
        intro hp h1 h2
        obtain ⟨g1, g2⟩ := List.pairwise_cons.1 hp
        rcases List.mem_cons.1 h1 with e1 | h1'
        · rcases List.mem_cons.1 h2 with e2 | h2'
          · rw [← e1] at e2
            simp only [Prod.mk.injEq, TObj.row.injEq] at e2
            exact e2.2.2.1
          · exact absurd (by rw [← e1]) (g1 _ h2').1
        · rcases List.mem_cons.1 h2 with e2 | h2'
          · exact absurd (by rw [← e2]) (g1 _ h1').1
          · exact ih g2 h1' h2'
    exact key objs hw.sites hobj h'
  generalize hv : a.eval x = v at h0
  cases h0 with
  | ms s b off len v h =>
    have hor := h.or
    obtain ⟨⟨hb, hmk, _⟩, _⟩ := h
    cases hie : P.info? (P.elem T) with
    | none => rw [hie] at hI; cases hI
    | some ie =>
    rcases hor m rows hobj with ⟨e0, e1, e2, e3⟩ | ⟨hb0, q, c, e, nn, h2, h3, h4, h5, h6⟩
    · subst e0; subst e1; subst e2; subst e3
      obtain rfl : i = 0 := by omega
      refine ⟨.slice none 0 0, ?_, .ms s 0 0 0 _ (.mk ⟨hb, hmk, none, 0, by simp⟩ (fun _ _ _ => .inl ⟨rfl, rfl, rfl, rfl⟩) (fun _ => ⟨rfl, rfl, rfl⟩))⟩
      simp only [execOp, ho, h1, hv, Option.map_some, Option.map_none]
      refine exec_v ?_
      rw [run_sliceAt_slice w T _ _ _ _ hT, run_slice_l w T none 0 0 hT k1 n (by omega) (by omega), run_sizeOf w hie]
      subst hn
      simp [Result.andThen_ok, sliced]
    · subst h2
      refine ⟨.slice (if c = i then some ⟨b, q, none⟩ else some ⟨b, q + i * m, none⟩) (len - i) (c - i), ?_, .ms s b (off + i) (len - i) _ (.mk ⟨hb, hmk, _, _, rfl⟩ (fun m' rows' hm' => .inr ⟨hb0, if c = i then q else q + i * m, c - i, e, nn, ?_, by omega, h4, ?_, fun hor => ?_⟩) (fun h0 => absurd h0 hb0))⟩
      · simp only [execOp, ho, h1, hv, Option.map_some, Option.map_none]
        refine exec_v ?_
        rw [run_sliceAt_slice w T _ _ _ _ hT, run_slice_l w T _ len c hT k1 n (by omega) (by omega), run_sizeOf w hie, hm]
        subst hn
        simp [Result.andThen_ok, sliced, Addr.add_lit]
      · split <;> rfl
      · obtain rfl := huniq m' rows' hm'
        rw [h5]; congr 1; omega
      · obtain rfl := huniq m' rows' hm'
        by_cases hc : c = i
        · rw [if_pos hc]
          have : off = 0 := by omega
          have h7 := h6 (.inr this)
          rw [h7]; congr 1; omega
        · rw [if_neg hc]
          have h7 := h6 (.inl (by omega))
          rw [h7, Nat.add_mul]
theorem o_slice_ms {ops : Array Oper} {rest : List Oper} {d T0 : Nat} {pos : String} {af : Array Edge} {g : Option (Nat × Bool)} {T : TypeId} {x lo : Operand} {s b off len m : Nat} {rows : List (List TV)} {k1 : IntKind} {n : Int} {i : Nat} (hN : Nat.blt d N = true) (hx : ev env x = some (.ms s b off len)) (hlo : ev env lo = some (.int k1 n))
    (hobj : (s, b, TObj.row m rows) ∈ objs) (hT : P.underlying T = some (.slice (P.elem T))) (hI : (P.info? (P.elem T)).isSome = true) (hm : P.cellsOf (P.elem T) = m) (hn : n = (i : Int)) (hi : i ≤ len) (h : AL P w0 N ops Q rest ((d, .ms s b (off + i) (len - i)) :: env) objs) :
    AO P w0 N ops Q ⟨some d, .slice T x (some lo) none none, T0, pos, af, g⟩ rest env objs := ao_q rfl hN (y_slice_ms rfl hx hlo hobj hT hI hm hn hi) h
theorem flat_rep {zs : List TV} {m : Nat} (hm : zs.length = m) (hm0 : 0 < m) : ∀ (n j : Nat) (t : TV), (List.replicate n zs).flatten[j]? = some t → j < n * m ∧ zs[j % m]? = some t
  | 0, j, t, h => by simp at h
  | n + 1, j, t, h => by
    rw [List.replicate_succ, List.flatten_cons] at h
    by_cases hj : j < m
    · rw [List.getElem?_append_left (by omega)] at h
      rw [Nat.mod_eq_of_lt hj]
      refine ⟨?_, h⟩
      rw [Nat.succ_mul]; omega
    · rw [List.getElem?_append_right (by omega), hm] at h
      obtain ⟨h1, h2⟩ := flat_rep hm hm0 n (j - m) t h
      refine ⟨by rw [Nat.succ_mul]; omega, ?_⟩
      rw [Nat.mod_eq_sub_mod (by omega)]; exact h2
def makeB (P : Program) (T m : Nat) : Bool := match P.info? (P.elem T) with
  | some i => Nat.beq i.size m && Nat.ble i.bytes 1024
  | none => false
theorem ao_make {ops : Array Oper} {rest : List Oper} {d : Nat} {T : TypeId} {x : Operand} {k : IntKind} {mi : Int} {n m : Nat} {zs : List TV} (ho : o.op = .makeSlice T x x) (hd : o.dst = some d) (hN : Nat.blt d N = true) (hx : ev env x = some (.int k mi)) (hn : mi = (n : Int))
    (hT : P.underlying T = some (.slice (P.elem T))) (hz : zeroOk P (P.elem T) = some zs) (hm : zs.length = m) (hm0 : Nat.blt 0 m = true) (hB : makeB P T m = true) (hbig : n ≤ 1000000000)
    (h : ∀ ss b, AL P w0 N ops Q rest ((d, .ms ss b 0 n) :: env) ((ss, b, .row m (List.replicate n zs)) :: objs)) : AO P w0 N ops Q o rest env objs := ⟨fun a w K hs hK => by
    obtain ⟨ss, hf⟩ := site_new objs
    have hm0' : 0 < m := Nat.blt_eq ▸ hm0
    have hv := (ev_sim hs hx).int_inv
    unfold zeroOk at hz
    cases hie : P.info? (P.elem T) with
    | none => rw [hie] at hz; cases hz
    | some i =>
    rw [hie] at hz
    simp only [Option.bind_some] at hz
    cases hzz : i.zero with
    | none => rw [hzz] at hz; cases hz
    | some z =>
    rw [hzz] at hz
    simp only [Option.bind_some] at hz
    have hB' : i.size = m ∧ i.bytes ≤ 1024 := by
      unfold makeB at hB
      rw [hie] at hB
      simp only [Bool.and_eq_true] at hB
      exact ⟨Nat.eq_of_beq_eq_true hB.1, Nat.le_of_ble_eq_true hB.2⟩
    have hrep := fun (w : World) (objs : Objs) => tvL_rep (w := w) (objs := objs) hz
    have hzl : z.cells.size = m := by
      have := (hrep w []).1.1
      rw [← hm, this]; simp
    have hbytes : (i.bytes : Int) * (n : Int) ≤ 281474976710656 := by
      have h1 : i.bytes * n ≤ 1024 * 1000000000 := Nat.mul_le_mul hB'.2 hbig
      have h2 : ((i.bytes * n : Nat) : Int) ≤ ((1024 * 1000000000 : Nat) : Int) := Int.ofNat_le.2 h1
      rw [Int.natCast_mul] at h2
      omega
    have hst := fun cs => step_new hs.mem cs (P.elem T) ss (.row m (List.replicate n zs))
    have hrun : (execOp a.eval o).run P w = .ok (.value (.slice (some ⟨w.heap.size, 0, none⟩) n n)) (w.alloc (.cells (madeCells z.cells (n * m)) (P.elem T))) := by
      simp only [execOp, ho, hv, hn]
      refine exec_v ?_
      rw [run_make w T (P.elem T) i z hT hie hzz k k (n : Int) (n : Int) (by omega) (by omega) hbytes (by omega), hB'.1]
      simp
    unfold Oper.wp
    rw [hrun]
    refine hK _ _ ?_
    rw [hd]
    have hb0 : w.heap.size ≠ 0 := Nat.ne_of_gt (Nat.lt_of_lt_of_le hs.mem.pos hs.mem.below.size)
    have hcs : (madeCells z.cells (n * m)).size = n * m := size_madeCells _ _
    refine (h ss w.heap.size).run _ _ (hs.putNew hN (.ms _ _ _ _ _ (.mk ⟨by simp, noMark_new hs.mem #[] 0 ss _, _, _, rfl⟩ (fun m' rows' hm' => .inr ⟨hb0, 0, n, P.elem T, n * m, rfl, Nat.le_refl _, by unfold World.shape?; rw [heap_alloc_new]; simp [hcs], ?_, fun _ => by simp⟩) (fun h0 => absurd h0 hb0))) (hs.mem.newObj hf ⟨⟨hm0', fun t ht => ?_⟩, fun r hr => by rw [List.eq_of_mem_replicate hr]; exact hm, .inr ⟨hs.mem.below.size, madeCells z.cells (n * m), P.elem T, n, heap_alloc_new w _, hcs, by simp, by simp only [maxLen]; omega, fun j t hj => ?_⟩⟩) (hst _))
    · rcases List.mem_cons.1 hm' with he | hm'
      · simp only [Prod.mk.injEq, TObj.row.injEq] at he; rw [he.2.2.1]; simp
      · exact absurd (objs_lt hs.mem hm') (Nat.lt_irrefl _)
    · obtain ⟨r, hr, htr⟩ := List.mem_flatten.1 ht
      rw [List.eq_of_mem_replicate hr] at htr
      exact (hrep w []).1.2 t htr
    · obtain ⟨h1, h2⟩ := flat_rep hm hm0' n j t hj
      have hjm : j % m < z.cells.size := by rw [hzl]; exact Nat.mod_lt _ hm0'
      refine ⟨z.cells[j % m], ?_, (hrep _ _).2 (j % m) t _ h2 (by simp [hjm])⟩
      unfold madeCells
      rw [Array.getElem?_map, Array.getElem?_range]
      simp [h1, hzl]
      exact getElem!_pos z.cells (j % m) hjm⟩
theorem o_make {ops : Array Oper} {rest : List Oper} {d T0 : Nat} {pos : String} {af : Array Edge} {g : Option (Nat × Bool)} {T : TypeId} {x : Operand} {k : IntKind} {mi : Int} {n m : Nat} {zs : List TV} (hN : Nat.blt d N = true) (hx : ev env x = some (.int k mi)) (_he : ezT T = zs) (hn : mi = (n : Int))
    (hT : P.underlying T = some (.slice (P.elem T))) (hz : zeroOk P (P.elem T) = some zs) (hm : zs.length = m) (hm0 : Nat.blt 0 m = true) (hB : makeB P T m = true) (hbig : n ≤ 1000000000)
    (h : ∀ ss b, AL P w0 N ops Q rest ((d, .ms ss b 0 n) :: env) ((ss, b, .row m (List.replicate n zs)) :: objs)) : AO P w0 N ops Q ⟨some d, .makeSlice T x x, T0, pos, af, g⟩ rest env objs := ao_make rfl rfl hN hx hn hT hz hm hm0 hB hbig h
end
end Go.Proofs.YtiihihgjiklnoaaGreatDoor
/- The abstract walk, part 15: a state that says less, a loop whose fixed slots are named, a nil slice that is to grow. -/
namespace Go.Proofs.YtiihihgjiklnoaaGreatDoor
open Go Go.RowKit
section
variable {P : Program} {w0 : World} {N : Nat} {Q : Exit → Act → World → Prop} {env : Env} {objs objs' : Objs}
theorem Sim.pick {a : Act} {w : World} (h : Sim w0 N env objs a w) (k : Pick objs' objs) : Sim w0 N env objs' a w := h.weak ⟨fun _ _ h => h, k⟩
theorem aq_pick {x : Exit} (k : Pick objs' objs) (h : AQ w0 N Q x env objs') : AQ w0 N Q x env objs := ⟨fun a w hs => h.run a w (hs.pick k)⟩
theorem aw_pick {c : Code} (k : Pick objs' objs) (h : AW P w0 N c Q env objs') : AW P w0 N c Q env objs := ⟨fun a w hs => h.run a w (hs.pick k)⟩
theorem al_pick {ops : Array Oper} {rest : List Oper} (k : Pick objs' objs) (h : AL P w0 N ops Q rest env objs') : AL P w0 N ops Q rest env objs := ⟨fun a w hs => h.run a w (hs.pick k)⟩
theorem al_obj {ops : Array Oper} {rest : List Oper} (k : objs = objs') (h : AL P w0 N ops Q rest env objs') : AL P w0 N ops Q rest env objs := k ▸ h

/-- Where the walk is to stand still. -/
structure Held (p : Prop) : Prop where
  go : p
theorem aw_hold_r {id : Nat} {ops : Array Oper} {b : Bool} {y : Code} (h : Held (AW P w0 N (.seq (.region id ops b) y) Q env objs)) : AW P w0 N (.seq (.region id ops b) y) Q env objs := h.go
theorem al_app0 {ops : Array Oper} {rest : List Oper} {l : Objs} (h : AL P w0 N ops Q rest env l) : AL P w0 N ops Q rest env ([] ++ l) := h
theorem al_app1 {ops : Array Oper} {rest : List Oper} {x : Nat × Nat × TObj} {l : Objs} (h : AL P w0 N ops Q rest env (x :: l)) : AL P w0 N ops Q rest env ([x] ++ l) := h
theorem al_app2 {ops : Array Oper} {rest : List Oper} {x y : Nat × Nat × TObj} {l : Objs} (h : AL P w0 N ops Q rest env (x :: y :: l)) : AL P w0 N ops Q rest env ([x, y] ++ l) := h
theorem o_append_q {objsOf : Nat → List (List TV) → Objs} {ops : Array Oper} {rest : List Oper} {d T0 : Nat} {pos : String} {af : Array Edge} {g : Option (Nat × Bool)} {T s b off len n m : Nat} {x y : Operand} {f : Nat} {rows live news : List (List TV)} (hN : Nat.blt d N = true) (hx : ev env x = some (.ms s b off len)) (hy : ev env y = some (.sl f m news)) (hT : appOk P T m = true) (_hm : (s, b, TObj.row m rows) ∈ objs)
    (hlive : (rows.drop off).take len = live) (hl : off + len ≤ rows.length) (hn : news.length = n) (hbig : len + n ≤ 1000000000) (hu : ∀ b2 pre, Upd (s, b, .row m rows) (s, b2, .row m (pre ++ (live ++ news))) objs (objsOf b2 pre)) (h : ∀ b2 pre, AL P w0 N ops Q rest ((d, .ms s b2 pre.length (len + n)) :: env) (objsOf b2 pre)) :
    AO P w0 N ops Q ⟨some d, .call { callee := .builtin .append, args := #[x, y], argTypes := #[T, T] }, T0, pos, af, g⟩ rest env objs := ao_append_q rfl rfl hN hx hy hT hl hn hbig hlive hu fun b2 pre _ => h b2 pre
/-- The slots that are kept. -/
inductive Kept (env : Env) : List Nat → Env → Prop
  | nil : Kept env [] []
  | cons (t : Nat) (v : TV) (l : List Nat) (e : Env) (h : lk t env = some v) (hr : Kept env l e) : Kept env (t :: l) ((t, v) :: e)
theorem Kept.weak {l : List Nat} {e : Env} (h : Kept env l e) : ∀ t v, lk t e = some v → lk t env = some v := by
  induction h with
  | nil => exact Weak.envNil
  | cons t v l e h hr ih => exact Weak.envCons h ih
theorem lk_app {t : Nat} : ∀ {e1 e2 : Env} {v : TV}, lk t (e1 ++ e2) = some v → lk t e1 = some v ∨ lk t e2 = some v
  | [], _, _, h => .inr h
  | (s, u) :: r, e2, v, h => by
    rw [List.cons_append, lk_cons] at h
    rw [lk_cons]
    split at h
    · rename_i e; rw [if_pos e]; exact .inl h
    · rename_i e; rw [if_neg e]; exact lk_app h
theorem Weak.of (new : Env) {e1 : Env} (h1 : ∀ t v, lk t new = some v → lk t env = some v) (h2 : ∀ t v, lk t e1 = some v → lk t env = some v) (hp : Pick objs' objs) : Weak env objs (new ++ e1) objs' :=
  ⟨fun t v h => (lk_app h).elim (h1 t v) (h2 t v), hp⟩
/-- A loop: the slots of 'keep' stay, those of 'new' are as the state says. -/
theorem aw_loopk {X : Type} {body : Code} (keep : List Nat) (new : X → Env) (O : X → Objs) (I : X → Prop) (μ : X → Nat) (x0 : X) (h0 : I x0) {e1 : Env} (hk : Kept env keep e1) (hw : ∀ t v, lk t (new x0) = some v → lk t env = some v) (hp : Pick (O x0) objs)
    (round : ∀ x, I x → AW P w0 N body (Exit.then (AInv w0 N (fun x => new x ++ e1) O I μ (μ x)) Q) (new x ++ e1) (O x)) : AW P w0 N (.loop body) Q env objs :=
  aw_loop (fun x => new x ++ e1) O I μ x0 h0 (.of _ hw hk.weak hp) round
theorem aw_hold_b {id : Nat} {c : Code} (h : Held (AW P w0 N (.block id c) Q env objs)) : AW P w0 N (.block id c) Q env objs := h.go
/-- Ways that meet again behind x. -/
theorem aw_join {X : Type} {x z : Code} (keep : List Nat) (new : X → Env) (O : X → Objs) (I : X → Prop) {e1 : Env} (hk : Kept env keep e1) (h1 : AW P w0 N x (Exit.then (AMid w0 N (fun x => new x ++ e1) O I) Q) env objs) (h2 : ∀ y, I y → AW P w0 N z Q (new y ++ e1) (O y)) : AW P w0 N x (Exit.then (z.wp P Q) Q) env objs := ⟨fun a w hs => by
  refine wp_mono (h1.run a w hs) fun e a' w' hq => ?_
  cases e with
  | normal =>
    obtain ⟨y, hy, hs'⟩ := hq
    exact (h2 y hy).run a' w' hs'
  | exit id => exact hq
  | goto l => exact hq
  | ret => exact hq
  | panic c => exact hq
  | outgrown => exact hq⟩

theorem lk_ms {t : Nat} {env : Env} {s b off m n : Nat} (h : lk t env = some (.ms s b off m)) (e : m = n) : lk t env = some (.ms s b off n) := e ▸ h
theorem lk_ms2 {t : Nat} {env : Env} {s b off m off' n : Nat} (h : lk t env = some (.ms s b off m)) (e0 : off = off') (e : m = n) : lk t env = some (.ms s b off' n) := e0 ▸ e ▸ h
inductive DelS (s b : Nat) (o : TObj) : Objs → Objs → Prop
  | head (l : Objs) : DelS s b o ((s, b, o) :: l) l
  | tail (s' b' : Nat) (o' : TObj) (l l' : Objs) (h : DelS s b o l l') : DelS s b o ((s', b', o') :: l) ((s', b', o') :: l')
theorem DelS.del {s b : Nat} {o : TObj} {l l' : Objs} (h : DelS s b o l l') : Del (s, b, o) l l' := by
  induction h with
  | head l => exact .head l
  | tail s' b' o' l l' h ih => exact .tail _ _ _ ih
theorem Pick.consE {s b : Nat} {o o' : TObj} {l l1 objs : Objs} (hd : DelS s b o' objs l1) (h : o = o') (k : Pick l l1) : Pick ((s, b, o) :: l) objs := h ▸ .cons hd.del k

/-- A nil slice is a row of nothing that the call owns. -/
theorem step_nil (w : World) (ss m : Nat) (hm : 0 < m) : Step w objs w ((ss, 0, .row m []) :: objs) :=
  ⟨fun _ _ _ => rfl, fun b _ ha => ⟨ha.1, by
    obtain ⟨h0, s, o, hm⟩ := ha
    rcases List.mem_cons.1 hm with he | hm
    · simp only [Prod.mk.injEq] at he; omega
    · exact ⟨s, o, hm⟩⟩, fun s b m' rows _ hb hm' => by
    rcases List.mem_cons.1 hm' with he | hm'
    · simp only [Prod.mk.injEq] at he; omega
    · exact ⟨⟨rows, hm'⟩, rfl⟩, Nat.le_refl _, fun hk => by
    rcases List.mem_cons.1 hk with he | hk
    · simp only [marker, Prod.mk.injEq, TObj.row.injEq] at he; omega
    · exact hk⟩
theorem SimW.nil {w : World} (hw : SimW w0 objs w) {ss m : Nat} (hm : 0 < m) (hs : ∀ x ∈ objs, x.1 ≠ ss) : SimW w0 ((ss, 0, .row m []) :: objs) w :=
  ⟨hw.below, hw.pos, fun s b o h => by
    rcases List.mem_cons.1 h with he | h
    · simp only [Prod.mk.injEq] at he
      obtain ⟨rfl, rfl, rfl⟩ := he
      exact ⟨⟨hm, by simp⟩, by simp, .inl ⟨rfl, rfl⟩⟩
    · exact (hw.obj s b o h).step (step_nil w ss m hm) rfl, List.pairwise_cons.2 ⟨fun y hy => ⟨(hs y hy).symm, .inr rfl⟩, hw.sites⟩⟩
theorem Sim.nil {a : Act} {w : World} (h : Sim w0 N env objs a w) {t : Nat} (m : Nat) (hm : 0 < m) (ht : lk t env = some .nils) : ∃ ss, Sim w0 N ((t, .ms ss 0 0 0) :: env) ((ss, 0, .row m []) :: objs) a w := by
  obtain ⟨ss, hss⟩ := site_new objs
  have hpos : 0 < w.heap.size := Nat.lt_of_lt_of_le h.mem.pos h.mem.below.size
  have hw := h.mem.nil hm hss
  refine ⟨ss, h.defers, h.size, hw, fun t' v hv => ?_⟩
  rw [lk_cons] at hv
  split at hv
  · rename_i e
    subst e
    simp only [Option.some.injEq] at hv
    subst hv
    have h1 := h.env _ _ ht
    generalize a.tmps.getD t undef = u at h1
    cases h1
    exact .ms ss 0 0 0 _ (.mk ⟨hpos, hw.noMark, none, 0, rfl⟩ (fun _ _ _ => .inl ⟨rfl, rfl, rfl, rfl⟩) fun _ => ⟨rfl, rfl, rfl⟩)
  · exact (h.env t' v hv).step (step_nil w ss m hm)
theorem aq_nils {x : Exit} (t m : Nat) (hm : 0 < m) (ht : lk t env = some .nils) (h : ∀ ss, AQ w0 N Q x ((t, .ms ss 0 0 0) :: env) ((ss, 0, .row m []) :: objs)) : AQ w0 N Q x env objs := ⟨fun a w hs => by
  obtain ⟨ss, h1⟩ := hs.nil m hm ht
  exact (h ss).run a w h1⟩
end
end Go.Proofs.YtiihihgjiklnoaaGreatDoor
/- The abstract walk, part 16: contracts of functions that turn what their caller owns, or give back what is owned. -/
namespace Go.Proofs.YtiihihgjiklnoaaGreatDoor
open Go Go.RowKit

/-- A contract: from what is listed in objs the call makes what O lists, whatever else the caller owns (R), and all values (gs) go on standing for what they stood for. -/
def CtM (P : Program) (G : World → Prop) (f : FuncId) (args : List TV) (objs : Objs) {Y : Type} (I : Y → Prop) (O : Y → Objs) (r : Y → TV) : Prop :=
  ∀ (w0 w : World) (R : Objs) (gs : List (TV × Value)) (vs : Array Value), G w0 → SimW w0 (objs ++ R) w → Rep w (objs ++ R) (.gh gs) undef → vs.size = args.length → (∀ (i : Nat) (t : TV) (v : Value), args[i]? = some t → vs[i]? = some v → Rep w (objs ++ R) t v) →
    Calls P f vs w fun e w' => ∃ v y, e = .returned v ∧ I y ∧ SimW w0 (O y ++ R) w' ∧ Rep w' (O y ++ R) (.gh gs) undef ∧ Rep w' (O y ++ R) (r y) v
inductive AppO : Objs → Objs → Objs → Prop
  | nil (R : Objs) : AppO [] R R
  | cons (x : Nat × Nat × TObj) (l R l' : Objs) (h : AppO l R l') : AppO (x :: l) R (x :: l')
  | app (l R : Objs) : AppO l R (l ++ R)
theorem AppO.eq {l R l' : Objs} (h : AppO l R l') : l ++ R = l' := by
  induction h with
  | nil R => rfl
  | cons x l R l' h ih => rw [List.cons_append, ih]
  | app l R => rfl
theorem AppO.inv0 {R l : Objs} (h : AppO [] R l) : R = l := h.eq
theorem AppO.inv1 {x : Nat × Nat × TObj} {R l : Objs} (h : AppO [x] R l) : l = x :: R := h.eq.symm
def RetM (w0 : World) (R : Objs) (gs : List (TV × Value)) {Y : Type} (I : Y → Prop) (O : Y → Objs) (r : Y → TV) : Ending → World → Prop := fun e w' =>
  ∃ v y, e = .returned v ∧ I y ∧ SimW w0 (O y ++ R) w' ∧ Rep w' (O y ++ R) (.gh gs) undef ∧ Rep w' (O y ++ R) (r y) v
theorem ctm_enter {P : Program} {G : World → Prop} {f : FuncId} {fn : Func} {c : Code} {args : List TV} {objs : Objs} {Y : Type} {I : Y → Prop} {O : Y → Objs} {r : Y → TV} {N : Nat} {env : Env} (hf : P.funcs[f]? = some fn) (hb : fn.body = some c) (hn : fn.ntmps = N) (hN : Nat.ble args.length N = true) (hN2 : Nat.ble N 1000000 = true) (he : argEnv 0 args = env)
    (h : ∀ w0 R gs objsR, G w0 → AppO objs R objsR → AW P w0 N c (bodyPost P fn (RetM w0 R gs I O r)) (env ++ [(1000000, .gh gs)]) objsR) : CtM P G f args objs I O r := fun w0 w R gs vs hG hw hgs hsz hrep => by
  have hN := Nat.le_of_ble_eq_true hN
  have hN2 := Nat.le_of_ble_eq_true hN2
  subst he
  refine calls_of_wp hf hb ((h w0 R gs (objs ++ R) hG (.app _ _)).run _ w ⟨rfl, ?_, hw, fun t v hv => ?_⟩)
  · simp [hn, hsz]; omega
  · rcases lk_app hv with hv | hv
    · obtain ⟨_, h2⟩ := lk_argEnv hv
      rw [Nat.sub_zero] at h2
      have hlt : t < vs.size := by rw [hsz]; exact (List.getElem?_eq_some_iff.1 h2).1
      have : (vs ++ Array.replicate (fn.ntmps - vs.size) undef).getD t undef = vs[t] := by simp [Array.getElem?_append_left hlt, hlt]
      rw [this]
      exact hrep t v _ h2 (by simp [hlt])
    · rw [lk_cons] at hv
      split at hv
      · simp only [Option.some.injEq] at hv
        subst hv
        cases hgs with
        | gh l v h => exact .gh gs _ h
      · simp [lk] at hv

section
variable {P : Program} {w0 : World} {N : Nat} {Q : Exit → Act → World → Prop} {env : Env} {objs objs' : Objs} {o : Oper}

theorem retm_end {fn : Func} {R : Objs} {gs : List (TV × Value)} {Y : Type} {I : Y → Prop} {O : Y → Objs} {r : Y → TV} {x : Exit} (hx : x = .normal ∨ x = .ret) {a : Act} {w : World} (hs : Sim w0 N env objs a w) (y : Y) (hI : I y) (hg : lk 1000000 env = some (.gh gs)) (hp : Pick (O y ++ R) objs) {v : Value} (hr : (results fn a.tmps).run P w = .ok v w) (hv : Rep w objs (r y) v) : bodyPost P fn (RetM w0 R gs I O r) x a w := by
  have h1 : RetM w0 R gs I O r (.returned v) w := by
    have h2 := hs.env _ _ hg
    refine ⟨v, y, rfl, hI, hs.mem.sub hp, ?_, hv.step (step_sub hp w)⟩
    generalize a.tmps.getD 1000000 undef = u at h2
    cases h2 with
    | gh l v h => exact .gh gs _ fun i t u hi => (h i t u hi).step (step_sub hp w)
  rcases hx with rfl | rfl
  · exact ⟨hs.defers, v, hr, h1⟩
  · exact ⟨hs.defers, v, hr, h1⟩
section
variable {fn : Func} {R : Objs} {gs : List (TV × Value)} {Y : Type} {I : Y → Prop} {O : Y → Objs} {r : Y → TV} {x : Exit}
theorem aq_retm1 {r1 : ResultVar} {t1 : TV} (hx : x = .normal ∨ x = .ret) (hres : fn.results = #[r1]) (y : Y) (hI : I y) (hg : lk 1000000 env = some (.gh gs)) {l : Objs} (ho : AppO (O y) R l) (hp : Pick l objs) (h1 : RV P env objs r1 t1) (hr : r y = t1) : AQ w0 N (bodyPost P fn (RetM w0 R gs I O r)) x env objs := ⟨fun a w hs => by
  obtain ⟨v1, e1, g1⟩ := rv_run hs h1
  refine retm_end hx hs y hI hg (ho.eq ▸ hp) (v := v1) ?_ (by rw [hr]; exact g1)
  have : results fn a.tmps = (#[r1].mapM (rvRun a.tmps)) >>= fun vs => pure (if h : vs.size = 1 then vs[0] else .tuple vs) := by rw [← hres]; rfl
  rw [this]
  simp [e1]⟩
theorem aq_retm2 {r1 r2 : ResultVar} {t1 t2 : TV} (hx : x = .normal ∨ x = .ret) (hres : fn.results = #[r1, r2]) (y : Y) (hI : I y) (hg : lk 1000000 env = some (.gh gs)) {l : Objs} (ho : AppO (O y) R l) (hp : Pick l objs) (h1 : RV P env objs r1 t1) (h2 : RV P env objs r2 t2) (hr : r y = .tup [t1, t2]) : AQ w0 N (bodyPost P fn (RetM w0 R gs I O r)) x env objs := ⟨fun a w hs => by
  obtain ⟨v1, e1, g1⟩ := rv_run hs h1
  obtain ⟨v2, e2, g2⟩ := rv_run hs h2
  refine retm_end hx hs y hI hg (ho.eq ▸ hp) (v := .tuple #[v1, v2]) ?_ (by rw [hr]; exact rep_tup2 g1 g2)
  have : results fn a.tmps = (#[r1, r2].mapM (rvRun a.tmps)) >>= fun vs => pure (if h : vs.size = 1 then vs[0] else .tuple vs) := by rw [← hres]; rfl
  rw [this]
  simp [Sem.run_bind, e1, e2]⟩
end

inductive ArgsM (env : Env) : List Operand → List TV → Prop
  | nil : ArgsM env [] []
  | cons (x : Operand) (xs : List Operand) (t : TV) (ts : List TV) (h : ev env x = some t) (hr : ArgsM env xs ts) : ArgsM env (x :: xs) (t :: ts)
theorem argsM_rep {w : World} {a : Act} {xs : List Operand} {ts : List TV} (h : ArgsM env xs ts) (hop : ∀ x ∈ xs, ∀ v, ev env x = some v → Rep w objs v (a.eval x)) : (xs.map a.eval).length = ts.length ∧ ∀ (i : Nat) (t : TV) (v : Value), ts[i]? = some t → (xs.map a.eval)[i]? = some v → Rep w objs t v := by
  induction h with
  | nil => simp
  | cons x xs t ts h hr ih =>
    obtain ⟨h1, h2⟩ := ih (fun y hy => hop y (by simp [hy]))
    refine ⟨by simpa using h1, fun i u v hu hv' => ?_⟩
    cases i with
    | zero => simp at hu hv'; subst hu; subst hv'; exact hop x (by simp) t h
    | succ i => exact h2 i u v (by simpa using hu) (by simpa using hv')

/-- All that the frame's slots hold, as a list. -/
def ghosts (env : Env) (a : Act) : List (TV × Value) := env.map fun p => ((lk p.1 env).getD .top, a.tmps.getD p.1 undef)
theorem lk_mem {t : Nat} : ∀ {env : Env} {v : TV}, lk t env = some v → ∃ u, (t, u) ∈ env
  | [], _, h => by simp [lk] at h
  | (s, u) :: r, v, h => by
    rw [lk_cons] at h
    split at h
    · rename_i e; subst e; exact ⟨u, List.mem_cons_self⟩
    · obtain ⟨u', h'⟩ := lk_mem h; exact ⟨u', List.mem_cons_of_mem _ h'⟩
theorem mem_lk {t : Nat} : ∀ {env : Env} {u : TV}, (t, u) ∈ env → ∃ v, lk t env = some v
  | [], _, h => by simp at h
  | (s, u) :: r, u', h => by
    rw [lk_cons]
    by_cases e : s = t
    · exact ⟨u, by rw [if_pos e]⟩
    · rw [if_neg e]
      rcases List.mem_cons.1 h with he | h
      · simp only [Prod.mk.injEq] at he; exact absurd he.1.symm e
      · exact mem_lk h
theorem ghosts_rep {a : Act} {w : World} (hs : Sim w0 N env objs a w) : Rep w objs (.gh (ghosts env a)) undef := .gh _ _ fun i t u hi => by
  unfold ghosts at hi
  rw [List.getElem?_map] at hi
  obtain ⟨p, hp, he⟩ := Option.map_eq_some_iff.1 hi
  simp only [Prod.mk.injEq] at he
  obtain ⟨v, hv⟩ := mem_lk (List.mem_of_getElem? hp)
  rw [hv, Option.getD_some] at he
  rw [← he.1, ← he.2]
  exact hs.env _ _ hv
theorem ghosts_env {a : Act} {w' : World} (h : Rep w' objs' (.gh (ghosts env a)) undef) : ∀ t v, lk t env = some v → Rep w' objs' v (a.tmps.getD t undef) := fun t v hv => by
  obtain ⟨u, hu⟩ := lk_mem hv
  obtain ⟨i, hi, he⟩ := List.getElem_of_mem hu
  cases h with
  | gh l v' h =>
    refine h i v _ ?_
    unfold ghosts
    rw [List.getElem?_map, List.getElem?_eq_getElem hi, Option.map_some, he]
    simp [hv]
/-- A call that turns what the caller owns. -/
theorem ao_callM {G : World → Prop} {ops : Array Oper} {rest : List Oper} {f : Nat} {xs : List Operand} {ts : Array TypeId} {args : List TV} {objsC R : Objs} {Y : Type} {I : Y → Prop} {O : Y → Objs} {r : Y → TV} (ho : o.op = .call { callee := .value (.func f), args := xs.toArray, argTypes := ts }) (hc : callB P f = true) (hargs : ArgsM env xs args)
    (hct : CtM P G f args objsC I O r) (hG : G w0) (hap : AppO objsC R objs) (hpk : ∀ y, I y → ∀ v w' a, Sim w0 N env (O y ++ R) a w' → Rep w' (O y ++ R) (r y) v → wpList P ops Q rest (a.put o.dst v) w') : AO P w0 N ops Q o rest env objs := ⟨fun a w K hs hK => by
  have heq := hap.eq
  subst heq
  obtain ⟨h1, h2⟩ := argsM_rep (objs := objsC ++ R) (w := w) (a := a) hargs (fun x _ v hv => ev_sim hs hv)
  unfold Oper.wp
  rw [exec_call ho hc]
  refine (hct w0 w R (ghosts env a) (xs.map a.eval).toArray hG hs.mem (ghosts_rep hs) (by simpa using h1) (fun i t v ht hv => h2 i t v ht (by simpa using hv))).mono ?_
  rintro e w' ⟨v, y, rfl, hI, hw', hg, hr⟩
  exact hK _ _ (hpk y hI v w' a ⟨hs.defers, hs.size, hw', ghosts_env hg⟩ hr)⟩
theorem sim_put {a : Act} {w' : World} (hs : Sim w0 N env objs a w') {d : Nat} (hd : Nat.blt d N = true) {tv : TV} {v : Value} (hr : Rep w' objs tv v) : Sim w0 N ((d, tv) :: env) objs (a.put (some d) v) w' := hs.putNew hd hr hs.mem (step_refl _ _)
theorem o_callM {G : World → Prop} {ops : Array Oper} {rest : List Oper} {d T0 : Nat} {pos : String} {af : Array Edge} {g : Option (Nat × Bool)} {f : Nat} {xs : List Operand} {ts : Array TypeId} {args : List TV} {objsC R : Objs} {Y : Type} {I : Y → Prop} {O : Y → Objs} {r : Y → TV} (hN : Nat.blt d N = true) (hc : callB P f = true) (hargs : ArgsM env xs args)
    (hG : G w0) (hct : CtM P G f args objsC I O r) (hap : AppO objsC R objs) (h : ∀ y, I y → AL P w0 N ops Q rest ((d, r y) :: env) (O y ++ R)) : AO P w0 N ops Q ⟨some d, .call { callee := .value (.func f), args := xs.toArray, argTypes := ts }, T0, pos, af, g⟩ rest env objs :=
  ao_callM rfl hc hargs hct hG hap fun y hI _v _w' _a hs hr => (h y hI).run _ _ (sim_put hs hN hr)
end
end Go.Proofs.YtiihihgjiklnoaaGreatDoor
