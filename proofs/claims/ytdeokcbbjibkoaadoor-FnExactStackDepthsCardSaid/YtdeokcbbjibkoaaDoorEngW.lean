/- The abstract walk, part 14: the rest of an owned row, make. -/
import Derived.Test.YtdeokcbbjibkoaaDoorEngV
import Derived.Laws.MakeOwn
namespace Go.Proofs.YtdeokcbbjibkoaaDoor
open Go Go.RowKit
section
variable {P : Program} {w0 : World} {N : Nat} {Q : Exit → Act → World → Prop} {env : Env} {objs : Objs} {o : Oper}
theorem y_slice_ms {T : TypeId} {x lo : Operand} {s b off len m : Nat} {rows : List (List TV)} {k1 : IntKind} {n : Int} {i : Nat} (ho : o.op = .slice T x (some lo) none none) (hx : ev env x = some (.ms s b off len)) (hlo : ev env lo = some (.int k1 n))
    (hobj : (s, b, TObj.row m rows) ∈ objs) (hT : P.underlying T = some (.slice (P.elem T))) (hI : (P.info? (P.elem T)).isSome = true) (hm : P.cellsOf (P.elem T) = m) (hn : n = (i : Int)) (hi : i ≤ len) :
    Yields P w0 env objs o (.ms s b (off + i) (len - i)) := yields_same fun a w hw hop => by
  have h0 := hop x (slice_opnd ho) _ hx
  have h1 := (hop lo (by simp [ho, Op.operands]) _ hlo).int_inv
  have huniq : ∀ m' rows', (s, b, TObj.row m' rows') ∈ objs → m' = m := fun m' rows' h' => by
    have key : ∀ (l : Objs), List.Pairwise (fun (x y : Nat × Nat × TObj) => x.1 ≠ y.1 ∧ (x.2.1 ≠ y.2.1 ∨ x.2.1 = 0)) l → (s, b, TObj.row m rows) ∈ l → (s, b, TObj.row m' rows') ∈ l → m' = m := fun l => by
      induction l with
      | nil => intro _ h; simp at h
      | cons z l ih =>
        intro hp h1 h2
        obtain ⟨g1, g2⟩ := List.pairwise_cons.1 hp
        rcases List.mem_cons.1 h1 with e1 | h1'
        · rcases List.mem_cons.1 h2 with e2 | h2'
          · rw [← e1] at e2
            simp only [Prod.mk.injEq, TObj.row.injEq] at e2
            exact e2.2.2.1
          · exact absurd (by rw [← e1]) (g1 _ h2').1
        · rcases List.mem_cons.1 h2 with e2 | h2'
          · exact absurd (by rw [← e2]) (g1 _ h1').1
          · exact ih g2 h1' h2'
    exact key objs hw.sites hobj h'
  generalize hv : a.eval x = v at h0
  cases h0 with
  | ms s b off len v h =>
    have hor := h.or
    obtain ⟨⟨hb, hmk, _⟩, _⟩ := h
    cases hie : P.info? (P.elem T) with
    | none => rw [hie] at hI; cases hI
    | some ie =>
    rcases hor m rows hobj with ⟨e0, e1, e2, e3⟩ | ⟨hb0, q, c, e, nn, h2, h3, h4, h5, h6⟩
    · subst e0; subst e1; subst e2; subst e3
      obtain rfl : i = 0 := by omega
      refine ⟨.slice none 0 0, ?_, .ms s 0 0 0 _ (.mk ⟨hb, hmk, none, 0, by simp⟩ (fun _ _ _ => .inl ⟨rfl, rfl, rfl, rfl⟩) (fun _ => ⟨rfl, rfl, rfl⟩))⟩
      simp only [execOp, ho, h1, hv, Option.map_some, Option.map_none]
      refine exec_v ?_
      rw [run_sliceAt_slice w T _ _ _ _ hT, run_slice_l w T none 0 0 hT k1 n (by omega) (by omega), run_sizeOf w hie]
      subst hn
      simp [Result.andThen_ok, sliced]
    · subst h2
      refine ⟨.slice (if c = i then some ⟨b, q, none⟩ else some ⟨b, q + i * m, none⟩) (len - i) (c - i), ?_, .ms s b (off + i) (len - i) _ (.mk ⟨hb, hmk, _, _, rfl⟩ (fun m' rows' hm' => .inr ⟨hb0, if c = i then q else q + i * m, c - i, e, nn, ?_, by omega, h4, ?_, fun hor => ?_⟩) (fun h0 => absurd h0 hb0))⟩
      · simp only [execOp, ho, h1, hv, Option.map_some, Option.map_none]
        refine exec_v ?_
        rw [run_sliceAt_slice w T _ _ _ _ hT, run_slice_l w T _ len c hT k1 n (by omega) (by omega), run_sizeOf w hie, hm]
        subst hn
        simp [Result.andThen_ok, sliced, Addr.add_lit]
      · split <;> rfl
      · obtain rfl := huniq m' rows' hm'
        rw [h5]; congr 1; omega
      · obtain rfl := huniq m' rows' hm'
        by_cases hc : c = i
        · rw [if_pos hc]
          have : off = 0 := by omega
          have h7 := h6 (.inr this)
          rw [h7]; congr 1; omega
        · rw [if_neg hc]
          have h7 := h6 (.inl (by omega))
          rw [h7, Nat.add_mul]
theorem o_slice_ms {ops : Array Oper} {rest : List Oper} {d T0 : Nat} {pos : String} {af : Array Edge} {g : Option (Nat × Bool)} {T : TypeId} {x lo : Operand} {s b off len m : Nat} {rows : List (List TV)} {k1 : IntKind} {n : Int} {i : Nat} (hN : Nat.blt d N = true) (hx : ev env x = some (.ms s b off len)) (hlo : ev env lo = some (.int k1 n))
    (hobj : (s, b, TObj.row m rows) ∈ objs) (hT : P.underlying T = some (.slice (P.elem T))) (hI : (P.info? (P.elem T)).isSome = true) (hm : P.cellsOf (P.elem T) = m) (hn : n = (i : Int)) (hi : i ≤ len) (h : AL P w0 N ops Q rest ((d, .ms s b (off + i) (len - i)) :: env) objs) :
    AO P w0 N ops Q ⟨some d, .slice T x (some lo) none none, T0, pos, af, g⟩ rest env objs := ao_q rfl hN (y_slice_ms rfl hx hlo hobj hT hI hm hn hi) h
theorem flat_rep {zs : List TV} {m : Nat} (hm : zs.length = m) (hm0 : 0 < m) : ∀ (n j : Nat) (t : TV), (List.replicate n zs).flatten[j]? = some t → j < n * m ∧ zs[j % m]? = some t
  | 0, j, t, h => by simp at h
  | n + 1, j, t, h => by
    rw [List.replicate_succ, List.flatten_cons] at h
    by_cases hj : j < m
    · rw [List.getElem?_append_left (by omega)] at h
      rw [Nat.mod_eq_of_lt hj]
      refine ⟨?_, h⟩
      rw [Nat.succ_mul]; omega
    · rw [List.getElem?_append_right (by omega), hm] at h
      obtain ⟨h1, h2⟩ := flat_rep hm hm0 n (j - m) t h
      refine ⟨by rw [Nat.succ_mul]; omega, ?_⟩
      rw [Nat.mod_eq_sub_mod (by omega)]; exact h2
def makeB (P : Program) (T m : Nat) : Bool := match P.info? (P.elem T) with
  | some i => Nat.beq i.size m && Nat.ble i.bytes 1024
  | none => false
theorem ao_make {ops : Array Oper} {rest : List Oper} {d : Nat} {T : TypeId} {x : Operand} {k : IntKind} {mi : Int} {n m : Nat} {zs : List TV} (ho : o.op = .makeSlice T x x) (hd : o.dst = some d) (hN : Nat.blt d N = true) (hx : ev env x = some (.int k mi)) (hn : mi = (n : Int))
    (hT : P.underlying T = some (.slice (P.elem T))) (hz : zeroOk P (P.elem T) = some zs) (hm : zs.length = m) (hm0 : Nat.blt 0 m = true) (hB : makeB P T m = true) (hbig : n ≤ 1000000000)
    (h : ∀ ss b, AL P w0 N ops Q rest ((d, .ms ss b 0 n) :: env) ((ss, b, .row m (List.replicate n zs)) :: objs)) : AO P w0 N ops Q o rest env objs := ⟨fun a w K hs hK => by
    obtain ⟨ss, hf⟩ := site_new objs
    have hm0' : 0 < m := Nat.blt_eq ▸ hm0
    have hv := (ev_sim hs hx).int_inv
    unfold zeroOk at hz
    cases hie : P.info? (P.elem T) with
    | none => rw [hie] at hz; cases hz
    | some i =>
    rw [hie] at hz
    simp only [Option.bind_some] at hz
    cases hzz : i.zero with
    | none => rw [hzz] at hz; cases hz
    | some z =>
    rw [hzz] at hz
    simp only [Option.bind_some] at hz
    have hB' : i.size = m ∧ i.bytes ≤ 1024 := by
      unfold makeB at hB
      rw [hie] at hB
      simp only [Bool.and_eq_true] at hB
      exact ⟨Nat.eq_of_beq_eq_true hB.1, Nat.le_of_ble_eq_true hB.2⟩
    have hrep := fun (w : World) (objs : Objs) => tvL_rep (w := w) (objs := objs) hz
    have hzl : z.cells.size = m := by
      have := (hrep w []).1.1
      rw [← hm, this]; simp
    have hbytes : (i.bytes : Int) * (n : Int) ≤ 281474976710656 := by
      have h1 : i.bytes * n ≤ 1024 * 1000000000 := Nat.mul_le_mul hB'.2 hbig
      have h2 : ((i.bytes * n : Nat) : Int) ≤ ((1024 * 1000000000 : Nat) : Int) := Int.ofNat_le.2 h1
      rw [Int.natCast_mul] at h2
      omega
    have hst := fun cs => step_new hs.mem cs (P.elem T) ss (.row m (List.replicate n zs))
    have hrun : (execOp a.eval o).run P w = .ok (.value (.slice (some ⟨w.heap.size, 0, none⟩) n n)) (w.alloc (.cells (madeCells z.cells (n * m)) (P.elem T))) := by
      simp only [execOp, ho, hv, hn]
      refine exec_v ?_
      rw [run_make w T (P.elem T) i z hT hie hzz k k (n : Int) (n : Int) (by omega) (by omega) hbytes (by omega), hB'.1]
      simp
    unfold Oper.wp
    rw [hrun]
    refine hK _ _ ?_
    rw [hd]
    have hb0 : w.heap.size ≠ 0 := Nat.ne_of_gt (Nat.lt_of_lt_of_le hs.mem.pos hs.mem.below.size)
    have hcs : (madeCells z.cells (n * m)).size = n * m := size_madeCells _ _
    refine (h ss w.heap.size).run _ _ (hs.putNew hN (.ms _ _ _ _ _ (.mk ⟨by simp, noMark_new hs.mem #[] 0 ss _, _, _, rfl⟩ (fun m' rows' hm' => .inr ⟨hb0, 0, n, P.elem T, n * m, rfl, Nat.le_refl _, by unfold World.shape?; rw [heap_alloc_new]; simp [hcs], ?_, fun _ => by simp⟩) (fun h0 => absurd h0 hb0))) (hs.mem.newObj hf ⟨⟨hm0', fun t ht => ?_⟩, fun r hr => by rw [List.eq_of_mem_replicate hr]; exact hm, .inr ⟨hs.mem.below.size, madeCells z.cells (n * m), P.elem T, n, heap_alloc_new w _, hcs, by simp, by simp only [maxLen]; omega, fun j t hj => ?_⟩⟩) (hst _))
    · rcases List.mem_cons.1 hm' with he | hm'
      · simp only [Prod.mk.injEq, TObj.row.injEq] at he; rw [he.2.2.1]; simp
      · exact absurd (objs_lt hs.mem hm') (Nat.lt_irrefl _)
    · obtain ⟨r, hr, htr⟩ := List.mem_flatten.1 ht
      rw [List.eq_of_mem_replicate hr] at htr
      exact (hrep w []).1.2 t htr
    · obtain ⟨h1, h2⟩ := flat_rep hm hm0' n j t hj
      have hjm : j % m < z.cells.size := by rw [hzl]; exact Nat.mod_lt _ hm0'
      refine ⟨z.cells[j % m], ?_, (hrep _ _).2 (j % m) t _ h2 (by simp [hjm])⟩
      unfold madeCells
      rw [Array.getElem?_map, Array.getElem?_range]
      simp [h1, hzl]
      exact getElem!_pos z.cells (j % m) hjm⟩
theorem o_make {ops : Array Oper} {rest : List Oper} {d T0 : Nat} {pos : String} {af : Array Edge} {g : Option (Nat × Bool)} {T : TypeId} {x : Operand} {k : IntKind} {mi : Int} {n m : Nat} {zs : List TV} (hN : Nat.blt d N = true) (hx : ev env x = some (.int k mi)) (he : ezT T = zs) (hn : mi = (n : Int))
    (hT : P.underlying T = some (.slice (P.elem T))) (hz : zeroOk P (P.elem T) = some zs) (hm : zs.length = m) (hm0 : Nat.blt 0 m = true) (hB : makeB P T m = true) (hbig : n ≤ 1000000000)
    (h : ∀ ss b, AL P w0 N ops Q rest ((d, .ms ss b 0 n) :: env) ((ss, b, .row m (List.replicate n zs)) :: objs)) : AO P w0 N ops Q ⟨some d, .makeSlice T x x, T0, pos, af, g⟩ rest env objs := ao_make rfl rfl hN hx hn hT hz hm hm0 hB hbig h
end
end Go.Proofs.YtdeokcbbjibkoaaDoor
