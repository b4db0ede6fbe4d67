/- Part 3 of the proof: the texts EngV, EngW, EngX, EngY, EngZ, EngK, EngL, EngN, EngQ, EngM, EngAE, EngAB, EngAC, EngAG, EngAH, EngAI. -/
import Derived.Test.YtigipcbnfeoliaaGreatDoorRf1
import Derived.Laws.MakeOwn
import Derived.Laws.RangeString
import Derived.Laws.StructEq
set_option linter.all false
namespace Go.Proofs.YtigipcbnfeoliaaGreatDoor
open Go Go.RowKit
section
variable {P : Program} {w0 : World} {N : Nat} {Q : Exit -> Act -> World -> Prop} {env : Env} {objs : aF} {o : Oper}
def gQ (P : Program) (T : Nat) : Option (List (Nat × Nat)) := match P.underlying T with
 | some (.struct fields) => fields.toList.mapM fun f => (P.info? f.type).map fun i => (f.offset, i.size)
 | _ => none
inductive TB (P : Program) (env : Env) (T : Nat) : List (Nat × Operand) -> List TV -> List TV -> Prop
 | nil (l : List TV) : TB P env T [] l l
 | cons (i : Nat) (x : Operand) (r : List (Nat × Operand)) (l l1 l2 : List TV) (tv : TV) (vs : List TV) (hx : ev env x = some tv) (hc : eN tv = some vs) (hs : bw l (ofT T i) vs l1) (hF : (gQ P T).bind (·[i]?) = some (ofT T i, vs.length)) (hr : TB P env T r l1 l2) : TB P env T ((i, x) :: r) l l2
theorem adH {w : World} {T : Nat} (a : Act) {places : List (Nat × Nat)} (hp : gQ P T = some places) {ps : List (Nat × Operand)} {l l2 : List TV} (h : TB P env T ps l l2) : ∀ (cs : Array Value), cs.size = l.length -> (∀ (i : Nat) (t : TV) (u : Value), l[i]? = some t -> cs[i]? = some u -> Rep w objs t u) -> (∀ t ∈ l, t.isCell = true) ->
   (∀ p ∈ ps, ∀ v, ev env p.2 = some v -> Rep w objs v (a.eval p.2)) -> ∃ r, Instr.fill (places.toArray[·]?) cs (ps.map fun p => (p.1, a.eval p.2)) = some r /\ r.size = l2.length /\ (∀ (i : Nat) (t : TV) (u : Value), l2[i]? = some t -> r[i]? = some u -> Rep w objs t u) /\ ∀ t ∈ l2, t.isCell = true := by
 induction h with
 | nil l => exact fun cs h1 h2 h3 _ => ⟨cs, rfl, h1, h2, h3⟩
 | cons i x r l l1 l2 tv vs hx hc hs hF hr ih =>
   intro cs h1 h2 h3 hop
   obtain ⟨g1, g2, g3⟩ := gD (show Rep w objs tv (a.eval x) from hop (i, x) (by simp) tv hx) hc
   obtain ⟨p1, p2, p3⟩ := hs.spec
   rw [hp] at hF
   simp only [Option.bind_some] at hF
   obtain ⟨f1, f2⟩ := Great.foldl_set (ofT T i) (a.eval x).cells.toList 0 cs
   have hsame : (a.eval x).cells.zipIdx.foldl (fun cs (c, j) => cs.setIfInBounds (ofT T i + j) c) cs = ((a.eval x).cells.toList.zipIdx 0).foldl (fun cs (x : Value × Nat) => cs.setIfInBounds (ofT T i + x.2) x.1) cs := by
     rw [<- Array.foldl_toList, Array.toList_zipIdx]
   obtain ⟨r', e1, e2, e3⟩ := ih (((a.eval x).cells.toList.zipIdx 0).foldl (fun cs (x : Value × Nat) => cs.setIfInBounds (ofT T i + x.2) x.1) cs) (by rw [f1, h1, p2]) (fun k t u ht hu => by
     rw [f2] at hu
     rw [p3] at ht
     by_cases hin : ofT T i <= k /\ k < ofT T i + vs.length
     ·rw [if_pos hin] at ht
      rw [if_pos ⟨by omega, by simp; omega, by omega⟩] at hu
      exact g2 _ t u ht (by simpa using hu)
     ·rw [if_neg hin] at ht
      rw [if_neg (by simp; omega)] at hu
      exact h2 k t u ht hu) (fun t ht => by
     obtain ⟨k, hk, rfl⟩ := List.getElem_of_mem ht
     have h5 := p3 k
     rw [List.getElem?_eq_getElem hk] at h5
     split at h5
     ·exact g3 _ (List.mem_of_getElem? h5.symm)
     ·exact h3 _ (List.mem_of_getElem? h5.symm)) (fun p hp => hop p (by simp [hp]))
   refine ⟨r', ?_, e2, e3⟩
   simp only [List.map_cons, Instr.fill]
   have hpl : places.toArray[i]? = some (ofT T i, vs.length) := by simpa using hF
   rw [hpl]
   simp only
   rw [if_neg (by simp; omega), hsame]
   exact e1
theorem ut {T : TypeId} {ps : List (Nat × Operand)} {l : List TV} (ho : o.op = .build T ps.toArray) (hz : cP P T = some (zT T)) (hp : (gQ P T).isSome = true) (hb : TB P env T ps (zT T) l) : bj P w0 env objs o (.agg l) := aQ fun a w hw hop => by
 obtain ⟨places, hp⟩ := Option.isSome_iff_exists.1 hp
 have hz0 := hz
 unfold cP at hz
 cases hi : P.info? T with
 | none => rw [hi] at hz; cases hz
 | some it =>
 rw [hi] at hz
 simp only [Option.bind_some] at hz
 cases hzz : it.zero with
 | none => rw [hzz] at hz; cases hz
 | some z =>
 rw [hzz] at hz
 simp only [Option.bind_some] at hz
 have htv := kZ (w := w) (objs := objs) hz
 obtain ⟨r, e1, e2, e3, e4⟩ := adH (w := w) (objs := objs) a hp hb z.cells (by simpa using htv.1.1.symm) (fun i t u ht hu => htv.2 i t u ht (by simpa using hu)) htv.1.2 (fun p hpm v hv => hop p.2 (by
   simp only [ho, Op.operands, List.toList_toArray]; exact List.mem_map.2 ⟨p, hpm, rfl⟩) v hv)
 refine ⟨.agg r, ?_, .agg l r e4 e2.symm e3⟩
 simp only [execOp, ho]
 refine dn (run_build w T _ r ?_)
 unfold gQ at hp
 unfold Program.built
 cases hu : P.underlying T with
 | none => rw [hu] at hp; cases hp
 | some d =>
   rw [hu] at hp
   cases d <;> first | (cases hp; done) | skip
   simp only [hi, hzz, hp]
   simp only [List.map_toArray]
   exact e1
variable {ops : Array Oper} {rest : List Oper} {d T0 : Nat} {pos : String} {af : Array Edge} {g : Option (Nat × Bool)}
theorem adq {T : TypeId} {ps : List (Nat × Operand)} {zs l : List TV} (hN : Nat.blt d N = true) (he : zT T = zs) (hb : TB P env T ps zs l) (hz : cP P T = some (zT T)) (hp : (gQ P T).isSome = true) (h : AL P w0 N ops Q rest ((d, .agg l) :: env) objs) : AO P w0 N ops Q ⟨some d, .build T ps.toArray, T0, pos, af, g⟩ rest env objs := xZ rfl hN (ut rfl hz hp (by rw [he]; exact hb)) h
end
section
variable {P : Program} {w0 : World} {N : Nat} {Q : Exit -> Act -> World -> Prop} {env : Env} {objs : aF} {o : Oper}
theorem yu {T : TypeId} {x lo : Operand} {s b off len m : Nat} {rows : List (List TV)} {k1 : IntKind} {n : Int} {i : Nat} (ho : o.op = .slice T x (some lo) none none) (hx : ev env x = some (.ms s b off len)) (hlo : ev env lo = some (.int k1 n))
   (hobj : (s, b, aZ.row m rows) ∈ objs) (hT : P.underlying T = some (.slice (P.elem T))) (hI : (P.info? (P.elem T)).isSome = true) (hm : P.cellsOf (P.elem T) = m) (hn : n = (i : Int)) (hi : i <= len) :
   bj P w0 env objs o (.ms s b (off + i) (len - i)) := aQ fun a w hw hop => by
 have h0 := hop x (lz ho) _ hx
 have h1 := (hop lo (by simp [ho, Op.operands]) _ hlo).int_inv
 have huniq : ∀ m' rows', (s, b, aZ.row m' rows') ∈ objs -> m' = m := fun m' rows' h' => by
   have key : ∀ (l : aF), List.Pairwise (fun (x y : Nat × Nat × aZ) => x.1 ≠ y.1 /\ (x.2.1 ≠ y.2.1 \/ x.2.1 = 0)) l -> (s, b, aZ.row m rows) ∈ l -> (s, b, aZ.row m' rows') ∈ l -> m' = m := fun l => by
     induction l with
     | nil => intro _ h; simp at h
     | cons z l ih =>
       intro hp h1 h2
       obtain ⟨g1, g2⟩ := List.pairwise_cons.1 hp
       rcases List.mem_cons.1 h1 with e1 | h1'
       ·rcases List.mem_cons.1 h2 with e2 | h2'
        ·rw [<- e1] at e2
         simp only [Prod.mk.injEq, aZ.row.injEq] at e2
         exact e2.2.2.1
        ·exact absurd (by rw [<- e1]) (g1 _ h2').1
       ·rcases List.mem_cons.1 h2 with e2 | h2'
        ·exact absurd (by rw [<- e2]) (g1 _ h1').1
        ·exact ih g2 h1' h2'
   exact key objs hw.sites hobj h'
 generalize hv : a.eval x = v at h0
 cases h0 with
 | ms s b off len v h =>
   have hor := h.or
   obtain ⟨⟨hb, hmk, _⟩, _⟩ := h
   cases hie : P.info? (P.elem T) with
   | none => rw [hie] at hI; cases hI
   | some ie =>
   rcases hor m rows hobj with ⟨e0, e1, e2, e3⟩ | ⟨hb0, q, c, e, nn, h2, h3, h4, h5, h6⟩
   ·subst e0; subst e1; subst e2; subst e3
    obtain rfl : i = 0 := by omega
    refine ⟨.slice none 0 0, ?_, .ms s 0 0 0 _ (.mk ⟨hb, hmk, none, 0, by simp⟩ (fun _ _ _ => .inl ⟨rfl, rfl, rfl, rfl⟩) (fun _ => ⟨rfl, rfl, rfl⟩))⟩
    simp only [execOp, ho, h1, hv, Option.map_some, Option.map_none]
    refine dn ?_
    rw [run_sliceAt_slice w T _ _ _ _ hT, run_slice_l w T none 0 0 hT k1 n (by omega) (by omega), run_sizeOf w hie]
    subst hn
    simp [Result.andThen_ok, sliced]
   ·subst h2
    refine ⟨.slice (if c = i then some ⟨b, q, none⟩ else some ⟨b, q + i * m, none⟩) (len - i) (c - i), ?_, .ms s b (off + i) (len - i) _ (.mk ⟨hb, hmk, _, _, rfl⟩ (fun m' rows' hm' => .inr ⟨hb0, if c = i then q else q + i * m, c - i, e, nn, ?_, by omega, h4, ?_, fun hor => ?_⟩) (fun h0 => absurd h0 hb0))⟩
    ·simp only [execOp, ho, h1, hv, Option.map_some, Option.map_none]
     refine dn ?_
     rw [run_sliceAt_slice w T _ _ _ _ hT, run_slice_l w T _ len c hT k1 n (by omega) (by omega), run_sizeOf w hie, hm]
     subst hn
     simp [Result.andThen_ok, sliced, Addr.add_lit]
    ·split <;> rfl
    ·obtain rfl := huniq m' rows' hm'
     rw [h5]; congr 1; omega
    ·obtain rfl := huniq m' rows' hm'
     by_cases hc : c = i
     ·rw [if_pos hc]
      have : off = 0 := by omega
      have h7 := h6 (.inr this)
      rw [h7]; congr 1; omega
     ·rw [if_neg hc]
      have h7 := h6 (.inl (by omega))
      rw [h7, Nat.add_mul]
theorem xT {ops : Array Oper} {rest : List Oper} {d T0 : Nat} {pos : String} {af : Array Edge} {g : Option (Nat × Bool)} {T : TypeId} {x lo : Operand} {s b off len m : Nat} {rows : List (List TV)} {k1 : IntKind} {n : Int} {i : Nat} (hN : Nat.blt d N = true) (hx : ev env x = some (.ms s b off len)) (hlo : ev env lo = some (.int k1 n))
   (hobj : (s, b, aZ.row m rows) ∈ objs) (hT : P.underlying T = some (.slice (P.elem T))) (hI : (P.info? (P.elem T)).isSome = true) (hm : P.cellsOf (P.elem T) = m) (hn : n = (i : Int)) (hi : i <= len) (h : AL P w0 N ops Q rest ((d, .ms s b (off + i) (len - i)) :: env) objs) :
   AO P w0 N ops Q ⟨some d, .slice T x (some lo) none none, T0, pos, af, g⟩ rest env objs := xZ rfl hN (yu rfl hx hlo hobj hT hI hm hn hi) h
theorem wP {zs : List TV} {m : Nat} (hm : zs.length = m) (hm0 : 0 < m) : ∀ (n j : Nat) (t : TV), (List.replicate n zs).flatten[j]? = some t -> j < n * m /\ zs[j % m]? = some t
 | 0, j, t, h => by simp at h
 | n + 1, j, t, h => by
   rw [List.replicate_succ, List.flatten_cons] at h
   by_cases hj : j < m
   ·rw [List.getElem?_append_left (by omega)] at h
    rw [Nat.mod_eq_of_lt hj]
    refine ⟨?_, h⟩
    rw [Nat.succ_mul]; omega
   ·rw [List.getElem?_append_right (by omega), hm] at h
    obtain ⟨h1, h2⟩ := wP hm hm0 n (j - m) t h
    refine ⟨by rw [Nat.succ_mul]; omega, ?_⟩
    rw [Nat.mod_eq_sub_mod (by omega)]; exact h2
def adi (P : Program) (T m : Nat) : Bool := match P.info? (P.elem T) with
 | some i => Nat.beq i.size m && Nat.ble i.bytes 1024
 | none => false
theorem adQ {ops : Array Oper} {rest : List Oper} {d : Nat} {T : TypeId} {x : Operand} {k : IntKind} {mi : Int} {n m : Nat} {zs : List TV} (ho : o.op = .makeSlice T x x) (hd : o.dst = some d) (hN : Nat.blt d N = true) (hx : ev env x = some (.int k mi)) (hn : mi = (n : Int))
   (hT : P.underlying T = some (.slice (P.elem T))) (hz : cP P (P.elem T) = some zs) (hm : zs.length = m) (hm0 : Nat.blt 0 m = true) (hB : adi P T m = true) (hbig : n <= 1000000000)
   (h : ∀ ss b, AL P w0 N ops Q rest ((d, .ms ss b 0 n) :: env) ((ss, b, .row m (List.replicate n zs)) :: objs)) : AO P w0 N ops Q o rest env objs := ⟨fun a w K hs hK => by
   obtain ⟨ss, hf⟩ := er objs
   have hm0' : 0 < m := Nat.blt_eq ▸ hm0
   have hv := (fa hs hx).int_inv
   unfold cP at hz
   cases hie : P.info? (P.elem T) with
   | none => rw [hie] at hz; cases hz
   | some i =>
   rw [hie] at hz
   simp only [Option.bind_some] at hz
   cases hzz : i.zero with
   | none => rw [hzz] at hz; cases hz
   | some z =>
   rw [hzz] at hz
   simp only [Option.bind_some] at hz
   have hB' : i.size = m /\ i.bytes <= 1024 := by
     unfold adi at hB
     rw [hie] at hB
     simp only [Bool.and_eq_true] at hB
     exact ⟨Nat.eq_of_beq_eq_true hB.1, Nat.le_of_ble_eq_true hB.2⟩
   have hrep := fun (w : World) (objs : aF) => kZ (w := w) (objs := objs) hz
   have hzl : z.cells.size = m := by
     have := (hrep w []).1.1
     rw [<- hm, this]; simp
   have hbytes : (i.bytes : Int) * (n : Int) <= 281474976710656 := by
     have h1 : i.bytes * n <= 1024 * 1000000000 := Nat.mul_le_mul hB'.2 hbig
     have h2 : ((i.bytes * n : Nat) : Int) <= ((1024 * 1000000000 : Nat) : Int) := Int.ofNat_le.2 h1
     rw [Int.natCast_mul] at h2
     omega
   have hst := fun cs => fW hs.mem cs (P.elem T) ss (.row m (List.replicate n zs))
   have hrun : (execOp a.eval o).run P w = .ok (.value (.slice (some ⟨w.heap.size, 0, none⟩) n n)) (w.alloc (.cells (madeCells z.cells (n * m)) (P.elem T))) := by
     simp only [execOp, ho, hv, hn]
     refine dn ?_
     rw [run_make w T (P.elem T) i z hT hie hzz k k (n : Int) (n : Int) (by omega) (by omega) hbytes (by omega), hB'.1]
     simp
   unfold Oper.wp
   rw [hrun]
   refine hK _ _ ?_
   rw [hd]
   have hb0 : w.heap.size ≠ 0 := Nat.ne_of_gt (Nat.lt_of_lt_of_le hs.mem.pos hs.mem.below.size)
   have hcs : (madeCells z.cells (n * m)).size = n * m := size_madeCells _ _
   refine (h ss w.heap.size).run _ _ (hs.putNew hN (.ms _ _ _ _ _ (.mk ⟨by simp, fp hs.mem #[] 0 ss _, _, _, rfl⟩ (fun m' rows' hm' => .inr ⟨hb0, 0, n, P.elem T, n * m, rfl, Nat.le_refl _, by unfold World.shape?; rw [heap_alloc_new]; simp [hcs], ?_, fun _ => by simp⟩) (fun h0 => absurd h0 hb0))) (hs.mem.newObj hf ⟨⟨hm0', fun t ht => ?_⟩, fun r hr => by rw [List.eq_of_mem_replicate hr]; exact hm, .inr ⟨hs.mem.below.size, madeCells z.cells (n * m), P.elem T, n, heap_alloc_new w _, hcs, by simp, by simp only [maxLen]; omega, fun j t hj => ?_⟩⟩) (hst _))
   ·rcases List.mem_cons.1 hm' with he | hm'
    ·simp only [Prod.mk.injEq, aZ.row.injEq] at he; rw [he.2.2.1]; simp
    ·exact absurd (dk hs.mem hm') (Nat.lt_irrefl _)
   ·obtain ⟨r, hr, htr⟩ := List.mem_flatten.1 ht
    rw [List.eq_of_mem_replicate hr] at htr
    exact (hrep w []).1.2 t htr
   ·obtain ⟨h1, h2⟩ := wP hm hm0' n j t hj
    have hjm : j % m < z.cells.size := by rw [hzl]; exact Nat.mod_lt _ hm0'
    refine ⟨z.cells[j % m], ?_, (hrep _ _).2 (j % m) t _ h2 (by simp [hjm])⟩
    unfold madeCells
    rw [Array.getElem?_map, Array.getElem?_range]
    simp [h1, hzl]
    exact getElem!_pos z.cells (j % m) hjm⟩
theorem aeE {ops : Array Oper} {rest : List Oper} {d T0 : Nat} {pos : String} {af : Array Edge} {g : Option (Nat × Bool)} {T : TypeId} {x : Operand} {k : IntKind} {mi : Int} {n m : Nat} {zs : List TV} (hN : Nat.blt d N = true) (hx : ev env x = some (.int k mi)) (he : ezT T = zs) (hn : mi = (n : Int))
   (hT : P.underlying T = some (.slice (P.elem T))) (hz : cP P (P.elem T) = some zs) (hm : zs.length = m) (hm0 : Nat.blt 0 m = true) (hB : adi P T m = true) (hbig : n <= 1000000000)
   (h : ∀ ss b, AL P w0 N ops Q rest ((d, .ms ss b 0 n) :: env) ((ss, b, .row m (List.replicate n zs)) :: objs)) : AO P w0 N ops Q ⟨some d, .makeSlice T x x, T0, pos, af, g⟩ rest env objs := adQ rfl rfl hN hx hn hT hz hm hm0 hB hbig h
end
section
variable {P : Program} {w0 : World} {N : Nat} {Q : Exit -> Act -> World -> Prop} {env : Env} {objs objs' : aF}
theorem Sim.pick {a : Act} {w : World} (h : Sim w0 N env objs a w) (k : cj objs' objs) : Sim w0 N env objs' a w := h.weak ⟨fun _ _ h => h, k⟩
theorem nB {x : Exit} (k : cj objs' objs) (h : AQ w0 N Q x env objs') : AQ w0 N Q x env objs := ⟨fun a w hs => h.run a w (hs.pick k)⟩
theorem bD {c : Code} (k : cj objs' objs) (h : AW P w0 N c Q env objs') : AW P w0 N c Q env objs := ⟨fun a w hs => h.run a w (hs.pick k)⟩
theorem cL {ops : Array Oper} {rest : List Oper} (k : cj objs' objs) (h : AL P w0 N ops Q rest env objs') : AL P w0 N ops Q rest env objs := ⟨fun a w hs => h.run a w (hs.pick k)⟩
theorem dJ {ops : Array Oper} {rest : List Oper} (k : objs = objs') (h : AL P w0 N ops Q rest env objs') : AL P w0 N ops Q rest env objs := k ▸ h
structure ae9 (p : Prop) : Prop where
 go : p
theorem tj {id : Nat} {ops : Array Oper} {b : Bool} {y : Code} (h : ae9 (AW P w0 N (.seq (.region id ops b) y) Q env objs)) : AW P w0 N (.seq (.region id ops b) y) Q env objs := h.go
theorem bI {ops : Array Oper} {rest : List Oper} {l : aF} (h : AL P w0 N ops Q rest env l) : AL P w0 N ops Q rest env ([] ++ l) := h
theorem bE {ops : Array Oper} {rest : List Oper} {x : Nat × Nat × aZ} {l : aF} (h : AL P w0 N ops Q rest env (x :: l)) : AL P w0 N ops Q rest env ([x] ++ l) := h
theorem aa6 {ops : Array Oper} {rest : List Oper} {x y : Nat × Nat × aZ} {l : aF} (h : AL P w0 N ops Q rest env (x :: y :: l)) : AL P w0 N ops Q rest env ([x, y] ++ l) := h
theorem x7 {objsOf : Nat -> List (List TV) -> aF} {ops : Array Oper} {rest : List Oper} {d T0 : Nat} {pos : String} {af : Array Edge} {g : Option (Nat × Bool)} {T s b off len n m : Nat} {x y : Operand} {f : Nat} {rows live news : List (List TV)} (hN : Nat.blt d N = true) (hx : ev env x = some (.ms s b off len)) (hy : ev env y = some (.sl f m news)) (hT : mD P T m = true) (hm : (s, b, aZ.row m rows) ∈ objs)
   (hlive : (rows.drop off).take len = live) (hl : off + len <= rows.length) (hn : news.length = n) (hbig : len + n <= 1000000000) (hu : ∀ b2 pre, Upd (s, b, .row m rows) (s, b2, .row m (pre ++ (live ++ news))) objs (objsOf b2 pre)) (h : ∀ b2 pre, AL P w0 N ops Q rest ((d, .ms s b2 pre.length (len + n)) :: env) (objsOf b2 pre)) :
   AO P w0 N ops Q ⟨some d, .call { callee := .builtin .append, args := #[x, y], argTypes := #[T, T] }, T0, pos, af, g⟩ rest env objs := uE rfl rfl hN hx hy hT hl hn hbig hlive hu fun b2 pre _ => h b2 pre
inductive jp (env : Env) : List Nat -> Env -> Prop
 | nil : jp env [] []
 | cons (t : Nat) (v : TV) (l : List Nat) (e : Env) (h : lk t env = some v) (hr : jp env l e) : jp env (t :: l) ((t, v) :: e)
theorem jp.weak {l : List Nat} {e : Env} (h : jp env l e) : ∀ t v, lk t e = some v -> lk t env = some v := by
 induction h with
 | nil => exact cD.envNil
 | cons t v l e h hr ih => exact cD.envCons h ih
theorem aaf {t : Nat} : ∀ {e1 e2 : Env} {v : TV}, lk t (e1 ++ e2) = some v -> lk t e1 = some v \/ lk t e2 = some v
 | [], _, _, h => .inr h
 | (s, u) :: r, e2, v, h => by
   rw [List.cons_append, ck] at h
   rw [ck]
   split at h
   ·rename_i e; rw [if_pos e]; exact .inl h
   ·rename_i e; rw [if_neg e]; exact aaf h
theorem cD.of (new : Env) {e1 : Env} (h1 : ∀ t v, lk t new = some v -> lk t env = some v) (h2 : ∀ t v, lk t e1 = some v -> lk t env = some v) (hp : cj objs' objs) : cD env objs (new ++ e1) objs' :=
 ⟨fun t v h => (aaf h).elim (h1 t v) (h2 t v), hp⟩
theorem am {X : Type} {body : Code} (keep : List Nat) (new : X -> Env) (O : X -> aF) (I : X -> Prop) (μ : X -> Nat) (x0 : X) (h0 : I x0) {e1 : Env} (hk : jp env keep e1) (hw : ∀ t v, lk t (new x0) = some v -> lk t env = some v) (hp : cj (O x0) objs)
   (round : ∀ x, I x -> AW P w0 N body (Exit.then (afp w0 N (fun x => new x ++ e1) O I μ (μ x)) Q) (new x ++ e1) (O x)) : AW P w0 N (.loop body) Q env objs :=
 adV (fun x => new x ++ e1) O I μ x0 h0 (.of _ hw hk.weak hp) round
theorem sE {id : Nat} {c : Code} (h : ae9 (AW P w0 N (.block id c) Q env objs)) : AW P w0 N (.block id c) Q env objs := h.go
theorem fx {X : Type} {x z : Code} (keep : List Nat) (new : X -> Env) (O : X -> aF) (I : X -> Prop) {e1 : Env} (hk : jp env keep e1) (h1 : AW P w0 N x (Exit.then (afw w0 N (fun x => new x ++ e1) O I) Q) env objs) (h2 : ∀ y, I y -> AW P w0 N z Q (new y ++ e1) (O y)) : AW P w0 N x (Exit.then (z.wp P Q) Q) env objs := ⟨fun a w hs => by
 have _ := hk
 refine wp_mono (h1.run a w hs) fun e a' w' hq => ?_
 cases e with
 | normal =>
   obtain ⟨y, hy, hs'⟩ := hq
   exact (h2 y hy).run a' w' hs'
 | exit id => exact hq
 | goto l => exact hq
 | ret => exact hq
 | panic c => exact hq
 | outgrown => exact hq⟩
theorem afg {t : Nat} {env : Env} {s b off m n : Nat} (h : lk t env = some (.ms s b off m)) (e : m = n) : lk t env = some (.ms s b off n) := e ▸ h
theorem aen {t : Nat} {env : Env} {s b off m off' n : Nat} (h : lk t env = some (.ms s b off m)) (e0 : off = off') (e : m = n) : lk t env = some (.ms s b off' n) := e0 ▸ e ▸ h
inductive yR (s b : Nat) (o : aZ) : aF -> aF -> Prop
 | head (l : aF) : yR s b o ((s, b, o) :: l) l
 | tail (s' b' : Nat) (o' : aZ) (l l' : aF) (h : yR s b o l l') : yR s b o ((s', b', o') :: l) ((s', b', o') :: l')
theorem yR.del {s b : Nat} {o : aZ} {l l' : aF} (h : yR s b o l l') : Del (s, b, o) l l' := by
 induction h with
 | head l => exact .head l
 | tail s' b' o' l l' h ih => exact .tail _ _ _ ih
theorem cj.consE {s b : Nat} {o o' : aZ} {l l1 objs : aF} (hd : yR s b o' objs l1) (h : o = o') (k : cj l l1) : cj ((s, b, o) :: l) objs := h ▸ .cons hd.del k
theorem wO (w : World) (ss m : Nat) (hm : 0 < m) : jT w objs w ((ss, 0, .row m []) :: objs) :=
 ⟨fun _ _ _ => rfl, fun b _ ha => ⟨ha.1, by
   obtain ⟨h0, s, o, hm⟩ := ha
   rcases List.mem_cons.1 hm with he | hm
   ·simp only [Prod.mk.injEq] at he; omega
   ·exact ⟨s, o, hm⟩⟩, fun s b m' rows _ hb hm' => by
   rcases List.mem_cons.1 hm' with he | hm'
   ·simp only [Prod.mk.injEq] at he; omega
   ·exact ⟨⟨rows, hm'⟩, rfl⟩, Nat.le_refl _, fun hk => by
   rcases List.mem_cons.1 hk with he | hk
   ·simp only [cV, Prod.mk.injEq, aZ.row.injEq] at he; omega
   ·exact hk⟩
theorem dz.nil {w : World} (hw : dz w0 objs w) {ss m : Nat} (hm : 0 < m) (hs : ∀ x ∈ objs, x.1 ≠ ss) : dz w0 ((ss, 0, .row m []) :: objs) w :=
 ⟨hw.below, hw.pos, fun s b o h => by
   rcases List.mem_cons.1 h with he | h
   ·simp only [Prod.mk.injEq] at he
    obtain ⟨rfl, rfl, rfl⟩ := he
    exact ⟨⟨hm, by simp⟩, by simp, .inl ⟨rfl, rfl⟩⟩
   ·exact (hw.obj s b o h).step (wO w ss m hm) rfl, List.pairwise_cons.2 ⟨fun y hy => ⟨(hs y hy).symm, .inr rfl⟩, hw.sites⟩⟩
theorem Sim.nil {a : Act} {w : World} (h : Sim w0 N env objs a w) {t : Nat} (m : Nat) (hm : 0 < m) (ht : lk t env = some .nils) : ∃ ss, Sim w0 N ((t, .ms ss 0 0 0) :: env) ((ss, 0, .row m []) :: objs) a w := by
 obtain ⟨ss, hss⟩ := er objs
 have hpos : 0 < w.heap.size := Nat.lt_of_lt_of_le h.mem.pos h.mem.below.size
 have hw := h.mem.nil hm hss
 refine ⟨ss, h.defers, h.size, hw, fun t' v hv => ?_⟩
 rw [ck] at hv
 split at hv
 ·rename_i e
  subst e
  simp only [Option.some.injEq] at hv
  subst hv
  have h1 := h.env _ _ ht
  generalize a.tmps.getD t undef = u at h1
  cases h1
  exact .ms ss 0 0 0 _ (.mk ⟨hpos, hw.noMark, none, 0, rfl⟩ (fun _ _ _ => .inl ⟨rfl, rfl, rfl, rfl⟩) fun _ => ⟨rfl, rfl, rfl⟩)
 ·exact (h.env t' v hv).step (wO w ss m hm)
theorem d7 {x : Exit} (t m : Nat) (hm : 0 < m) (ht : lk t env = some .nils) (h : ∀ ss, AQ w0 N Q x ((t, .ms ss 0 0 0) :: env) ((ss, 0, .row m []) :: objs)) : AQ w0 N Q x env objs := ⟨fun a w hs => by
 obtain ⟨ss, h1⟩ := hs.nil m hm ht
 exact (h ss).run a w h1⟩
end
def CtM (P : Program) (G : World -> Prop) (f : FuncId) (args : List TV) (objs : aF) {Y : Type} (I : Y -> Prop) (O : Y -> aF) (r : Y -> TV) : Prop :=
 ∀ (w0 w : World) (R : aF) (gs : List (TV × Value)) (vs : Array Value), G w0 -> dz w0 (objs ++ R) w -> Rep w (objs ++ R) (.gh gs) undef -> vs.size = args.length -> (∀ (i : Nat) (t : TV) (v : Value), args[i]? = some t -> vs[i]? = some v -> Rep w (objs ++ R) t v) ->
   Calls P f vs w fun e w' => ∃ v y, e = .returned v /\ I y /\ dz w0 (O y ++ R) w' /\ Rep w' (O y ++ R) (.gh gs) undef /\ Rep w' (O y ++ R) (r y) v
inductive um : aF -> aF -> aF -> Prop
 | nil (R : aF) : um [] R R
 | cons (x : Nat × Nat × aZ) (l R l' : aF) (h : um l R l') : um (x :: l) R (x :: l')
 | app (l R : aF) : um l R (l ++ R)
theorem um.eq {l R l' : aF} (h : um l R l') : l ++ R = l' := by
 induction h with
 | nil R => rfl
 | cons x l R l' h ih => rw [List.cons_append, ih]
 | app l R => rfl
theorem um.inv0 {R l : aF} (h : um [] R l) : R = l := h.eq
theorem um.inv1 {x : Nat × Nat × aZ} {R l : aF} (h : um [x] R l) : l = x :: R := h.eq.symm
def ad6 (w0 : World) (R : aF) (gs : List (TV × Value)) {Y : Type} (I : Y -> Prop) (O : Y -> aF) (r : Y -> TV) : Ending -> World -> Prop := fun e w' =>
 ∃ v y, e = .returned v /\ I y /\ dz w0 (O y ++ R) w' /\ Rep w' (O y ++ R) (.gh gs) undef /\ Rep w' (O y ++ R) (r y) v
theorem aw {P : Program} {G : World -> Prop} {f : FuncId} {fn : Func} {c : Code} {args : List TV} {objs : aF} {Y : Type} {I : Y -> Prop} {O : Y -> aF} {r : Y -> TV} {N : Nat} {env : Env} (hf : P.funcs[f]? = some fn) (hb : fn.body = some c) (hn : fn.ntmps = N) (hN : Nat.ble args.length N = true) (hN2 : Nat.ble N 1000000 = true) (he : pO 0 args = env)
   (h : ∀ w0 R gs objsR, G w0 -> um objs R objsR -> AW P w0 N c (bodyPost P fn (ad6 w0 R gs I O r)) (env ++ [(1000000, .gh gs)]) objsR) : CtM P G f args objs I O r := fun w0 w R gs vs hG hw hgs hsz hrep => by
 have hN := Nat.le_of_ble_eq_true hN
 have hN2 := Nat.le_of_ble_eq_true hN2
 subst he
 refine calls_of_wp hf hb ((h w0 R gs (objs ++ R) hG (.app _ _)).run _ w ⟨rfl, ?_, hw, fun t v hv => ?_⟩)
 ·simp [hn, hsz]; omega
 ·rcases aaf hv with hv | hv
  ·obtain ⟨_, h2⟩ := nq hv
   rw [Nat.sub_zero] at h2
   have hlt : t < vs.size := by rw [hsz]; exact (List.getElem?_eq_some_iff.1 h2).1
   have : (vs ++ Array.replicate (fn.ntmps - vs.size) undef).getD t undef = vs[t] := by simp [Array.getElem?_append_left hlt, hlt]
   rw [this]
   exact hrep t v _ h2 (by simp [hlt])
  ·rw [ck] at hv
   split at hv
   ·simp only [Option.some.injEq] at hv
    subst hv
    cases hgs with
    | gh l v h => exact .gh gs _ h
   ·simp [lk] at hv
section
variable {P : Program} {w0 : World} {N : Nat} {Q : Exit -> Act -> World -> Prop} {env : Env} {objs objs' : aF} {o : Oper}
theorem rN {fn : Func} {R : aF} {gs : List (TV × Value)} {Y : Type} {I : Y -> Prop} {O : Y -> aF} {r : Y -> TV} {x : Exit} (hx : x = .normal \/ x = .ret) {a : Act} {w : World} (hs : Sim w0 N env objs a w) (y : Y) (hI : I y) (hg : lk 1000000 env = some (.gh gs)) (hp : cj (O y ++ R) objs) {v : Value} (hr : (results fn a.tmps).run P w = .ok v w) (hv : Rep w objs (r y) v) : bodyPost P fn (ad6 w0 R gs I O r) x a w := by
 have h1 : ad6 w0 R gs I O r (.returned v) w := by
   have h2 := hs.env _ _ hg
   refine ⟨v, y, rfl, hI, hs.mem.sub hp, ?_, hv.step (gX hp w)⟩
   generalize a.tmps.getD 1000000 undef = u at h2
   cases h2 with
   | gh l v h => exact .gh gs _ fun i t u hi => (h i t u hi).step (gX hp w)
 rcases hx with rfl | rfl
 ·exact ⟨hs.defers, v, hr, h1⟩
 ·exact ⟨hs.defers, v, hr, h1⟩
section
variable {fn : Func} {R : aF} {gs : List (TV × Value)} {Y : Type} {I : Y -> Prop} {O : Y -> aF} {r : Y -> TV} {x : Exit}
theorem mR (hx : x = .normal \/ x = .ret) (hres : fn.results = #[]) (y : Y) (hI : I y) (hg : lk 1000000 env = some (.gh gs)) {l : aF} (ho : um (O y) R l) (hp : cj l objs) (hr : r y = .tup []) : AQ w0 N (bodyPost P fn (ad6 w0 R gs I O r)) x env objs := ⟨fun a w hs => by
 refine rN hx hs y hI hg (ho.eq ▸ hp) (v := .tuple #[]) ?_ (by rw [hr]; exact .tup [] #[] rfl (by simp))
 have : results fn a.tmps = (#[].mapM (ro a.tmps)) >>= fun vs => pure (if h : vs.size = 1 then vs[0] else .tuple vs) := by rw [<- hres]; rfl
 rw [this]
 simp [Sem.run_bind, Sem.run_pure]⟩
theorem av {r1 : ResultVar} {t1 : TV} (hx : x = .normal \/ x = .ret) (hres : fn.results = #[r1]) (y : Y) (hI : I y) (hg : lk 1000000 env = some (.gh gs)) {l : aF} (ho : um (O y) R l) (hp : cj l objs) (h1 : RV P env objs r1 t1) (hr : r y = t1) : AQ w0 N (bodyPost P fn (ad6 w0 R gs I O r)) x env objs := ⟨fun a w hs => by
 obtain ⟨v1, e1, g1⟩ := kt hs h1
 refine rN hx hs y hI hg (ho.eq ▸ hp) (v := v1) ?_ (by rw [hr]; exact g1)
 have : results fn a.tmps = (#[r1].mapM (ro a.tmps)) >>= fun vs => pure (if h : vs.size = 1 then vs[0] else .tuple vs) := by rw [<- hres]; rfl
 rw [this]
 simp [Sem.run_bind, e1, Sem.run_pure]⟩
theorem cf {r1 r2 : ResultVar} {t1 t2 : TV} (hx : x = .normal \/ x = .ret) (hres : fn.results = #[r1, r2]) (y : Y) (hI : I y) (hg : lk 1000000 env = some (.gh gs)) {l : aF} (ho : um (O y) R l) (hp : cj l objs) (h1 : RV P env objs r1 t1) (h2 : RV P env objs r2 t2) (hr : r y = .tup [t1, t2]) : AQ w0 N (bodyPost P fn (ad6 w0 R gs I O r)) x env objs := ⟨fun a w hs => by
 obtain ⟨v1, e1, g1⟩ := kt hs h1
 obtain ⟨v2, e2, g2⟩ := kt hs h2
 refine rN hx hs y hI hg (ho.eq ▸ hp) (v := .tuple #[v1, v2]) ?_ (by rw [hr]; exact wM g1 g2)
 have : results fn a.tmps = (#[r1, r2].mapM (ro a.tmps)) >>= fun vs => pure (if h : vs.size = 1 then vs[0] else .tuple vs) := by rw [<- hres]; rfl
 rw [this]
 simp [Sem.run_bind, e1, e2, Sem.run_pure]⟩
end
inductive aE (env : Env) : List Operand -> List TV -> Prop
 | nil : aE env [] []
 | cons (x : Operand) (xs : List Operand) (t : TV) (ts : List TV) (h : ev env x = some t) (hr : aE env xs ts) : aE env (x :: xs) (t :: ts)
theorem zO {w : World} {a : Act} {xs : List Operand} {ts : List TV} (h : aE env xs ts) (hop : ∀ x ∈ xs, ∀ v, ev env x = some v -> Rep w objs v (a.eval x)) : (xs.map a.eval).length = ts.length /\ ∀ (i : Nat) (t : TV) (v : Value), ts[i]? = some t -> (xs.map a.eval)[i]? = some v -> Rep w objs t v := by
 induction h with
 | nil => simp
 | cons x xs t ts h hr ih =>
   obtain ⟨h1, h2⟩ := ih (fun y hy => hop y (by simp [hy]))
   refine ⟨by simpa using h1, fun i u v hu hv' => ?_⟩
   cases i with
   | zero => simp at hu hv'; subst hu; subst hv'; exact hop x (by simp) t h
   | succ i => exact h2 i u v (by simpa using hu) (by simpa using hv')
def tV (env : Env) (a : Act) : List (TV × Value) := env.map fun p => ((lk p.1 env).getD .top, a.tmps.getD p.1 undef)
theorem acw {t : Nat} : ∀ {env : Env} {v : TV}, lk t env = some v -> ∃ u, (t, u) ∈ env
 | [], _, h => by simp [lk] at h
 | (s, u) :: r, v, h => by
   rw [ck] at h
   split at h
   ·rename_i e; subst e; exact ⟨u, List.mem_cons_self⟩
   ·obtain ⟨u', h'⟩ := acw h; exact ⟨u', List.mem_cons_of_mem _ h'⟩
theorem acE {t : Nat} : ∀ {env : Env} {u : TV}, (t, u) ∈ env -> ∃ v, lk t env = some v
 | [], _, h => by simp at h
 | (s, u) :: r, u', h => by
   rw [ck]
   by_cases e : s = t
   ·exact ⟨u, by rw [if_pos e]⟩
   ·rw [if_neg e]
    rcases List.mem_cons.1 h with he | h
    ·simp only [Prod.mk.injEq] at he; exact absurd he.1.symm e
    ·exact acE h
theorem xJ {a : Act} {w : World} (hs : Sim w0 N env objs a w) : Rep w objs (.gh (tV env a)) undef := .gh _ _ fun i t u hi => by
 unfold tV at hi
 rw [List.getElem?_map] at hi
 obtain ⟨p, hp, he⟩ := Option.map_eq_some_iff.1 hi
 simp only [Prod.mk.injEq] at he
 obtain ⟨v, hv⟩ := acE (List.mem_of_getElem? hp)
 rw [hv, Option.getD_some] at he
 rw [<- he.1, <- he.2]
 exact hs.env _ _ hv
theorem x1 {a : Act} {w' : World} (h : Rep w' objs' (.gh (tV env a)) undef) : ∀ t v, lk t env = some v -> Rep w' objs' v (a.tmps.getD t undef) := fun t v hv => by
 obtain ⟨u, hu⟩ := acw hv
 obtain ⟨i, hi, he⟩ := List.getElem_of_mem hu
 cases h with
 | gh l v' h =>
   refine h i v _ ?_
   unfold tV
   rw [List.getElem?_map, List.getElem?_eq_getElem hi, Option.map_some, he]
   simp [hv]
theorem acp {G : World -> Prop} {ops : Array Oper} {rest : List Oper} {f : Nat} {xs : List Operand} {ts : Array TypeId} {args : List TV} {objsC R : aF} {Y : Type} {I : Y -> Prop} {O : Y -> aF} {r : Y -> TV} (ho : o.op = .call { callee := .value (.func f), args := xs.toArray, argTypes := ts }) (hc : gB P f = true) (hargs : aE env xs args)
   (hct : CtM P G f args objsC I O r) (hG : G w0) (hap : um objsC R objs) (hpk : ∀ y, I y -> ∀ v w' a, Sim w0 N env (O y ++ R) a w' -> Rep w' (O y ++ R) (r y) v -> wpList P ops Q rest (a.put o.dst v) w') : AO P w0 N ops Q o rest env objs := ⟨fun a w K hs hK => by
 have heq := hap.eq
 subst heq
 obtain ⟨h1, h2⟩ := zO (objs := objsC ++ R) (w := w) (a := a) hargs (fun x _ v hv => fa hs hv)
 unfold Oper.wp
 rw [j8 ho hc]
 refine (hct w0 w R (tV env a) (xs.map a.eval).toArray hG hs.mem (xJ hs) (by simpa using h1) (fun i t v ht hv => h2 i t v ht (by simpa using hv))).mono ?_
 rintro e w' ⟨v, y, rfl, hI, hw', hg, hr⟩
 exact hK _ _ (hpk y hI v w' a ⟨hs.defers, hs.size, hw', x1 hg⟩ hr)⟩
theorem y8 {a : Act} {w' : World} (hs : Sim w0 N env objs a w') {d : Nat} (hd : Nat.blt d N = true) {tv : TV} {v : Value} (hr : Rep w' objs tv v) : Sim w0 N ((d, tv) :: env) objs (a.put (some d) v) w' := hs.putNew hd hr hs.mem (iw _ _)
theorem aG {G : World -> Prop} {ops : Array Oper} {rest : List Oper} {d T0 : Nat} {pos : String} {af : Array Edge} {g : Option (Nat × Bool)} {f : Nat} {xs : List Operand} {ts : Array TypeId} {args : List TV} {objsC R : aF} {Y : Type} {I : Y -> Prop} {O : Y -> aF} {r : Y -> TV} (hN : Nat.blt d N = true) (hc : gB P f = true) (hargs : aE env xs args)
   (hG : G w0) (hct : CtM P G f args objsC I O r) (hap : um objsC R objs) (h : ∀ y, I y -> AL P w0 N ops Q rest ((d, r y) :: env) (O y ++ R)) : AO P w0 N ops Q ⟨some d, .call { callee := .value (.func f), args := xs.toArray, argTypes := ts }, T0, pos, af, g⟩ rest env objs :=
 acp rfl hc hargs hct hG hap fun y hI v w' a hs hr => (h y hI).run _ _ (y8 hs hN hr)
end
inductive dy (objs : aF) : TV -> Prop
 | flat (t : TV) (h : t.flat = true) : dy objs t
 | nils : dy objs .nils
 | ms (s b off len m : Nat) (rows : List (List TV)) (hm : (s, b, aZ.row m rows) ∈ objs) : dy objs (.ms s b off len)
 | agg (l : List TV) (h : ∀ t ∈ l, dy objs t) : dy objs (.agg l)
 | tup (l : List TV) (h : ∀ t ∈ l, dy objs t) : dy objs (.tup l)
def co (objs : aF) : aZ -> Prop
 | .row _ rows => ∀ t ∈ rows.flatten, dy objs t
 | .box cells => ∀ t ∈ cells, dy objs t
 | .void => False
 | .iter _ _ => False
def md (objs : aF) : aF := objs.map fun x => (x.1, 0, aZ.void)
theorem kr {objs : aF} {x : Nat × Nat × aZ} (h : x ∈ md objs) : ∃ y ∈ objs, x = (y.1, 0, aZ.void) := by
 obtain ⟨y, hy, rfl⟩ := List.mem_map.1 h
 exact ⟨y, hy, rfl⟩
theorem vK {objs : aF} (h : List.Pairwise eV objs) : List.Pairwise eV (md objs) := by
 unfold md
 rw [List.pairwise_map]
 exact h.imp fun h => ⟨h.1, .inr rfl⟩
section
variable {P : Program} {w0 : World} {N : Nat} {Q : Exit -> Act -> World -> Prop} {env : Env} {objs objs' : aF} {o : Oper}
theorem pZ (w : World) (l : aF) : jT w [] w (md l) :=
 ⟨fun _ _ _ => rfl, fun b _ ha => by
   obtain ⟨h0, s, o, hm⟩ := ha
   obtain ⟨y, _, he⟩ := kr hm
   simp only [Prod.mk.injEq] at he
   exact absurd he.2.1 h0, fun s b m rows _ hb hm => by
   obtain ⟨y, _, he⟩ := kr hm
   simp only [Prod.mk.injEq] at he
   exact absurd he.2.1 hb, Nat.le_refl _, fun hk => by
   obtain ⟨y, _, he⟩ := kr hk
   simp [cV] at he⟩
theorem qi {w : World} (hw : dz w0 objs w) : dz w (md objs) w :=
 ⟨Below.refl _ _, Nat.lt_of_lt_of_le hw.pos hw.below.size, fun s b o hm => by
   obtain ⟨y, _, he⟩ := kr hm
   simp only [Prod.mk.injEq] at he
   obtain ⟨rfl, rfl, rfl⟩ := he
   rfl, vK hw.sites⟩
theorem abd {w : World} {objs objs' : aF} {t : TV} {v : Value} (hf : t.flat = true) (h : Rep w objs t v) : Rep w objs' t v := by
 cases h with
 | int k n => exact .int k n
 | bool b => exact .bool b
 | str s => exact .str s
 | nilp => exact .nilp
 | nilf => exact .nilf
 | _ => cases hf
theorem kR {w w' : World} {O : aF} (hD : dz w (O ++ md objs) w') (hO : ∀ s b o, (s, b, o) ∈ O -> co O o) {s b : Nat} {o : aZ} (hm : (s, b, o) ∈ O) : b = 0 \/ w.heap.size <= b := by
 have h1 := hD.obj s b o (List.mem_append_left _ hm)
 have h2 := hO s b o hm
 cases o with
 | row m rows => exact h1.2.2.imp (fun h => h.1) (fun h => h.1)
 | box cells => exact .inr h1.1.1
 | void => exact absurd h2 id
 | iter _ _ => exact absurd h2 id
theorem qR {w w' : World} {O : aF} (hw : dz w0 objs w) (hD : dz w (O ++ md objs) w') (hO : ∀ s b o, (s, b, o) ∈ O -> co O o) {t : TV} {v : Value} (hn : dy O t) (h : Rep w' (O ++ md objs) t v) : Rep w' (O ++ objs) t v := by
 induction hn generalizing v with
 | flat t hf => exact abd hf h
 | nils => cases h; exact .nils
 | ms s b off len m rows hm =>
   cases h with
   | ms _ _ _ _ _ h =>
     obtain ⟨⟨h1, h2, h3⟩, h4, h5⟩ := h
     refine .ms _ _ _ _ _ ⟨⟨h1, fun hk => ?_, h3⟩, h4, fun m' rows' hb hm' => ?_⟩
     ·rcases List.mem_append.1 hk with hk | hk
      ·exact h2 (List.mem_append_left _ hk)
      ·exact hw.noMark hk
     ·rcases List.mem_append.1 hm' with hm' | hm'
      ·exact h5 m' rows' hb (List.mem_append_left _ hm')
      ·have := dk hw hm'
       rcases kR hD hO hm with e | e
       ·exact absurd e hb
       ·omega
 | agg l hl ih =>
   cases h with
   | agg l vs hi h1 h2 => exact .agg l vs hi h1 fun i t v ht hv => ih t (List.mem_of_getElem? ht) (h2 i t v ht hv)
 | tup l hl ih =>
   cases h with
   | tup l vs h1 h2 => exact .tup l vs h1 fun i t v ht hv => ih t (List.mem_of_getElem? ht) (h2 i t v ht hv)
theorem qy {w w' : World} {O : aF} (hw : dz w0 objs w) (hD : dz w (O ++ md objs) w') (hO : ∀ s b o, (s, b, o) ∈ O -> co O o) : jT w objs w' (O ++ objs) :=
 ⟨fun b hb _ => hD.below.block b hb, fun b hb ha => by
   obtain ⟨h0, s, o, hm⟩ := ha
   rcases List.mem_append.1 hm with hm | hm
   ·rcases kR hD hO hm with e | e
    ·exact absurd e h0
    ·omega
   ·exact ⟨h0, s, o, hm⟩, fun s b m rows hb h0 hm => by
   rcases List.mem_append.1 hm with hm | hm
   ·rcases kR hD hO hm with e | e
    ·exact absurd e h0
    ·omega
   ·exact ⟨⟨rows, hm⟩, gr (hD.below.block b hb)⟩, hD.below.size, fun hk => by
   rcases List.mem_append.1 hk with hk | hk
   ·exact absurd (List.mem_append_left _ hk) hD.noMark
   ·exact hk⟩
theorem xa {w w' : World} {O : aF} (hw : dz w0 objs w) (hD : dz w (O ++ md objs) w') (hO : ∀ s b o, (s, b, o) ∈ O -> co O o) : dz w0 (O ++ objs) w' := by
 have hst := qy hw hD hO
 have hle := hw.below.size
 refine ⟨hw.below.trans (hD.below.mono hle), hw.pos, fun s b o hm => ?_, ?_⟩
 ·rcases List.mem_append.1 hm with hm | hm
  ·have h1 := hD.obj s b o (List.mem_append_left _ hm)
   have h2 := hO s b o hm
   cases o with
   | row m rows =>
     refine ⟨h1.1, h1.2.1, h1.2.2.imp id fun ⟨g1, cur, e, cap, g2, g3, g4, g5, g6⟩ => ⟨Nat.le_trans hle g1, cur, e, cap, g2, g3, g4, g5, fun j t hj => ?_⟩⟩
     obtain ⟨v, g7, g8⟩ := g6 j t hj
     exact ⟨v, g7, qR hw hD hO (h2 t (List.mem_of_getElem? hj)) g8⟩
   | box cells =>
     obtain ⟨⟨g1, g0⟩, cur, e, g2, g3, g6⟩ := h1
     refine ⟨⟨Nat.le_trans hle g1, g0⟩, cur, e, g2, g3, fun j t hj => ?_⟩
     obtain ⟨v, g7, g8⟩ := g6 j t hj
     exact ⟨v, g7, qR hw hD hO (h2 t (List.mem_of_getElem? hj)) g8⟩
   | void => exact absurd h2 id
   | iter _ _ => exact absurd h2 id
  ·exact (hw.obj s b o hm).step hst (hD.below.block b (dk hw hm))
 ·obtain ⟨p1, _, p3⟩ := List.pairwise_append.1 hD.sites
  refine List.pairwise_append.2 ⟨p1, hw.sites, fun x hx y hy => ?_⟩
  refine ⟨(p3 x hx (y.1, 0, .void) (List.mem_map.2 ⟨y, hy, rfl⟩)).1, ?_⟩
  rcases kR hD hO (s := x.1) (b := x.2.1) (o := x.2.2) hx with e | e
  ·exact .inr e
  ·have := dk (s := y.1) (b := y.2.1) (ob := y.2.2) hw hy
   exact .inl (by omega)
theorem acc {G : World -> Prop} {ops : Array Oper} {rest : List Oper} {f : Nat} {xs : List Operand} {ts : Array TypeId} {args : List TV} {Y : Type} {I : Y -> Prop} {O : Y -> aF} {r : Y -> TV} (ho : o.op = .call { callee := .value (.func f), args := xs.toArray, argTypes := ts }) (hc : gB P f = true) (hargs : bS env objs xs args)
   (hct : CtM P G f args [] I O r) (hG : G w0) (hst : ay G) (hnew : ∀ y, I y -> (∀ s b o, (s, b, o) ∈ O y -> co (O y) o) /\ dy (O y) (r y)) (h : ∀ y, I y -> ∀ v w' a, Sim w0 N env (O y ++ objs) a w' -> Rep w' (O y ++ objs) (r y) v -> wpList P ops Q rest (a.put o.dst v) w') : AO P w0 N ops Q o rest env objs := ⟨fun a w K hs hK => by
 obtain ⟨h1, h2⟩ := mW hs.mem (a := a) hargs (fun x _ v hv => fa hs hv)
 unfold Oper.wp
 rw [j8 ho hc]
 have hw := qi hs.mem
 refine (hct w w (md objs) [] (xs.map a.eval).toArray (hst.below _ _ hG hs.mem.below) (by simpa using hw) (.gh _ _ (by simp)) (by simpa using h1) (fun i t v ht hv => ?_)).mono ?_
 ·exact (h2 i t v ht (by simpa using hv)).step (by simpa using pZ w objs)
 ·rintro e w' ⟨v, y, rfl, hI, hw', _, hr⟩
  obtain ⟨n1, n2⟩ := hnew y hI
  have hst' := qy hs.mem hw' n1
  exact hK _ _ (h y hI v w' a ⟨hs.defers, hs.size, xa hs.mem hw' n1, fun t u hu => (hs.env t u hu).step hst'⟩ (qR hs.mem hw' n1 n2 hr))⟩
theorem iA {G : World -> Prop} {ops : Array Oper} {rest : List Oper} {d T0 : Nat} {pos : String} {af : Array Edge} {g : Option (Nat × Bool)} {f : Nat} {xs : List Operand} {ts : Array TypeId} {args : List TV} {r : Nat -> TV} (hN : Nat.blt d N = true) (hc : gB P f = true) (hG : G w0) (hst : ay G) (hct : Ct P G f args r) (hargs : bS env objs xs args)
   (h : AL P w0 N ops Q rest ((d, r w0.heap.size) :: env) objs) : AO P w0 N ops Q ⟨some d, .call { callee := .value (.func f), args := xs.toArray, argTypes := ts }, T0, pos, af, g⟩ rest env objs := xZ rfl hN (wl rfl hc hargs hct hG hst) h
theorem fk {G : World -> Prop} {ops : Array Oper} {rest : List Oper} {d T0 : Nat} {pos : String} {af : Array Edge} {g : Option (Nat × Bool)} {f : Nat} {xs : List Operand} {ts : Array TypeId} {args : List TV} {Y : Type} {I : Y -> Prop} {O : Y -> aF} {r : Y -> TV} (hN : Nat.blt d N = true) (hc : gB P f = true)
   (hG : G w0) (hst : ay G) (hct : CtM P G f args [] I O r) (hargs : bS env objs xs args) (hnew : ∀ y, I y -> (∀ s b o, (s, b, o) ∈ O y -> co (O y) o) /\ dy (O y) (r y)) (h : ∀ y, I y -> AL P w0 N ops Q rest ((d, r y) :: env) (O y ++ objs)) : AO P w0 N ops Q ⟨some d, .call { callee := .value (.func f), args := xs.toArray, argTypes := ts }, T0, pos, af, g⟩ rest env objs :=
 acc rfl hc hargs hct hG hst hnew fun y hI v w' a hs hr => (h y hI).run _ _ (y8 hs hN hr)
theorem zB {G : World -> Prop} {K : Env -> Prop} {ops : Array Oper} {rest : List Oper} {d T0 : Nat} {pos : String} {af : Array Edge} {g : Option (Nat × Bool)} {f : Nat} {xs : List Operand} {ts : Array TypeId} {args : List TV} {r : Nat -> TV} (hN : Nat.blt d N = true) (hc : gB P f = true) (hG : G w0) (hst : ay G) (hct : Ct P G f args r) (hargs : bS env objs xs args)
   (h : DR P w0 N ops objs K rest ((d, r w0.heap.size) :: env)) : DO P w0 N ops objs K ⟨some d, .call { callee := .value (.func f), args := xs.toArray, argTypes := ts }, T0, pos, af, g⟩ rest env := ⟨fun hgr => .run _ _ _ _ _ rfl hN hgr (wl rfl hc hargs hct hG hst) h⟩
theorem ca.msAll {s b len m : Nat} {rows : List (List TV)} (hm : (s, b, aZ.row m rows) ∈ objs) (hl : rows.length = len) : ca objs (.ms s b 0 len) (.sl 0 m rows) := by
 subst hl
 exact .msSame hm (by omega) (by simp)
theorem eW {objs : aF} {rows : List (List TV)} (h : ∀ t ∈ rows.flatten, t.flat = true) : ∀ t ∈ rows.flatten, dy objs t := fun t ht => .flat t (h t ht)
theorem zH {G : World -> Prop} {f : FuncId} {args : List TV} {Y : Type} {I : Y -> Prop} {O : Y -> aF} {r : Y -> TV} {r' : Nat -> TV} (hct : CtM P G f args [] I O r) (hf : ∀ y, I y -> ∀ B L, Fin B (O y) L (r y) (r' L)) : Ct P G f args r' := fun w vs hpos hG hsz hrep => by
 have hw : dz w [] w := ⟨Below.refl _ _, hpos, by simp, .nil⟩
 refine (hct w w [] [] vs hG (by simpa using hw) (.gh _ _ (by simp)) hsz (by simpa using hrep)).mono ?_
 rintro e w' ⟨v, y, rfl, hI, hw', _, hr⟩
 rw [List.append_nil] at hw' hr
 exact ⟨v, rfl, hw'.below, fun L hL => jN hw' hL (hf y hI _ L) hr⟩
end
section
variable {P : Program} {w0 : World} {N : Nat} {Q : Exit -> Act -> World -> Prop} {env : Env} {objs objs' : aF} {o : Oper}
theorem ac2 {K : Env -> Prop} {ops : Array Oper} {rest : List Oper} {d T0 : Nat} {pos : String} {af : Array Edge} {g : Option (Nat × Bool)} {T : TypeId} {ps : List (Nat × Operand)} {zs l : List TV} (hN : Nat.blt d N = true) (he : zT T = zs) (hb : TB P env T ps zs l) (hz : cP P T = some (zT T)) (hp : (gQ P T).isSome = true)
   (h : DR P w0 N ops objs K rest ((d, .agg l) :: env)) : DO P w0 N ops objs K ⟨some d, .build T ps.toArray, T0, pos, af, g⟩ rest env := ⟨fun hgr => .run _ _ _ _ _ rfl hN hgr (ut rfl hz hp (he ▸ hb)) h⟩
end
section
variable {P : Program} {w0 : World} {N : Nat} {Q : Exit -> Act -> World -> Prop} {env : Env} {objs objs' : aF} {o : Oper}
inductive Evs (env : Env) : List Operand -> List TV -> Prop
 | nil : Evs env [] []
 | cons (x : Operand) (xs : List Operand) (t : TV) (ts : List TV) (h : ev env x = some t) (hr : Evs env xs ts) : Evs env (x :: xs) (t :: ts)
theorem adK {w : World} {a : Act} {xs : List Operand} {l : List TV} (h : Evs env xs l) (hop : ∀ x ∈ xs, ∀ v, ev env x = some v -> Rep w objs v (a.eval x)) : l.length = xs.length /\ ∀ (i : Nat) (t : TV) (v : Value), l[i]? = some t -> (xs.map a.eval)[i]? = some v -> Rep w objs t v := by
 induction h with
 | nil => simp
 | cons x xs t ts h hr ih =>
   obtain ⟨h1, h2⟩ := ih (fun y hy => hop y (by simp [hy]))
   refine ⟨by simpa using h1, fun i u v hu hv => ?_⟩
   cases i with
   | zero => simp at hu hv; subst hu; subst hv; exact hop x (by simp) t h
   | succ i => exact h2 i u v (by simpa using hu) (by simpa using hv)
theorem ym {f : Nat} {xs : List Operand} {l : List TV} (ho : o.op = .makeFunc (.func f) #[] xs.toArray) (hx : Evs env xs l) : bj P w0 env objs o (.fn f l) := aQ fun a w hw hop => by
 obtain ⟨h1, h2⟩ := adK (objs := objs) (w := w) (a := a) hx (fun x hx v hv => hop x (by simp [ho, Op.operands, hx]) v hv)
 refine ⟨.func (.func f) #[] (xs.map a.eval).toArray, ?_, .fn f l _ (by simpa using h1) (fun i t v ht hv => h2 i t v ht (by simpa using hv))⟩
 simp only [execOp, ho]
 refine dn ?_
 simp [Instr.makeFunc, Sem.run_pure, List.map_toArray]
inductive jJ (objs : aF) : List TV -> List TV -> Prop
 | nil : jJ objs [] []
 | cons (t t' : TV) (l l' : List TV) (h : ca objs t t') (hr : jJ objs l l') : jJ objs (t :: l) (t' :: l')
theorem aay {l l' : List TV} (h : jJ objs l l') : l'.length = l.length /\ ∀ (i : Nat) (t t' : TV), l[i]? = some t -> l'[i]? = some t' -> ca objs t t' := by
 induction h with
 | nil => simp
 | cons t t' l l' h hr ih =>
   refine ⟨by simpa using ih.1, fun i u u' hu hu' => ?_⟩
   cases i with
   | zero => simp at hu hu'; subst hu; subst hu'; exact h
   | succ i => exact ih.2 i u u' (by simpa using hu) (by simpa using hu')
theorem xG {f : Nat} {x : Operand} {xs : List Operand} {vs : Array Value} {ts : Array TypeId} (ho : o.op = .call { callee := .value x, args := xs.toArray, argTypes := ts }) (hc : gB P f = true) (a : Act) (w : World) (hx : a.eval x = .func (.func f) #[] vs) : (execOp a.eval o).run P w = .ok (.enter f ((xs.map a.eval).toArray ++ vs)) w := by
 simp only [execOp, ho, resolve, hx, Sem.run_bind, Sem.run_pure, Result.andThen_ok, Deferred.ofValue, invoke]
 simp [lF hc, Sem.run_pure, Result.andThen_ok, List.map_toArray]
theorem zS {G : World -> Prop} {f : Nat} {x : Operand} {xs : List Operand} {ts : Array TypeId} {l l' args : List TV} {r : Nat -> TV} (ho : o.op = .call { callee := .value x, args := xs.toArray, argTypes := ts }) (hx : ev env x = some (.fn f l)) (hc : gB P f = true) (hargs : bS env objs xs args) (hl : jJ objs l l')
   (hct : Ct P G f (args ++ l') r) (hG : G w0) (hst : ay G) : bj P w0 env objs o (r w0.heap.size) := fun a w K Q hw hop hK => by
 obtain ⟨h1, h2⟩ := mW hw (a := a) hargs (fun x hx v hv => hop x (by simp [ho, Op.operands, Call.operands, hx]) v hv)
 have hfn := hop x (by simp [ho, Op.operands, Call.operands]) _ hx
 generalize hv : a.eval x = v at hfn
 cases hfn with
 | fn f l vs g1 g2 =>
   obtain ⟨g3, g4⟩ := aay hl
   unfold Oper.wp
   rw [xG ho hc a w hv]
   refine (hct w _ (Nat.lt_of_lt_of_le hw.pos hw.below.size) (hst.below _ _ hG hw.below) (by simp at h1; simp; omega) (fun i t v ht hv' => ?_)).mono ?_
   ·rw [List.length_map] at h1
    by_cases hi : i < args.length
    ·rw [List.getElem?_append_left hi] at ht
     rw [Array.getElem?_append_left (by simp; omega)] at hv'
     exact h2 i t v ht (by simpa using hv')
    ·rw [List.getElem?_append_right (by omega)] at ht
     rw [Array.getElem?_append_right (by simp; omega)] at hv'
     simp only [List.size_toArray, List.length_map] at hv'
     rw [h1] at hv'
     obtain ⟨t0, h5⟩ := dD g3 ht
     exact wb hw (g4 _ _ _ h5 ht) (g2 _ _ _ h5 hv')
   ·rintro e w' ⟨v, rfl, hb, hr⟩
    have hk : ∀ b, b < w.heap.size -> w'.heap[b]? = w.heap[b]? := fun b hlt => hb.block b hlt
    have hbel : Below w0.heap.size w0 w' := hw.below.trans (hb.mono hw.below.size)
    exact hK v w' (Rep.ofOld (fun b ha => by obtain ⟨_, s, ob, hm⟩ := ha; exact dk hw hm) (hr _ hw.below.size)) (hw.grow hbel hb.size hk) (j7 objs hb.size hk)
theorem xX {w : World} (hw : dz w0 objs w) {s b m : Nat} {rows : List (List TV)} (hm : (s, b, aZ.row m rows) ∈ objs) {v : Value} (hr : Rep w objs (.ms s b 0 rows.length) v) (hp : cj objs' objs) (hna : ¬ pg objs' b) : Rep w objs' (.sl w0.heap.size m rows) v := by
 obtain ⟨⟨hm0, hci⟩, hmm, hor⟩ := hw.obj s b _ hm
 rcases (rV hr).or m rows hm with ⟨_, _, hlen, rfl⟩ | ⟨hb0, q, c, e, k, rfl, hlc, hsh, hk, ho⟩
 ·have : rows = [] := List.eq_nil_of_length_eq_zero hlen
  subst this
  exact .sl _ m [] none 0 (Nat.le_refl _) (by simp) (by simp) (by simp) (fun _ => undef) (by simp) (by simp)
 ·rcases hor with ⟨h0, _⟩ | ⟨hB, cur, e', cap, h3, h4, h5, h6, h7⟩
  ·exact absurd h0 hb0
  have hcm : c <= maxLen := by
    have h8 : w.shape? b = some (e', cur.size) := by unfold World.shape?; rw [h3]
    rw [h8] at hsh
    simp only [Option.some.injEq, Prod.mk.injEq] at hsh
    have h9 : cap * m = (0 + c) * m := by omega
    have := Nat.eq_of_mul_eq_mul_right hm0 h9
    omega
  have hq : q = 0 := by simpa using ho (.inr rfl)
  subst hq
  have key : ∀ j, ∃ u, ∀ t', rows.flatten[j]? = some t' -> w.cell? ⟨b, 0 + j, none⟩ = some u /\ Rep w objs' t' u := fun j => by
    cases hj : rows.flatten[j]? with
    | none => exact ⟨undef, fun t' ht => by cases ht⟩
    | some t =>
      obtain ⟨u, p1, p2⟩ := h7 _ t hj
      exact ⟨u, fun t' ht => by cases ht; exact ⟨by rw [cell_of_row w b _ cur e' (0, 0) h3, Nat.zero_add]; exact p1, p2.step (gX hp w)⟩⟩
  exact .sl _ m rows (some ⟨b, 0, none⟩) c hlc hcm hmm hci (fun j => Classical.choose (key j)) (fun j t hj => ⟨b, 0, rfl, ⟨hB, hna⟩, (Classical.choose_spec (key j) t hj).1⟩) (fun j t hj => (Classical.choose_spec (key j) t hj).2)
theorem Sim.freeze {a : Act} {w : World} (hs : Sim w0 N env objs a w) {t s b m n : Nat} {rows : List (List TV)} (hx : lk t env = some (.ms s b 0 n)) (hn : rows.length = n) (hd : yR s b (.row m rows) objs objs') : Sim w0 N ((t, .sl w0.heap.size m rows) :: env) objs' a w := by
 subst hn
 have hdel : cj ((s, b, .row m rows) :: objs') objs := .perm hd.del.perm
 have hp : cj objs' objs := (cj.drop (.refl _)).trans hdel
 have hmem : (s, b, aZ.row m rows) ∈ objs := hdel.mem _ List.mem_cons_self
 have hpw := hdel.sites hs.mem.sites
 have hna : ¬ pg objs' b := fun ha => by
   obtain ⟨h0, s', o', hm'⟩ := ha
   have := (List.pairwise_cons.1 hpw).1 _ hm'
   rcases this.2 with h | h
   ·exact h rfl
   ·exact h0 h
 have hs' := hs.pick hp
 refine ⟨hs'.defers, hs'.size, hs'.mem, fun t' v hv => ?_⟩
 rw [ck] at hv
 split at hv
 ·rename_i he
  subst he
  cases hv
  exact xX hs.mem hmem (hs.env t _ hx) hp hna
 ·exact hs'.env t' v hv
theorem zY {x : Exit} {t s b m n : Nat} {rows : List (List TV)} (hx : lk t env = some (.ms s b 0 n)) (hn : rows.length = n) (hd : yR s b (.row m rows) objs objs') (h : AQ w0 N Q x ((t, .sl w0.heap.size m rows) :: env) objs') : AQ w0 N Q x env objs := ⟨fun a w hs => h.run a w (hs.freeze hx hn hd)⟩
theorem nJ {c : Code} {t s b m n : Nat} {rows : List (List TV)} (hx : lk t env = some (.ms s b 0 n)) (hn : rows.length = n) (hd : yR s b (.row m rows) objs objs') (h : AW P w0 N c Q ((t, .sl w0.heap.size m rows) :: env) objs') : AW P w0 N c Q env objs := ⟨fun a w hs => h.run a w (hs.freeze hx hn hd)⟩
theorem cO {m n : Nat} (h : n <= m) : ((m : Int) - (n : Int)) = ((m - n : Nat) : Int) := by omega
theorem lD {T : TypeId} {x hi : Operand} {f m : Nat} {rows : List (List TV)} {k1 : IntKind} {n : Int} {j : Nat} (ho : o.op = .slice T x none (some hi) none) (hx : ev env x = some (.sl f m rows)) (hhi : ev env hi = some (.int k1 n))
   (hT : P.underlying T = some (.slice (P.elem T))) (hI : (P.info? (P.elem T)).isSome = true) (hn : n = (j : Int)) (hj : j <= rows.length) : bj P w0 env objs o (.sl f m (rows.take j)) := aQ fun a w hw hop => by
 have h0 := hop x (lz ho) _ hx
 have h1 := (hop hi (by simp [ho, Op.operands]) _ hhi).int_inv
 generalize hv : a.eval x = v at h0
 obtain ⟨A, c, rfl, g1, g2, g3, g4, g5⟩ := kH h0
 have hlen : (rows.take j).length = j := by simp; omega
 cases hie : P.info? (P.elem T) with
 | none => rw [hie] at hI; cases hI
 | some ie =>
 have hfl : ∀ (q : Nat) (t : TV), (rows.take j).flatten[q]? = some t -> rows.flatten[q]? = some t := fun q t hq => by
   rw [ea g3, List.getElem?_take] at hq
   split at hq
   ·exact hq
   ·cases hq
 have key : ∀ q, ∃ u, ∀ t, (rows.take j).flatten[q]? = some t -> (∃ b o, A = some ⟨b, o, none⟩ /\ ZZ objs f b /\ w.cell? ⟨b, o + q, none⟩ = some u) /\ Rep w objs t u := fun q => by
   cases hq : (rows.take j).flatten[q]? with
   | none => exact ⟨undef, fun t ht => by cases ht⟩
   | some t =>
     obtain ⟨b, o, u, p1, p2, p3, p4⟩ := g5 q t (hfl q t hq)
     exact ⟨u, fun t' ht => by cases ht; exact ⟨⟨b, o, p1, p2, p3⟩, p4⟩⟩
 have hr := Rep.sl (w := w) (objs := objs) f m (rows.take j) A c (by omega) g2 (fun r hr => g3 r (List.mem_of_mem_take hr)) (fun t ht => by
     obtain ⟨r, h2, h3⟩ := List.mem_flatten.1 ht
     exact g4 t (List.mem_flatten.2 ⟨r, List.mem_of_mem_take h2, h3⟩)) (fun q => Classical.choose (key q)) (fun q t hq => ((Classical.choose_spec (key q)) t hq).1) (fun q t hq => ((Classical.choose_spec (key q)) t hq).2)
 rw [hlen] at hr
 refine ⟨.slice A j c, ?_, hr⟩
 simp only [execOp, ho, h1, hv, Option.map_some, Option.map_none]
 refine dn ?_
 rw [run_sliceAt_slice w T _ _ _ _ hT, run_slice_h w T _ rows.length c hT k1 n (by omega) (by omega), run_sizeOf w hie]
 subst hn
 cases A <;> simp [Result.andThen_ok, sliced, Addr.add]
theorem tW {T : TypeId} {x lo : Operand} {f m : Nat} {rows : List (List TV)} {k1 : IntKind} {n : Int} {j : Nat} (ho : o.op = .slice T x (some lo) none none) (hx : ev env x = some (.sl f m rows)) (hlo : ev env lo = some (.int k1 n))
   (hT : P.underlying T = some (.slice (P.elem T))) (hI : (P.info? (P.elem T)).isSome = true) (hm : P.cellsOf (P.elem T) = m) (hn : n = (j : Int)) (hj : j <= rows.length) : bj P w0 env objs o (.sl f m (rows.drop j)) := aQ fun a w hw hop => by
 have h0 := hop x (lz ho) _ hx
 have h1 := (hop lo (by simp [ho, Op.operands]) _ hlo).int_inv
 generalize hv : a.eval x = v at h0
 obtain ⟨A, c, rfl, g1, g2, g3, g4, g5⟩ := kH h0
 have hlen : (rows.drop j).length = rows.length - j := by simp
 cases hie : P.info? (P.elem T) with
 | none => rw [hie] at hI; cases hI
 | some ie =>
 have hfl : ∀ (q : Nat) (t : TV), (rows.drop j).flatten[q]? = some t -> rows.flatten[j * m + q]? = some t := fun q t hq => by
   rw [fV g3, List.getElem?_drop] at hq
   exact hq
 have key : ∀ q, ∃ u, ∀ t, (rows.drop j).flatten[q]? = some t -> (∃ b o, (if c = j then A else A.map (·.add (j * m))) = some ⟨b, o, none⟩ /\ ZZ objs f b /\ w.cell? ⟨b, o + q, none⟩ = some u) /\ Rep w objs t u := fun q => by
   cases hq : (rows.drop j).flatten[q]? with
   | none => exact ⟨undef, fun t ht => by cases ht⟩
   | some t =>
     obtain ⟨b, o, u, p1, p2, p3, p4⟩ := g5 _ t (hfl q t hq)
     refine ⟨u, fun t' ht => by
       cases ht
       refine ⟨⟨b, o + j * m, ?_, p2, by rw [Nat.add_assoc]; exact p3⟩, p4⟩
       have hcj : c ≠ j := fun hc => by
         rw [List.drop_of_length_le (by omega)] at hq
         simp at hq
       rw [if_neg hcj, p1]
       simp [Addr.add_lit]⟩
 have hr := Rep.sl (w := w) (objs := objs) f m (rows.drop j) (if c = j then A else A.map (·.add (j * m))) (c - j) (by omega) (by omega) (fun r hr => g3 r (List.mem_of_mem_drop hr)) (fun t ht => by
     obtain ⟨r, h2, h3⟩ := List.mem_flatten.1 ht
     exact g4 t (List.mem_flatten.2 ⟨r, List.mem_of_mem_drop h2, h3⟩)) (fun q => Classical.choose (key q)) (fun q t hq => ((Classical.choose_spec (key q)) t hq).1) (fun q t hq => ((Classical.choose_spec (key q)) t hq).2)
 rw [hlen] at hr
 refine ⟨_, ?_, hr⟩
 simp only [execOp, ho, h1, hv, Option.map_some, Option.map_none]
 refine dn ?_
 rw [run_sliceAt_slice w T _ _ _ _ hT, run_slice_l w T _ rows.length c hT k1 n (by omega) (by omega), run_sizeOf w hie, hm]
 subst hn
 simp [Result.andThen_ok, sliced]
variable {ops : Array Oper} {rest : List Oper} {d T0 : Nat} {pos : String} {af : Array Edge} {g : Option (Nat × Bool)} {K : Env -> Prop}
theorem xP {f : Nat} {xs : List Operand} {l : List TV} (hN : Nat.blt d N = true) (hx : Evs env xs l) (h : AL P w0 N ops Q rest ((d, .fn f l) :: env) objs) : AO P w0 N ops Q ⟨some d, .makeFunc (.func f) #[] xs.toArray, T0, pos, af, g⟩ rest env objs := xZ rfl hN (ym rfl hx) h
theorem uT {G : World -> Prop} {t f : Nat} {xs : List Operand} {ts : Array TypeId} {l l' args all : List TV} {r : Nat -> TV} (hN : Nat.blt d N = true) (hx : lk t env = some (.fn f l)) (hc : gB P f = true) (hG : G w0) (hst : ay G) (hargs : bS env objs xs args) (hl : jJ objs l l') (ha : args ++ l' = all) (hct : Ct P G f all r)
   (h : AL P w0 N ops Q rest ((d, r w0.heap.size) :: env) objs) : AO P w0 N ops Q ⟨some d, .call { callee := .value (.tmp t), args := xs.toArray, argTypes := ts }, T0, pos, af, g⟩ rest env objs := xZ rfl hN (zS (x := .tmp t) rfl hx hc hargs hl (ha ▸ hct) hG hst) h
theorem adM {G : World -> Prop} {t f : Nat} {xs : List Operand} {ts : Array TypeId} {l l' args all : List TV} {r : Nat -> TV} (hN : Nat.blt d N = true) (hx : lk t env = some (.fn f l)) (hc : gB P f = true) (hG : G w0) (hst : ay G) (hargs : bS env objs xs args) (hl : jJ objs l l') (ha : args ++ l' = all) (hct : Ct P G f all r)
   (h : DR P w0 N ops objs K rest ((d, r w0.heap.size) :: env)) : DO P w0 N ops objs K ⟨some d, .call { callee := .value (.tmp t), args := xs.toArray, argTypes := ts }, T0, pos, af, g⟩ rest env := ⟨fun hgr => .run _ _ _ _ _ rfl hN hgr (zS (x := .tmp t) rfl hx hc hargs hl (ha ▸ hct) hG hst) h⟩
theorem sJ {T : TypeId} {x hi : Operand} {f m : Nat} {rows rows2 : List (List TV)} {k1 : IntKind} {n : Int} {j : Nat} (hN : Nat.blt d N = true) (hx : ev env x = some (.sl f m rows)) (hhi : ev env hi = some (.int k1 n)) (hT : P.underlying T = some (.slice (P.elem T))) (hI : (P.info? (P.elem T)).isSome = true) (hn : n = (j : Int)) (hj : j <= rows.length) (he : rows.take j = rows2) (h : AL P w0 N ops Q rest ((d, .sl f m rows2) :: env) objs) : AO P w0 N ops Q ⟨some d, .slice T x none (some hi) none, T0, pos, af, g⟩ rest env objs := xZ rfl hN (he ▸ lD rfl hx hhi hT hI hn hj) h
theorem sC {T : TypeId} {x hi : Operand} {f m : Nat} {rows rows2 : List (List TV)} {k1 : IntKind} {n : Int} {j : Nat} (hN : Nat.blt d N = true) (hx : ev env x = some (.sl f m rows)) (hhi : ev env hi = some (.int k1 n)) (hT : P.underlying T = some (.slice (P.elem T))) (hI : (P.info? (P.elem T)).isSome = true) (hn : n = (j : Int)) (hj : j <= rows.length) (he : rows.take j = rows2) (h : DR P w0 N ops objs K rest ((d, .sl f m rows2) :: env)) : DO P w0 N ops objs K ⟨some d, .slice T x none (some hi) none, T0, pos, af, g⟩ rest env := ⟨fun hgr => .run _ _ _ _ _ rfl hN hgr (he ▸ lD rfl hx hhi hT hI hn hj) h⟩
theorem sa {T : TypeId} {x lo : Operand} {f m : Nat} {rows rows2 : List (List TV)} {k1 : IntKind} {n : Int} {j : Nat} (hN : Nat.blt d N = true) (hx : ev env x = some (.sl f m rows)) (hlo : ev env lo = some (.int k1 n)) (hT : P.underlying T = some (.slice (P.elem T))) (hI : (P.info? (P.elem T)).isSome = true) (hm : P.cellsOf (P.elem T) = m) (hn : n = (j : Int)) (hj : j <= rows.length) (he : rows.drop j = rows2) (h : AL P w0 N ops Q rest ((d, .sl f m rows2) :: env) objs) : AO P w0 N ops Q ⟨some d, .slice T x (some lo) none none, T0, pos, af, g⟩ rest env objs := xZ rfl hN (he ▸ tW rfl hx hlo hT hI hm hn hj) h
end
inductive DU (P : Program) (w0 : World) (N : Nat) (K : Env -> Prop) : List Oper -> Env -> Prop
 | nil (env : Env) (h : K env) : DU P w0 N K [] env
 | run (o : Oper) (rest : List Oper) (env : Env) (d : Nat) (tv : TV) (hd : o.dst = some d) (hN : Nat.blt d N = true) (hg : o.guard = none) (hy : ∀ objs, bj P w0 env objs o tv) (h : DU P w0 N K rest ((d, tv) :: env)) : DU P w0 N K (o :: rest) env
section
variable {P : Program} {w0 : World} {N : Nat} {Q : Exit -> Act -> World -> Prop} {objs : aF} {ops : Array Oper} {env : Env}
theorem abo {K : Env -> Prop} {l : List Oper} {env : Env} (h : DU P w0 N K l env) : ∃ σ : Nat -> Env, (∀ t, lk t (σ 0) = lk t env) /\ K (σ l.length) /\ ∀ k o, l[k]? = some o -> ∀ objs, lR P w0 N ops objs o (σ k) (σ (k + 1)) := by
 induction h with
 | nil env h => exact ⟨fun _ => env, fun _ => rfl, h, by simp⟩
 | run o rest env d tv hd hN hg hy h ih =>
   obtain ⟨σ, h1, h2, h3⟩ := ih
   refine ⟨fun k => match k with | 0 => env | k + 1 => σ k, fun _ => rfl, h2, fun k o' hk objs => ?_⟩
   cases k with
   | zero => simp at hk; subst hk; exact ⟨d, tv, hd, Nat.blt_eq ▸ hN, h1, .inl ⟨.inl hg, hy objs⟩⟩
   | succ k => exact h3 k o' (by simpa using hk) objs
theorem uz {o : Oper} {T : TypeId} {zs : List TV} (ho : o.op = .alloc T) (hz : cP P T = some zs) : bj P w0 env objs o .top := fun a w K Q hw hop hK => by
 obtain ⟨ss, hf⟩ := er objs
 obtain ⟨z, h1, h2, h3⟩ := kB hz w
 have hrun : (execOp a.eval o).run P w = .ok (.value (.pointer (some ⟨w.heap.size, 0, none⟩))) (w.alloc (.cells z.cells T)) := by
   simp only [execOp, ho]
   refine dn ?_
   simp [Instr.alloc, Sem.run_bind, h1, newVar, newRow, run_newObj_alloc, Sem.run_pure]
 unfold Oper.wp
 rw [hrun]
 obtain ⟨g1, g2⟩ := hw.alloc (.cells z.cells T)
 exact hK _ _ (.top _) g1 g2
theorem w7 {o : Oper} {T : TypeId} {zs : List TV} (ho : o.op = .alloc T) (hz : cP P T = some zs) {a : Act} {w : World} (hw : dz w0 objs w) {K : Act -> World -> Prop} (hK : ∀ ss b v w', Rep w' ((ss, b, .box zs) :: objs) (.mp ss b 0) v -> dz w0 ((ss, b, .box zs) :: objs) w' -> jT w objs w' ((ss, b, .box zs) :: objs) -> K (a.put o.dst v) w') : o.wp P a w K Q := by
 obtain ⟨ss, hf⟩ := er objs
 obtain ⟨z, h1, h2, h3⟩ := kB hz w
 have hst := fW hw z.cells T ss (.box zs)
 have hrun : (execOp a.eval o).run P w = .ok (.value (.pointer (some ⟨w.heap.size, 0, none⟩))) (w.alloc (.cells z.cells T)) := by
   simp only [execOp, ho]
   refine dn ?_
   simp [Instr.alloc, Sem.run_bind, h1, newVar, newRow, run_newObj_alloc, Sem.run_pure]
 unfold Oper.wp
 rw [hrun]
 refine hK ss w.heap.size _ _ (.mp ss _ 0 ⟨by simp, fp hw #[] 0 ss _⟩) (hw.newObj hf ⟨⟨hw.below.size, h2.2⟩, z.cells, T, heap_alloc_new w _, h2.1, fun j t hj => ?_⟩) hst
 have hlt : j < z.cells.size := by rw [h2.1]; exact (List.getElem?_eq_some_iff.1 hj).1
 exact ⟨z.cells[j], by simp [hlt], h3 _ _ j t _ hj (by simp [hlt])⟩
def JZ (w0 : World) (N : Nat) (ops : Array Oper) (objs : aF) (σ : Nat -> Env) (k ia d : Nat) (zs : List TV) (X : Nat -> Prop) (a : Act) (w : World) : Prop :=
 (¬ X ia /\ JY w0 N ops objs σ k X a w) \/ (X ia /\ ∃ ss b, JY w0 N ops ((ss, b, .box zs) :: objs) σ k X a w /\ Rep w ((ss, b, .box zs) :: objs) (.mp ss b 0) (a.tmps.getD d undef))
theorem acm (hok : dl ops = true) {k : Nat} (hk : k <= ops.size) (htl : fN ops k = true) {σ : Nat -> Env} {ia d : Nat} {zs : List TV} (hia : ia < k) (hQ : ∀ ss b, AL P w0 N ops Q (ops.toList.drop k) ((d, .mp ss b 0) :: σ k) ((ss, b, .box zs) :: objs)) {fuel : Nat} {listed : Array Bool} {a : Act} {w : World} (hsz : listed.size = ops.size) (hun : da listed <= fuel) (hXk : ∀ i, listed.getD i false = true -> i < k)
   (hall : ∀ j, j < k -> listed.getD j false = true) (hJ : JZ w0 N ops objs σ k ia d zs (fun i => listed.getD i false = true) a w) : wpAny P .any ops Q fuel listed a w := by
 rcases hJ with ⟨hn, _⟩ | ⟨_, ss, b, hJ, hr⟩
 ·exact absurd (hall ia hia) hn
 ·refine nt (σ := fun c => if c = k then (d, .mp ss b 0) :: σ k else σ c) hok hk htl (by rw [if_pos rfl]; exact hQ ss b) hsz hun hXk hall ⟨hJ.defers, hJ.size, hJ.mem, fun t c hc h1 h2 v hv => ?_⟩
  split at hv
  ·rename_i hck
   subst hck
   rw [ck] at hv
   split at hv
   ·rename_i hdt
    subst hdt
    cases hv
    exact hr
   ·exact hJ.cut t c hc h1 h2 v hv
  ·exact hJ.cut t c hc h1 h2 v hv
theorem xH (hok : dl ops = true) {k : Nat} (hk : k <= ops.size) (htl : fN ops k = true) {σ : Nat -> Env} {ia d : Nat} {T : TypeId} {zs : List TV} {oa : Oper} (hia : ia < k) (hoa : ops[ia]? = some oa) (hop : oa.op = .alloc T) (hda : oa.dst = some d) (hdN : d < N) (hz : cP P T = some zs) (hga : oa.guard = none)
   (hother : ∀ j o, j < k -> ops[j]? = some o -> j ≠ ia -> o.dst ≠ some d) (hσ : ∀ i o, i < k -> ops[i]? = some o -> ∀ objs, lR P w0 N ops objs o (σ i) (σ (i + 1))) (hσa : ∀ t, lk t (σ (ia + 1)) = lk t ((d, .top) :: σ ia)) (hQ : ∀ ss b, AL P w0 N ops Q (ops.toList.drop k) ((d, .mp ss b 0) :: σ k) ((ss, b, .box zs) :: objs)) :
   ∀ (fuel : Nat) (listed : Array Bool) (a : Act) (w : World), listed.size = ops.size -> da listed <= fuel -> (∀ i, listed.getD i false = true -> i < k) -> ew ops (fun i => listed.getD i false = true) -> JZ w0 N ops objs σ k ia d zs (fun i => listed.getD i false = true) a w -> wpAny P .any ops Q fuel listed a w :=
 uG hok hk htl (JZ w0 N ops objs σ k ia d zs) (fun _ _ _ _ hsz hun hXk hall hJ => acm hok hk htl hia hQ hsz hun hXk hall hJ) fun X a w i o hX hXk ho hik hni hX' hJ K hnext => by
   have hC := wQ (fun i o h1 h2 => hσ i o h1 h2 objs)
   rcases hJ with ⟨hn, hJ⟩ | ⟨hy, ss, b, hJ, hrep⟩
   ·by_cases hii : i = ia
    ·subst hii
     rw [hoa] at ho
     cases ho
     unfold wpOp
     rw [hoa]
     have hw : Region.wanted oa (yielded ops a.tmps) = true := by simp [Region.wanted, hga]
     simp only [hw, if_true]
     refine .inl (w7 hop hz hJ.mem fun ss b v w' hr hsw hst => ?_)
     rw [hda]
     refine hnext _ _ (.inr ⟨.inl rfl, ss, b, ko hok hk hJ hX hoa hik hni hda hdN hC hσa (.top v) hsw hst, ?_⟩)
     show Rep w' _ _ ((a.tmps.setIfInBounds d v).getD d undef)
     rw [kf (by rw [hJ.size]; exact hdN), if_pos rfl]
     exact hr
    ·refine za hok hk hJ hX hXk ho hik hni hX' hC (hσ i o hik ho objs) fun d' v w' _ _ hst hJ' => hnext _ _ (.inl ⟨fun h => ?_, hJ'⟩)
     rcases h with h | h
     ·exact hii h.symm
     ·exact hn h
   ·have hii : i ≠ ia := fun h => hni (h ▸ hy)
    refine za hok hk hJ hX hXk ho hik hni hX' hC (hσ i o hik ho _) fun d' v w' hd' hd'N hst hJ' => hnext _ _ (.inr ⟨.inr hy, ss, b, hJ', ?_⟩)
    show Rep w' _ _ ((a.tmps.setIfInBounds d' v).getD d undef)
    rw [kf (by rw [hJ.size]; exact hd'N), if_neg (fun h => hother i o hik ho hii (by rw [hd', h]))]
    exact hrep.step hst
theorem wC (k : Nat) {id d : Nat} {l l1 l2 : List Oper} {oa : Oper} {T : TypeId} {zs : List TV} {env : Env} (hm : P.follows .mixedOrders = true) (hok : dl l.toArray = true) (htl : fN l.toArray (k + 1) = true) (hc : Cut k l l1 (oa :: l2)) (hop : oa.op = .alloc T) (hda : oa.dst = some d) (hga : oa.guard = none) (hdN : Nat.blt d N = true) (he : zT T = zs) (hz : cP P T = some zs)
   (hno : (l1.all fun o => !(o.dst == some d)) = true) (h : DU P w0 N (fun env' => ∀ ss b, AL P w0 N l.toArray Q l2 ((d, .mp ss b 0) :: env') ((ss, b, .box zs) :: objs)) l1 env) : AW P w0 N (.region id l.toArray true) Q env objs := ⟨fun a w hs => by
 obtain ⟨e1, e2, hkl⟩ := hc.eq
 have hkl2 : k < l.length := Nat.lt_of_not_le fun hge => by rw [List.drop_of_length_le hge] at e2; cases e2
 have hd2 : l.drop (k + 1) = l2 := by
   rw [List.drop_eq_getElem_cons hkl2] at e2
   exact (List.cons.inj e2).2.symm
 have hoa : l[k]? = some oa := by
   rw [List.drop_eq_getElem_cons hkl2] at e2
   rw [List.getElem?_eq_getElem hkl2, (List.cons.inj e2).1]
 obtain ⟨σ0, h1, h2, h3⟩ := abo (ops := l.toArray) h
 have hl1 : l1.length = k := by rw [e1, List.length_take]; omega
 rw [hl1] at h2
 have hdN' : d < N := Nat.blt_eq ▸ hdN
 -- the chain, with the variable's slot unknown behind its making
 have hσ : ∃ σ : Nat -> Env, (∀ c, c <= k -> σ c = σ0 c) /\ σ (k + 1) = (d, .top) :: σ0 k := ⟨fun c => if c <= k then σ0 c else (d, .top) :: σ0 k, fun c hc => by simp [hc], if_neg (by omega)⟩
 obtain ⟨σ, hs1, hs2⟩ := hσ
 have hst : ∀ i o, i < k + 1 -> l[i]? = some o -> ∀ objs, lR P w0 N l.toArray objs o (σ i) (σ (i + 1)) := fun i o hi ho objs => by
   by_cases hik : i < k
   ·rw [hs1 i (by omega), hs1 (i + 1) (by omega)]
    exact h3 i o (by rw [e1, List.getElem?_take, if_pos hik]; exact ho) objs
   ·obtain rfl : i = k := by omega
    rw [hoa] at ho; cases ho
    rw [hs1 i (Nat.le_refl _), hs2]
    exact ⟨d, .top, hda, hdN', fun _ => rfl, .inl ⟨.inl hga, uz hop hz⟩⟩
 have hrep : ∀ i, (Array.replicate l.toArray.size false).getD i false = false := fun i => by
   rcases Nat.lt_or_ge i l.toArray.size with h | h
   ·simp at h; simp [h]
   ·simp at h; simp [Array.getD_eq_getD_getElem?, Array.getElem?_eq_none, h]
 refine wp_region_any hm (xH (objs := objs) hok (k := k + 1) (by simp; omega) htl (σ := σ) (ia := k) (d := d) (T := T) (zs := zs) (oa := oa) (Nat.lt_succ_self k) (by simpa using hoa) hop hda hdN' hz hga (fun j o hj ho hne hd => ?_) (fun i o hi ho => hst i o hi (by simpa using ho)) (fun t => by rw [hs2, hs1 k (Nat.le_refl _)]) (fun ss b => ?_) _ _ _ _ (by simp) (by simp [da]) (fun i hi => by rw [hrep] at hi; cases hi) (fun j oj _ hx => nomatch (hrep j).symm.trans hx) (.inl ⟨(fun h => nomatch (hrep k).symm.trans h), hs.defers, hs.size, ?_, fun t c hc h4 h5 v hv => ?_⟩))
 ·have hmem : o ∈ l1 := by
    have : l1[j]? = some o := by rw [e1, List.getElem?_take, if_pos (by omega)]; simpa using ho
    exact List.mem_of_getElem? this
  have := List.all_eq_true.1 hno o hmem
  rw [hd] at this
  simp at this
 ·rw [hs2]
  have : (l.toArray.toList.drop (k + 1)) = l2 := by simpa using hd2
  rw [this]
  refine ⟨fun a w hs => (h2 ss b).run a w ⟨hs.defers, hs.size, hs.mem, fun t v hv => hs.env t v ?_⟩⟩
  rw [ck] at hv |-
  split
  ·rename_i hdt; rw [if_pos hdt] at hv; exact hv
  ·rename_i hdt
   rw [if_neg hdt] at hv
   rw [ck, if_neg hdt]; exact hv
 ·exact hs.mem.grow ⟨hs.mem.below.os, hs.mem.below.tape, hs.mem.below.output, hs.mem.below.size, hs.mem.below.block⟩ (Nat.le_refl _) (fun _ _ => rfl)
 ·have hk0 : ∀ m, m <= c -> lk t (σ m) = lk t (σ 0) := fun m => by
    induction m with
    | zero => intro _; rfl
    | succ m ih =>
      intro hm2
      have hml : m < l.length := by omega
      obtain ⟨d, tv, e1, _, e2, _⟩ := hst m l[m] (by omega) (List.getElem?_eq_getElem hml) objs
      rw [e2, ck, if_neg]
      ·exact ih (by omega)
      ·intro e
       have := h4 m (by omega) (by unfold fL; simp [hml, e1, e])
       rw [hrep] at this; cases this
  rw [hk0 c (Nat.le_refl _), hs1 0 (Nat.zero_le _), h1 t] at hv
  have hst : jT w objs { w with drawn := w.drawn + 1 } objs := ⟨fun _ _ _ => rfl, fun _ _ h => h, fun _ _ _ rows _ _ h => ⟨⟨rows, h⟩, rfl⟩, Nat.le_refl _, fun h => h⟩
  exact (hs.env t v hv).step hst⟩
variable {K : Env -> Prop} {rest : List Oper} {d T0 : Nat} {pos : String} {af : Array Edge}
theorem acI (h : K env) : DU P w0 N K [] env := .nil _ h
end
section
variable {P : Program} {w0 : World} {N : Nat} {Q : Exit -> Act -> World -> Prop} {objs objs' : aF} {ops : Array Oper} {env : Env} {o : Oper}
variable {rest : List Oper} {d T0 : Nat} {pos : String} {af : Array Edge} {g : Option (Nat × Bool)}
end
section
variable {P : Program} {w0 : World} {N : Nat} {Q : Exit -> Act -> World -> Prop} {env : Env} {objs objs' : aF}
theorem zj (w : World) (s b ss m : Nat) (c c' : List TV) (hm : 0 < m) : jT w ((s, b, .box c) :: objs) w ((s, b, .box c') :: (ss, 0, .row m []) :: objs) :=
 ⟨fun _ _ _ => rfl, fun b' _ ha => ⟨ha.1, by
   obtain ⟨h0, s', o, hm⟩ := ha
   rcases List.mem_cons.1 hm with he | hm
   ·simp only [Prod.mk.injEq] at he
    obtain ⟨rfl, rfl, _⟩ := he
    exact ⟨_, _, List.mem_cons_self⟩
   ·rcases List.mem_cons.1 hm with he | hm
    ·simp only [Prod.mk.injEq] at he; omega
    ·exact ⟨s', o, List.mem_cons_of_mem _ hm⟩⟩, fun s' b' m' rows _ hb hm' => by
   rcases List.mem_cons.1 hm' with he | hm'
   ·simp only [Prod.mk.injEq] at he
    cases he.2.2
   ·rcases List.mem_cons.1 hm' with he | hm'
    ·simp only [Prod.mk.injEq] at he; omega
    ·exact ⟨⟨rows, List.mem_cons_of_mem _ hm'⟩, rfl⟩, Nat.le_refl _, fun hk => by
   rcases List.mem_cons.1 hk with he | hk
   ·simp only [cV, Prod.mk.injEq] at he
    cases he.2.2
   ·rcases List.mem_cons.1 hk with he | hk
    ·simp only [cV, Prod.mk.injEq, aZ.row.injEq] at he; omega
    ·exact List.mem_cons_of_mem _ hk⟩
theorem Sim.nilC {a : Act} {w : World} {s b : Nat} {cells : List TV} (h : Sim w0 N env ((s, b, .box cells) :: objs) a w) (i m : Nat) (hm : 0 < m) (hi : cells[i]? = some .nils) : ∃ ss, Sim w0 N env ((s, b, .box (cells.set i (.ms ss 0 0 0))) :: (ss, 0, .row m []) :: objs) a w := by
 obtain ⟨ss, hss⟩ := er ((s, b, .box cells) :: objs)
 have hpos : 0 < w.heap.size := Nat.lt_of_lt_of_le h.mem.pos h.mem.below.size
 have hst : jT w ((s, b, .box cells) :: objs) w ((s, b, .box (cells.set i (.ms ss 0 0 0))) :: (ss, 0, .row m []) :: objs) := zj w s b ss m _ _ hm
 have hnm : cV ∉ (s, b, aZ.box (cells.set i (.ms ss 0 0 0))) :: (ss, 0, .row m []) :: objs := fun hk => h.mem.noMark (hst.mark hk)
 have hil : i < cells.length := (List.getElem?_eq_some_iff.1 hi).1
 refine ⟨ss, h.defers, h.size, ⟨h.mem.below, h.mem.pos, fun s' b' o hm' => ?_, ?_⟩, fun t v hv => (h.env t v hv).step hst⟩
 ·rcases List.mem_cons.1 hm' with he | hm'
  ·simp only [Prod.mk.injEq] at he
   obtain ⟨rfl, rfl, rfl⟩ := he
   obtain ⟨⟨g1, g2⟩, cur, e, g3, g4, g5⟩ := h.mem.obj _ _ _ (List.mem_cons_self (l := objs))
   refine ⟨⟨g1, fun t ht => ?_⟩, cur, e, g3, by rw [List.length_set]; exact g4, fun j t hj => ?_⟩
   ·rcases List.mem_or_eq_of_mem_set ht with ht | rfl
    ·exact g2 t ht
    ·rfl
   ·rw [List.getElem?_set] at hj
    split at hj
    ·rename_i e1
     subst e1
     try rw [if_pos hil] at hj
     cases hj
     obtain ⟨v, g6, g7⟩ := g5 i _ hi
     refine ⟨v, g6, ?_⟩
     cases g7
     exact .ms ss 0 0 0 _ (.mk ⟨hpos, hnm, none, 0, rfl⟩ (fun _ _ _ => .inl ⟨rfl, rfl, rfl, rfl⟩) fun _ => ⟨rfl, rfl, rfl⟩)
    ·obtain ⟨v, g6, g7⟩ := g5 j t hj
     exact ⟨v, g6, g7.step hst⟩
  ·rcases List.mem_cons.1 hm' with he | hm'
   ·simp only [Prod.mk.injEq] at he
    obtain ⟨rfl, rfl, rfl⟩ := he
    exact ⟨⟨hm, by simp⟩, by simp, .inl ⟨rfl, rfl⟩⟩
   ·exact (h.mem.obj s' b' o (List.mem_cons_of_mem _ hm')).step hst rfl
 ·obtain ⟨p1, p2⟩ := List.pairwise_cons.1 h.mem.sites
  refine List.pairwise_cons.2 ⟨fun y hy => ?_, List.pairwise_cons.2 ⟨fun y hy => ⟨(hss y (List.mem_cons_of_mem _ hy)).symm, .inr rfl⟩, p2⟩⟩
  rcases List.mem_cons.1 hy with rfl | hy
  ·refine ⟨hss (s, b, .box cells) List.mem_cons_self, .inl ?_⟩
   have := (h.mem.obj _ _ _ (List.mem_cons_self (l := objs))).1.1
   have := h.mem.pos
   show b ≠ 0
   omega
  ·exact p1 y hy
theorem ny {c : Code} {s b : Nat} {cells : List TV} (i m : Nat) (hm : 0 < m) (hi : cells[i]? = some .nils) (h : ∀ ss, AW P w0 N c Q env ((s, b, .box (cells.set i (.ms ss 0 0 0))) :: (ss, 0, .row m []) :: objs)) : AW P w0 N c Q env ((s, b, .box cells) :: objs) := ⟨fun a w hs => by
 obtain ⟨ss, h1⟩ := hs.nilC i m hm hi
 exact (h ss).run a w h1⟩
theorem lh {ops : Array Oper} {o : Oper} {rest : List Oper} (k : cj objs' objs) (h : AO P w0 N ops Q o rest env objs') : AO P w0 N ops Q o rest env objs := ⟨fun a w K hs hK => h.run a w K (hs.pick k) hK⟩
end
def eqC : TV -> TV -> Bool
 | .int _ m, .int _ n => decide (m = n)
 | .str s, .str u => decide (s = u)
 | .bool b, .bool c => b == c
 | _, _ => false
def eqL : List TV -> List TV -> Bool
 | t :: ts, u :: us => eqC t u && eqL ts us
 | _, _ => true
def aft (P : Program) (f : Field) (i : Nat) (t u : TV) : Bool :=
 Nat.beq f.offset i && (f.name != "_") && kG P f.type && (match t, u, P.underlying f.type with
   | .int k _, .int k' _, some (.int _) => decide (k = k')
   | .str _, .str _, some .string => true
   | .bool _, .bool _, some .bool => true
   | _, _, _ => false)
def acT (P : Program) : Nat -> List Field -> List TV -> List TV -> Bool
 | _, [], [], [] => true
 | i, f :: fs, t :: ts, u :: us => aft P f i t u && acT P (i + 1) fs ts us
 | _, _, _, _ => false
theorem kh {P : Program} {w : World} {t : TypeId} {xs : Array Value} {i : Nat} {v : Value} (h : kG P t = true) (hv : xs[i]? = some v) : (part t xs i).run P w = .ok v w := by
 have hi : i < xs.size := (Array.getElem?_eq_some_iff.1 hv).1
 have he : xs[i] = v := (Array.getElem?_eq_some_iff.1 hv).2
 simp only [part, Sem.run_bind, jO h, Result.andThen_ok]
 simp [hi, he, Sem.run_pure]
theorem lE {P : Program} {w : World} {objs : aF} (d : Nat) (xs ys : Array Value) : ∀ (fs : List Field) (i : Nat) (ts us : List TV), acT P i fs ts us = true ->
   (∀ j t, ts[j]? = some t -> ∃ v, xs[i + j]? = some v /\ Rep w objs t v) -> (∀ j t, us[j]? = some t -> ∃ v, ys[i + j]? = some v /\ Rep w objs t v) ->
   (Op.eqFields (d + 1) xs ys fs).run P w = .ok (eqL ts us) w
 | [], i, [], [], _, _, _ => rfl
 | f :: fs, i, t :: ts, u :: us, h, hx, hy => by
   simp only [acT, aft, Bool.and_eq_true] at h
   obtain ⟨⟨⟨⟨h1, h2⟩, h3⟩, h4⟩, h5⟩ := h
   have h1 := Nat.eq_of_beq_eq_true h1
   obtain ⟨v, hv, hr⟩ := hx 0 t rfl
   obtain ⟨v', hv', hr'⟩ := hy 0 u rfl
   have ih := lE (P := P) (w := w) (objs := objs) d xs ys fs (i + 1) ts us h5 (fun j t' hj => by
     have := hx (j + 1) t' (by simpa using hj)
     rwa [show i + (j + 1) = i + 1 + j by omega] at this) (fun j t' hj => by
     have := hy (j + 1) t' (by simpa using hj)
     rwa [show i + (j + 1) = i + 1 + j by omega] at this)
   rw [Nat.add_zero] at hv hv'
   have hn : f.name ≠ "_" := by simpa using h2
   have he : (Op.equalIn (d + 1) f.type v v').run P w = .ok (eqC t u) w := by
     split at h4
     ·rename_i k m k' n hk hu
      have hkk : k = k' := of_decide_eq_true h4
      subst hkk
      rw [hr.int_inv, hr'.int_inv, run_equalIn_int w d f.type k _ m n hu]
      rw [show eqC (.int k m) (.int k n) = decide (m = n) from rfl, afc]
     ·rename_i s s' hu
      rw [hr.str_inv, hr'.str_inv, run_equalIn_string w d f.type s s' hu, nH]; rfl
     ·rename_i b c hu
      rw [hr.bool_inv, hr'.bool_inv, run_equalIn_bool' w d f.type b c hu]; rfl
     ·cases h4
   simp only [Op.eqFields, if_pos hn, Sem.run_bind, h1, kh h3 hv, kh h3 hv', Result.andThen_ok, he, eqL]
   cases hq : eqC t u
   ·simp [Sem.run_pure]
   ·simp [ih]
 | [], i, _ :: _, _, h, _, _ => by simp [acT] at h
 | [], i, [], _ :: _, h, _, _ => by simp [acT] at h
 | _ :: _, i, [], _, h, _, _ => by simp [acT] at h
 | _ :: _, i, _ :: _, [], h, _, _ => by simp [acT] at h
def acy (P : Program) (T : TypeId) (l l' : List TV) : Bool :=
 (match P.underlying T with | some (.struct _) => true | _ => false) && !P.stoodInHeld T && !P.eqGuardType P.depth T && acT P 0 (P.fieldsOf T).toList l l'
section
variable {P : Program} {w0 : World} {N : Nat} {env : Env} {objs : aF} {o : Oper}
theorem p9 {w : World} {T : TypeId} {l l' : List TV} {vs vs' : Array Value} (hT : acy P T l l' = true) (h1 : Rep w objs (.agg l) (.agg vs)) (h2 : Rep w objs (.agg l') (.agg vs')) : (Op.equalIn 10000 T (.agg vs) (.agg vs')).run P w = .ok (eqL l l') w := by
 simp only [acy, Bool.and_eq_true, Bool.not_eq_true'] at hT
 obtain ⟨⟨⟨g1, g2⟩, _⟩, g4⟩ := hT
 have hu : P.underlying T = some (.struct (P.fieldsOf T)) := by
   unfold Program.fieldsOf
   split at g1
   ·rename_i fs hf; rw [hf]
   ·cases g1
 rw [show (10000 : Nat) = 9998 + 1 + 1 from rfl, run_equalIn_agg w (9998 + 1) T _ _ hu g2]
 have key : ∀ {l : List TV} {vs : Array Value}, Rep w objs (.agg l) (.agg vs) -> ∀ j t, l[j]? = some t -> ∃ v, vs[0 + j]? = some v /\ Rep w objs t v := fun h j t hj => by
   cases h with
   | agg _ _ hi hl hr =>
     have hjl := (List.getElem?_eq_some_iff.1 hj).1
     rw [hl] at hjl
     exact ⟨_, by rw [Nat.zero_add]; exact Array.getElem?_eq_getElem hjl, hr j t _ hj (Array.getElem?_eq_getElem hjl)⟩
 exact lE 9998 _ _ _ 0 l l' g4 (key h1) (key h2)
theorem rE {w : World} {l : List TV} {v : Value} (h : Rep w objs (.agg l) v) : ∃ vs, v = .agg vs := by cases h; exact ⟨_, rfl⟩
section
variable {T t2 : TypeId} {x y : Operand} {l l' : List TV}
theorem ads (ho : o.op = .binOp .eql T x y t2) (hx : ev env x = some (.agg l)) (hy : ev env y = some (.agg l')) (hT : acy P T l l' = true) : bj P w0 env objs o (.bool (eqL l l')) := aQ fun a w _ hop => by
 have h1 := hop x (by simp [ho, Op.operands]) _ hx
 have h2 := hop y (by simp [ho, Op.operands]) _ hy
 obtain ⟨vs, hv⟩ := rE h1
 obtain ⟨vs', hv'⟩ := rE h2
 rw [hv] at h1
 rw [hv'] at h2
 have hg : P.eqGuardType P.depth T = false := by
   simp only [acy, Bool.and_eq_true, Bool.not_eq_true'] at hT
   exact hT.1.2
 refine ⟨.bool (eqL l l'), ?_, .bool _⟩
 simp only [execOp, ho, hv, hv']
 refine dn ?_
 simp only [Sem.run_bind, run_eqGuard_agg w _ T x y vs vs' hg, Result.andThen_ok, run_eql_struct, p9 hT h1 h2]
theorem adB (ho : o.op = .binOp .neq T x y t2) (hx : ev env x = some (.agg l)) (hy : ev env y = some (.agg l')) (hT : acy P T l l' = true) : bj P w0 env objs o (.bool (!(eqL l l'))) := aQ fun a w _ hop => by
 have h1 := hop x (by simp [ho, Op.operands]) _ hx
 have h2 := hop y (by simp [ho, Op.operands]) _ hy
 obtain ⟨vs, hv⟩ := rE h1
 obtain ⟨vs', hv'⟩ := rE h2
 rw [hv] at h1
 rw [hv'] at h2
 have hg : P.eqGuardType P.depth T = false := by
   simp only [acy, Bool.and_eq_true, Bool.not_eq_true'] at hT
   exact hT.1.2
 refine ⟨.bool (!(eqL l l')), ?_, .bool _⟩
 simp only [execOp, ho, hv, hv']
 refine dn ?_
 simp only [Sem.run_bind, run_eqGuard_agg w _ T x y vs vs' hg, Result.andThen_ok, run_neq_struct, p9 hT h1 h2]
end
section
variable {Q : Exit -> Act -> World -> Prop} {ops : Array Oper} {rest : List Oper} {d T0 : Nat} {pos : String} {af : Array Edge} {g : Option (Nat × Bool)} {T t2 : TypeId} {x y : Operand} {l l' : List TV}
variable {K : Env -> Prop}
end
end
inductive Yu where
 | no
 | one (a b : Nat)
 | many (l : List (Nat × Nat))
 | pair (x y : Yu)
def Pt : Type := Nat -> Yu
def Pt.put (p : Pt) (i : Nat) (y : Yu) : Pt := fun j => if j = i then y else p j
theorem Pt.put_ne {p : Pt} {i j : Nat} {y : Yu} (h : j ≠ i) : p.put i y j = p j := if_neg h
theorem Pt.put_eq {p : Pt} {i : Nat} {y : Yu} : p.put i y i = y := if_pos rfl
def rC (ops : Array Oper) (c m : Nat) : Prop := m = c \/ (m < c /\ ((Region.before ops).getD c 0).testBit m = true)
def yP {α : Type} (ops : Array Oper) (c : Nat) (T : Pt -> α) : Prop := ∀ p p' : Pt, (∀ m, rC ops c m -> p m = p' m) -> T p = T p'
def MkW (P : Program) (w0 : World) (env : Env) (o : Oper) (C R : aF) (I : Yu -> Prop) (O : Yu -> aF) (T : Yu -> TV) : Prop :=
 ∀ (a : Act) (w : World) (K : Act -> World -> Prop) (Q : Exit -> Act -> World -> Prop) (gs : List (TV × Value)), dz w0 (C ++ R) w -> (∀ x ∈ o.op.operands.toList, ∀ v, ev env x = some v -> Rep w (C ++ R) v (a.eval x)) -> Rep w (C ++ R) (.gh gs) undef ->
   (∀ y v w', I y -> dz w0 (O y ++ R) w' -> Rep w' (O y ++ R) (.gh gs) undef -> Rep w' (O y ++ R) (T y) v -> K (a.put o.dst v) w') -> o.wp P a w K Q
theorem mkS {P : Program} {w0 : World} {env : Env} {o : Oper} {C R : aF} {I : Yu -> Prop} {O : Yu -> aF} {T : Yu -> TV} (h : ∀ (a : Act) (w : World) (K : Act -> World -> Prop) (Q : Exit -> Act -> World -> Prop), dz w0 (C ++ R) w -> (∀ x ∈ o.op.operands.toList, ∀ v, ev env x = some v -> Rep w (C ++ R) v (a.eval x)) ->
   (∀ y v w', I y -> dz w0 (O y ++ R) w' -> jT w (C ++ R) w' (O y ++ R) -> Rep w' (O y ++ R) (T y) v -> K (a.put o.dst v) w') -> o.wp P a w K Q) : MkW P w0 env o C R I O T :=
 fun a w K Q _ h1 h2 h3 h4 => h a w K Q h1 h2 fun y v w' a1 a2 a3 a4 => h4 y v w' a1 a2 (h3.step a3) a4
structure Mks where
 on : Nat -> Bool
 O : Nat -> Pt -> aF
 src : Nat -> Option Nat
 I : Nat -> Yu -> Prop
def Mks.cons (M : Mks) (c : Nat) (p : Pt) : aF := match M.src c with
 | some i => M.O i p
 | none => []
section
variable {P : Program} {w0 : World} {N : Nat} {Q : Exit -> Act -> World -> Prop} {objs : aF} {ops : Array Oper}
def OpM (P : Program) (w0 : World) (N : Nat) (ops : Array Oper) (objs : aF) (M : Mks) (σ : Pt -> Nat -> Env) (c : Nat) (o : Oper) : Prop :=
 ∃ T, o.guard = none /\ ((∃ d, o.dst = some d /\ d < N /\ ∀ p t, lk t (σ p (c + 1)) = lk t ((d, T p) :: σ p c)) \/ (o.dst = none /\ ∀ p t, lk t (σ p (c + 1)) = lk t (σ p c))) /\ yP ops c T /\
   ((M.on c = false /\ M.src c = none /\ ∀ p R, (∀ x ∈ objs, x ∈ R) -> bj P w0 (σ p c) R o (T p)) \/
    (M.on c = true /\ yP ops c (M.O c) /\ (∀ i, M.src c = some i -> i ≠ c /\ (i < ops.size -> rC ops c i) /\ M.on i = true) /\
      ∀ p R, (∀ x ∈ objs, x ∈ R) -> MkW P w0 (σ p c) o (M.cons c p) R (M.I c) (fun y => M.O c (p.put c y)) (fun y => T (p.put c y))))
theorem JY.pick {objs' : aF} {σ : Nat -> Env} {k : Nat} {X : Nat -> Prop} {a : Act} {w : World} (h : JY w0 N ops objs σ k X a w) (hp : cj objs' objs) : JY w0 N ops objs' σ k X a w :=
 ⟨h.defers, h.size, h.mem.sub hp, fun t c hc h1 h2 v hv => (h.cut t c hc h1 h2 v hv).step (gX hp w)⟩
theorem nl (hok : dl ops = true) {k : Nat} (hk : k <= ops.size) {M : Mks} {σ : Pt -> Nat -> Env} (h0 : ∀ p p' t, lk t (σ p 0) = lk t (σ p' 0)) (hop : ∀ c o, c < k -> ops[c]? = some o -> OpM P w0 N ops objs M σ c o) {X : Nat -> Prop} (hX : ew ops X) {i : Nat} (hni : ¬ X i) (p : Pt) (y : Yu) (t : Nat) : ∀ c, c <= k -> (∀ m, m < c -> fL ops m t -> X m) -> lk t (σ (p.put i y) c) = lk t (σ p c)
 | 0, _, _ => h0 _ _ _
 | c + 1, hc, hw => by
   have hcs : c < ops.size := by omega
   have hoc : ops[c]? = some ops[c] := by simp [hcs]
   obtain ⟨T, _, hs, hT, _⟩ := hop c _ (by omega) hoc
   rcases hs with ⟨d, hd, _, hs⟩ | ⟨_, hs⟩
   ·rw [hs, hs, ck, ck]
    split
    ·rename_i hdt
     have hXc : X c := hw c (Nat.lt_succ_self c) (by unfold fL; rw [hoc]; exact hdt ▸ hd)
     rw [hT (p.put i y) p fun m hm => Pt.put_ne fun e => ?_]
     subst e
     rcases hm with h | ⟨h1, h2⟩
     ·exact hni (h ▸ hXc)
     ·exact hni (e9 hok hX c hcs hXc m h1 h2)
    ·exact nl hok hk h0 hop hX hni p y t c (by omega) fun m hm => hw m (by omega)
   ·rw [hs, hs]
    exact nl hok hk h0 hop hX hni p y t c (by omega) fun m hm => hw m (by omega)
theorem JY.put (hok : dl ops = true) {k : Nat} (hk : k <= ops.size) {M : Mks} {σ : Pt -> Nat -> Env} (h0 : ∀ p p' t, lk t (σ p 0) = lk t (σ p' 0)) (hop : ∀ c o, c < k -> ops[c]? = some o -> OpM P w0 N ops objs M σ c o) {X : Nat -> Prop} (hX : ew ops X) {i : Nat} (hni : ¬ X i) {p : Pt} (y : Yu) {objs' : aF} {a : Act} {w : World} (h : JY w0 N ops objs' (σ p) k X a w) : JY w0 N ops objs' (σ (p.put i y)) k X a w :=
 ⟨h.defers, h.size, h.mem, fun t c hc h1 h2 v hv => by
   rw [nl hok hk h0 hop hX hni p y t c hc h1] at hv
   exact h.cut t c hc h1 h2 v hv⟩
def acj (M : Mks) (n k : Nat) (X : Nat -> Prop) (i : Nat) : Prop := (i < n -> X i) /\ M.on i = true /\ ∀ c, c < k -> M.src c = some i -> ¬ X c
def MO (M : Mks) (objs : aF) (n k : Nat) (X : Nat -> Prop) (p : Pt) (objs' : aF) : Prop := ∃ l : List Nat, l.Nodup /\ (∀ i, i ∈ l ↔ acj M n k X i) /\ objs' = l.flatMap (fun i => M.O i p) ++ objs
theorem MO.sub {M : Mks} {n k : Nat} {X : Nat -> Prop} {p : Pt} {objs' : aF} (h : MO M objs n k X p objs') : ∀ x ∈ objs, x ∈ objs' := fun x hx => by
 obtain ⟨l, _, _, rfl⟩ := h
 exact List.mem_append_right _ hx
def JM (w0 : World) (N : Nat) (ops : Array Oper) (objs : aF) (M : Mks) (σ : Pt -> Nat -> Env) (k : Nat) (X : Nat -> Prop) (a : Act) (w : World) : Prop :=
 ∃ p objs', MO M objs ops.size k X p objs' /\ JY w0 N ops objs' (σ p) k X a w /\ ∀ i, i < k -> X i -> M.on i = true -> M.I i (p i)
theorem wo {M : Mks} {k : Nat} {σ : Pt -> Nat -> Env} (hop : ∀ c o, c < k -> ops[c]? = some o -> OpM P w0 N ops objs M σ c o) (p : Pt) : ∀ i o, i < k -> ops[i]? = some o -> wm o (σ p i) (σ p (i + 1)) := fun i o hi ho => by
 obtain ⟨T, _, h, _⟩ := hop i o hi ho
 rcases h with ⟨d, h1, _, h3⟩ | ⟨h1, h3⟩
 ·exact .inl ⟨d, T p, h1, h3 p⟩
 ·exact .inr ⟨h1, h3 p⟩
open Classical in
noncomputable def jgs (ops : Array Oper) (σ : Nat -> Env) (k : Nat) (X : Nat -> Prop) (a : Act) : List (TV × Value) := (List.range (k + 1)).flatMap fun c => (σ c).filterMap fun e => if (∀ i, i < c -> fL ops i e.1 -> X i) /\ (∀ i, c <= i -> i < k -> fL ops i e.1 -> ¬ X i) then (lk e.1 (σ c)).map fun v => (v, a.tmps.getD e.1 undef) else none
theorem yW {t : Nat} {v : TV} : ∀ {e : Env}, lk t e = some v -> ∃ u, (t, u) ∈ e
 | [], h => by cases h
 | (s, u) :: r, h => by
   rw [ck] at h
   split at h
   ·rename_i hs; exact ⟨u, hs ▸ List.mem_cons_self⟩
   ·obtain ⟨u', h'⟩ := yW h; exact ⟨u', List.mem_cons_of_mem _ h'⟩
theorem JY.gh {σ : Nat -> Env} {k : Nat} {X : Nat -> Prop} {a : Act} {w : World} (h : JY w0 N ops objs σ k X a w) : Rep w objs (.gh (jgs ops σ k X a)) undef := .gh _ _ fun i t u hi => by
 have hm := List.mem_of_getElem? hi
 unfold jgs at hm
 obtain ⟨c, hc, he⟩ := List.mem_flatMap.1 hm
 obtain ⟨e, _, he⟩ := List.mem_filterMap.1 he
 split at he
 ·rename_i hcd
  obtain ⟨v, hv, he⟩ := Option.map_eq_some_iff.1 he
  cases he
  exact h.cut e.1 c (by have := List.mem_range.1 hc; omega) hcd.1 hcd.2 _ hv
 ·cases he
theorem JY.move {objs' : aF} {σ : Nat -> Env} {k : Nat} {X : Nat -> Prop} {a : Act} {w w' : World} (h : JY w0 N ops objs σ k X a w) (hw : dz w0 objs' w') (hg : Rep w' objs' (.gh (jgs ops σ k X a)) undef) : JY w0 N ops objs' σ k X a w' :=
 ⟨h.defers, h.size, hw, fun t c hc h1 h2 v hv => by
   obtain ⟨u, hu⟩ := yW hv
   have hm : (v, a.tmps.getD t undef) ∈ jgs ops σ k X a := List.mem_flatMap.2 ⟨c, List.mem_range.2 (by omega), List.mem_filterMap.2 ⟨(t, u), hu, by rw [if_pos ⟨h1, h2⟩, hv]; rfl⟩⟩
   obtain ⟨i, hi⟩ := List.getElem?_of_mem hm
   cases hg with
   | gh _ _ hh => exact hh i _ _ hi⟩
theorem afk (hok : dl ops = true) {k : Nat} (hk : k <= ops.size) {M : Mks} {σ : Pt -> Nat -> Env} (h0 : ∀ p p' t, lk t (σ p 0) = lk t (σ p' 0)) (hop : ∀ c o, c < k -> ops[c]? = some o -> OpM P w0 N ops objs M σ c o) (hinj : ∀ c c' i, c < k -> c' < k -> M.src c = some i -> M.src c' = some i -> c = c') (hps : ∀ j, ¬ j < ops.size -> ∀ p p', M.O j p = M.O j p')
   {X : Nat -> Prop} {a : Act} {w : World} (hJ : JM w0 N ops objs M σ k X a w) (hX : ew ops X) (hXk : ∀ i, X i -> i < k) {i : Nat} {o : Oper} (ho : ops[i]? = some o) (hik : i < k) (hni : ¬ X i) (hX' : ew ops fun k => k = i \/ X k)
   {K : Act -> World -> Prop} (hnext : ∀ a' w', JM w0 N ops objs M σ k (fun k => k = i \/ X k) a' w' -> K a' w') : wpOp P ops Q i K a w := by
 obtain ⟨p, objs', hMO, hJY, hI⟩ := hJ
 obtain ⟨T, hg, hs, hT, hcase⟩ := hop i o hik ho
 have hput : ∀ {objs1 objs2 : aF} {p' : Pt} {v : Value} {w' : World}, JY w0 N ops objs1 (σ p') k X a w -> Rep w' objs2 (T p') v -> dz w0 objs2 w' -> jT w objs1 w' objs2 -> JY w0 N ops objs2 (σ p') k (fun k => k = i \/ X k) (a.put o.dst v) w' := fun {objs1 objs2 p' v w'} hJ hr hsw hst => by
   rcases hs with ⟨d, hd, hdN, hs⟩ | ⟨hd, _⟩
   ·rw [hd]; exact ko hok hk hJ hX ho hik hni hd hdN (wo hop p') (hs p') hr hsw hst
   ·rw [hd]; exact ws hJ ho hd hsw hst
 have hput2 : ∀ {objs2 : aF} {p' : Pt} {v : Value} {w' : World}, JY w0 N ops objs2 (σ p') k X a w' -> Rep w' objs2 (T p') v -> dz w0 objs2 w' -> JY w0 N ops objs2 (σ p') k (fun k => k = i \/ X k) (a.put o.dst v) w' := fun {objs2 p' v w'} hJ hr hsw => by
   rcases hs with ⟨d, hd, hdN, hs⟩ | ⟨hd, _⟩
   ·rw [hd]; exact ko hok hk hJ hX ho hik hni hd hdN (wo hop p') (hs p') hr hsw (iw _ _)
   ·rw [hd]; exact ws hJ ho hd hsw (iw _ _)
 have hiz : i < ops.size := by omega
 have hread : ∀ {objs2 : aF} (_ : JY w0 N ops objs2 (σ p) k X a w) (x : Operand), x ∈ o.op.operands.toList -> ∀ v, ev (σ p i) x = some v -> Rep w objs2 v (a.eval x) := fun hJ2 x hx v hv => by
   cases x with
   | tmp t =>
     have hl : t ∈ o.looksAt ops := by
       unfold Oper.looksAt
       exact List.mem_append_left _ (List.mem_filterMap.2 ⟨.tmp t, hx, rfl⟩)
     exact rm hok hk hJ2 hX hXk ho hik hni hX' hl hv
   | const u => exact qq hv
   | func f => simp only [ev, Option.some.injEq] at hv; subst hv; exact .fn f [] #[] rfl (by simp)
   | global g => cases hv
 have hw : Region.wanted o (yielded ops a.tmps) = true := by simp [Region.wanted, hg]
 unfold wpOp
 rw [ho]
 simp only [hw, if_true]
 have hbef : ∀ m, rC ops i m -> m ≠ i -> X m := fun m hm hne => by
   rcases hm with h | ⟨h1, h2⟩
   ·exact absurd h hne
   ·rcases e9 hok hX' i hiz (.inl rfl) m h1 h2 with h | h
    ·exact absurd h hne
    ·exact h
 have hnb : ∀ c, X c -> ¬ rC ops c i := fun c hc hm => by
   rcases hm with h | ⟨h1, h2⟩
   ·exact hni (h ▸ hc)
   ·exact hni (e9 hok hX c (Nat.lt_of_lt_of_le (hXk c hc) hk) hc i h1 h2)
 rcases hcase with ⟨hmk, hsrc, hy⟩ | ⟨hmk, hO, hsrc, hmake⟩
 ·refine .inl (hy p objs' hMO.sub a w _ Q hJY.mem (hread hJY) fun v w' hr hsw hst => ?_)
  refine hnext _ _ ⟨p, objs', ?_, hput hJY hr hsw hst, fun j hj hx hm => ?_⟩
  ·obtain ⟨l, h1, h2, h3⟩ := hMO
   refine ⟨l, h1, fun j => (h2 j).trans ?_, h3⟩
   unfold acj
   constructor
   ·rintro ⟨e2, e3, e4⟩
    refine ⟨fun h => .inr (e2 h), e3, fun c hc hsc hx => ?_⟩
    rcases hx with rfl | hx
    ·rw [hsrc] at hsc; cases hsc
    ·exact e4 c hc hsc hx
   ·rintro ⟨e2, e3, e4⟩
    exact ⟨fun h => (e2 h).resolve_left fun e => (by subst e; rw [hmk] at e3; cases e3), e3, fun c hc hsc hx => e4 c hc hsc (.inr hx)⟩
  ·rcases hx with rfl | hx
   ·rw [hmk] at hm; cases hm
   ·exact hI j hj hx hm
 ·obtain ⟨l, hnd, hl, rfl⟩ := hMO
  -- what stays
  have hstay : ∃ l2 : List Nat, l2.Nodup /\ (∀ j, j ∈ l2 ↔ acj M ops.size k X j /\ M.src i ≠ some j) /\ (l.flatMap (fun i => M.O i p)).Perm (M.cons i p ++ l2.flatMap fun i => M.O i p) := by
    unfold Mks.cons
    cases hsc : M.src i with
    | none => exact ⟨l, hnd, fun j => by rw [hl]; simp, .refl _⟩
    | some s =>
      obtain ⟨hne, hah, hms⟩ := hsrc s hsc
      have hsl : s ∈ l := (hl s).2 ⟨fun h => hbef s (hah h) hne, hms, fun c hc hc2 hx => hni (hinj c i s hc hik hc2 hsc ▸ hx)⟩
      refine ⟨l.erase s, hnd.erase s, fun j => ?_, ?_⟩
      ·rw [hnd.mem_erase_iff, hl]
       constructor
       ·rintro ⟨e1, e2⟩; exact ⟨e2, fun h => e1 (Option.some.inj h).symm⟩
       ·rintro ⟨e1, e2⟩; exact ⟨fun h => e2 (by rw [h]), e1⟩
      ·have := (List.perm_cons_erase hsl).flatMap_right fun i => M.O i p
       rwa [List.flatMap_cons] at this
  obtain ⟨l2, hnd2, hl2, hperm⟩ := hstay
  have hpk : cj (M.cons i p ++ (l2.flatMap (fun i => M.O i p) ++ objs)) (l.flatMap (fun i => M.O i p) ++ objs) := .perm (by
    rw [<- List.append_assoc]
    exact (hperm.append_right objs).symm)
  have hJ2 := hJY.pick hpk
  refine .inl (hmake p (l2.flatMap (fun i => M.O i p) ++ objs) (fun x hx => List.mem_append_right _ hx) a w _ Q _ hJ2.mem (hread hJ2) hJ2.gh fun y v w' hIy hsw hgh hr => ?_)
  have heq : l2.flatMap (fun j => M.O j (p.put i y)) = l2.flatMap fun j => M.O j p := by
    have : ∀ l3 : List Nat, (∀ j ∈ l3, j ∈ l2) -> l3.flatMap (fun j => M.O j (p.put i y)) = l3.flatMap fun j => M.O j p := fun l3 => by
      induction l3 with
      | nil => intro _; rfl
      | cons j r ih =>
        intro h
        have hlj := ((hl2 j).1 (h j List.mem_cons_self)).1
        rw [List.flatMap_cons, List.flatMap_cons, ih fun x hx => h x (List.mem_cons_of_mem _ hx)]
        by_cases hjs : j < ops.size
        ·have hoj : ops[j]? = some ops[j] := by simp [hjs]
         have hXj := hlj.1 hjs
         obtain ⟨_, _, _, _, hcj⟩ := hop j _ (hXk j hXj) hoj
         have hOj : yP ops j (M.O j) := by
           rcases hcj with ⟨e, _⟩ | ⟨_, e, _⟩
           ·rw [hlj.2.1] at e; cases e
           ·exact e
         rw [hOj (p.put i y) p fun m hm => Pt.put_ne fun e => hnb j hXj (e ▸ hm)]
        ·rw [hps j hjs (p.put i y) p]
    exact this l2 fun _ h => h
  refine hnext _ _ ⟨p.put i y, M.O i (p.put i y) ++ (l2.flatMap (fun i => M.O i p) ++ objs), ?_, hput2 ((hJ2.move hsw hgh).put hok hk h0 hop hX hni y) hr hsw, fun j hj hx hm => ?_⟩
  ·refine ⟨i :: l2, List.nodup_cons.2 ⟨fun h => hni (((hl2 i).1 h).1.1 hiz), hnd2⟩, fun j => ?_, by rw [List.flatMap_cons, heq, List.append_assoc]⟩
   rw [List.mem_cons, hl2]
   unfold acj
   constructor
   ·rintro (rfl | ⟨⟨e2, e3, e4⟩, e5⟩)
    ·refine ⟨fun _ => .inl rfl, hmk, fun c hc hsc hx => ?_⟩
     have hcs : c < ops.size := by omega
     have hoc : ops[c]? = some ops[c] := by simp [hcs]
     obtain ⟨_, _, _, _, hcc⟩ := hop c _ hc hoc
     rcases hcc with ⟨_, e, _⟩ | ⟨_, _, e, _⟩
     ·rw [hsc] at e; cases e
     ·obtain ⟨e1, e2, _⟩ := e j hsc
      rcases hx with rfl | hx
      ·exact e1 rfl
      ·exact hnb c hx (e2 hiz)
    ·refine ⟨fun h => .inr (e2 h), e3, fun c hc hsc hx => ?_⟩
     rcases hx with rfl | hx
     ·exact e5 hsc
     ·exact e4 c hc hsc hx
   ·rintro ⟨e2, e3, e4⟩
    by_cases hji : j = i
    ·exact .inl hji
    ·exact .inr ⟨⟨fun h => (e2 h).resolve_left hji, e3, fun c hc hsc hx => e4 c hc hsc (.inr hx)⟩, fun h => e4 i hik h (.inl rfl)⟩
  ·rcases hx with rfl | hx
   ·rw [Pt.put_eq]; exact hIy
   ·rw [Pt.put_ne (fun e : j = i => hni (e ▸ hx))]
    exact hI j hj hx hm
theorem ab9 (hok : dl ops = true) {k : Nat} (hk : k <= ops.size) (htl : fN ops k = true) {M : Mks} {σ : Pt -> Nat -> Env} (hop : ∀ c o, c < k -> ops[c]? = some o -> OpM P w0 N ops objs M σ c o) {ms : List Nat} (hms : ms.Nodup) (hmem : ∀ i, i ∈ ms ↔ acj M ops.size k (· < k) i)
   (hQ : ∀ p : Pt, (∀ i, i < k -> M.on i = true -> M.I i (p i)) -> AL P w0 N ops Q (ops.toList.drop k) (σ p k) (ms.flatMap (fun i => M.O i p) ++ objs)) {fuel : Nat} {listed : Array Bool} {a : Act} {w : World} (hsz : listed.size = ops.size) (hun : da listed <= fuel) (hXk : ∀ i, listed.getD i false = true -> i < k)
   (hall : ∀ j, j < k -> listed.getD j false = true) (hJ : JM w0 N ops objs M σ k (fun i => listed.getD i false = true) a w) : wpAny P .any ops Q fuel listed a w := by
 obtain ⟨p, objs', ⟨l, hnd, hl, rfl⟩, hJY, hI⟩ := hJ
 have hp : ms.Perm l := (List.perm_ext_iff_of_nodup hms hnd).2 fun i => by
   rw [hmem, hl]
   unfold acj
   exact ⟨fun ⟨e2, e3, e4⟩ => ⟨fun h => hall i (e2 h), e3, fun c hc hs _ => e4 c hc hs hc⟩, fun ⟨e2, e3, e4⟩ => ⟨fun h => hXk i (e2 h), e3, fun c hc hs _ => e4 c hc hs (hall c hc)⟩⟩
 exact nt hok hk htl (hQ p fun i hi hm => hI i hi (hall i hi) hm) hsz hun hXk hall (hJY.pick (.perm ((hp.flatMap_right fun i => M.O i p).append_right objs)))
theorem zG (hok : dl ops = true) {k : Nat} (hk : k <= ops.size) (htl : fN ops k = true) {M : Mks} {σ : Pt -> Nat -> Env} (hz : ∀ p p' t, lk t (σ p 0) = lk t (σ p' 0)) (hop : ∀ c o, c < k -> ops[c]? = some o -> OpM P w0 N ops objs M σ c o) (hinj : ∀ c c' i, c < k -> c' < k -> M.src c = some i -> M.src c' = some i -> c = c') (hps : ∀ j, ¬ j < ops.size -> ∀ p p', M.O j p = M.O j p')
   {ms : List Nat} (hms : ms.Nodup) (hmem : ∀ i, i ∈ ms ↔ acj M ops.size k (· < k) i) (hQ : ∀ p : Pt, (∀ i, i < k -> M.on i = true -> M.I i (p i)) -> AL P w0 N ops Q (ops.toList.drop k) (σ p k) (ms.flatMap (fun i => M.O i p) ++ objs)) :
   ∀ (fuel : Nat) (listed : Array Bool) (a : Act) (w : World), listed.size = ops.size -> da listed <= fuel -> (∀ i, listed.getD i false = true -> i < k) -> ew ops (fun i => listed.getD i false = true) -> JM w0 N ops objs M σ k (fun i => listed.getD i false = true) a w -> wpAny P .any ops Q fuel listed a w :=
 uG hok hk htl (JM w0 N ops objs M σ k) (fun _ _ _ _ hsz hun hXk hall hJ => ab9 hok hk htl hop hms hmem hQ hsz hun hXk hall hJ) fun _ _ _ _ _ hX hXk ho hik hni hX' hJ _ hnext => afk hok hk hz hop hinj hps hJ hX hXk ho hik hni hX' hnext
end
def pt0 : Pt := fun _ => .no
structure Mki where
 idx : Nat
 O : Pt -> aF
 src : Option Nat
 I : Yu -> Prop
def fnd (L : List Mki) (i : Nat) : Option Mki := L.find? fun m => Nat.beq m.idx i
def Mks.of (L : List Mki) : Mks where
 on i := (fnd L i).isSome
 O i p := match fnd L i with | some m => m.O p | none => []
 src i := (fnd L i).bind (·.src)
 I i y := match fnd L i with | some m => m.I y | none => True
def aa8 (L : List Mki) (src : Option Nat) (p : Pt) : aF := match src with
 | some i => (Mks.of L).O i p
 | none => []
def gy (L : List Mki) : List Mki := L.filter fun m => L.all fun m' => !(match m'.src with | some i => Nat.beq i m.idx | none => false)
structure MWf (L : List Mki) (c : Nat) : Prop where
 lt : ∀ m ∈ L, m.idx < c \/ 1000000 <= m.idx
 pw : L.Pairwise fun a b => a.idx ≠ b.idx /\ ∀ i, a.src = some i -> b.src ≠ some i
theorem xq {L : List Mki} {i : Nat} (h : ∀ m ∈ L, m.idx ≠ i) : fnd L i = none := List.find?_eq_none.2 fun m hm => by
 rw [xU (h m hm)]; decide
theorem qV {new L : List Mki} {c i : Nat} (hn : ∀ m ∈ new, c <= m.idx /\ m.idx < 1000000) (hi : i < c \/ 1000000 <= i) : fnd (new ++ L) i = fnd L i := by
 unfold fnd
 rw [List.find?_append]
 have : new.find? (fun m => Nat.beq m.idx i) = none := xq fun m hm => by have := hn m hm; omega
 rw [this]; rfl
theorem iR {L : List Mki} {i : Nat} {m : Mki} (h : fnd L i = some m) : m ∈ L /\ m.idx = i := ⟨List.mem_of_find?_eq_some h, by
 have := List.find?_some h
 exact Nat.eq_of_beq_eq_true this⟩
theorem xh {L : List Mki} {c : Nat} (h : MWf L c) {m : Mki} (hm : m ∈ L) : fnd L m.idx = some m := by
 have hp := h.pw
 clear h
 induction L with
 | nil => cases hm
 | cons x r ih =>
   obtain ⟨h1, h2⟩ := List.pairwise_cons.1 hp
   unfold fnd
   rw [List.find?_cons]
   rcases List.mem_cons.1 hm with rfl | hm
   ·have : Nat.beq m.idx m.idx = true := Nat.beq_refl _
    simp only [this]
   ·have hne : x.idx ≠ m.idx := (h1 m hm).1
    simp only [xU hne]
    exact ih hm h2
section
variable {P : Program} {w0 : World} {N : Nat} {Q : Exit -> Act -> World -> Prop} {objs : aF} {ops : Array Oper}
inductive DM (P : Program) (w0 : World) (N : Nat) (ops : Array Oper) (objs : aF) (K : List Mki -> (Pt -> Env) -> Prop) : Nat -> List Mki -> List Oper -> (Pt -> Env) -> Prop
 | nil (c : Nat) (L : List Mki) (E : Pt -> Env) (h : K L E) : DM P w0 N ops objs K c L [] E
 | run (c : Nat) (L : List Mki) (o : Oper) (rest : List Oper) (E : Pt -> Env) (d : Nat) (T : Pt -> TV) (hd : o.dst = some d) (hN : Nat.blt d N = true) (hg : o.guard = none) (hi : yP ops c T) (hy : ∀ p R, (∀ x ∈ objs, x ∈ R) -> bj P w0 (E p) R o (T p))
     (h : DM P w0 N ops objs K (c + 1) L rest (fun p => (d, T p) :: E p)) : DM P w0 N ops objs K c L (o :: rest) E
 | make (c : Nat) (L : List Mki) (o : Oper) (rest : List Oper) (E : Pt -> Env) (d : Nat) (O : Pt -> aF) (src : Option Nat) (I : Yu -> Prop) (T : Pt -> TV) (hd : o.dst = some d) (hN : Nat.blt d N = true) (hg : o.guard = none) (hi : yP ops c T) (hO : yP ops c O)
     (hs : ∀ i, src = some i -> (i < ops.size -> rC ops c i) /\ (fnd L i).isSome = true /\ ∀ m ∈ L, m.src ≠ some i) (hm : ∀ p R, (∀ x ∈ objs, x ∈ R) -> MkW P w0 (E p) o (aa8 L src p) R I (fun y => O (p.put c y)) (fun y => T (p.put c y)))
     (h : DM P w0 N ops objs K (c + 1) (⟨c, O, src, I⟩ :: L) rest (fun p => (d, T p) :: E p)) : DM P w0 N ops objs K c L (o :: rest) E
 | makeN (c : Nat) (L : List Mki) (o : Oper) (rest : List Oper) (E : Pt -> Env) (O : Pt -> aF) (src : Option Nat) (I : Yu -> Prop) (T : Pt -> TV) (hd : o.dst = none) (hg : o.guard = none) (hi : yP ops c T) (hO : yP ops c O)
     (hs : ∀ i, src = some i -> (i < ops.size -> rC ops c i) /\ (fnd L i).isSome = true /\ ∀ m ∈ L, m.src ≠ some i) (hm : ∀ p R, (∀ x ∈ objs, x ∈ R) -> MkW P w0 (E p) o (aa8 L src p) R I (fun y => O (p.put c y)) (fun y => T (p.put c y)))
     (h : DM P w0 N ops objs K (c + 1) (⟨c, O, src, I⟩ :: L) rest E) : DM P w0 N ops objs K c L (o :: rest) E
theorem OpM.congr {M : Mks} {σ σ' : Pt -> Nat -> Env} {c : Nat} {o : Oper} (h : OpM P w0 N ops objs M σ c o) (h1 : ∀ p, σ' p c = σ p c) (h2 : ∀ p, σ' p (c + 1) = σ p (c + 1)) : OpM P w0 N ops objs M σ' c o := by
 unfold OpM at h |-
 simpa only [h1, h2] using h
theorem abq {K : List Mki -> (Pt -> Env) -> Prop} {c : Nat} {L : List Mki} {l : List Oper} {E : Pt -> Env} (h : DM P w0 N ops objs K c L l E) (hL : MWf L c) (hbig : c + l.length < 1000000) : ∃ (σ : Pt -> Nat -> Env) (new : List Mki) (Ef : Pt -> Env), K (new ++ L) Ef /\ (∀ m ∈ new, c <= m.idx /\ m.idx < 1000000) /\ MWf (new ++ L) (c + l.length) /\ (∀ p, σ p c = E p) /\ (∀ p, σ p (c + l.length) = Ef p) /\ ∀ j o, l[j]? = some o -> OpM P w0 N ops objs (Mks.of (new ++ L)) σ (c + j) o := by
 induction h with
 | nil c L E h => exact ⟨fun p _ => E p, [], E, h, by simp, hL, fun _ => rfl, fun _ => rfl, by simp⟩
 | run c L o rest E d T hd hN hg hi hy h ih =>
   obtain ⟨σ, new, Ef, h1, h2, h3, h4, h5, h6⟩ := ih ⟨fun m hm => (hL.lt m hm).imp Nat.lt_succ_of_lt id, hL.pw⟩ (by rw [List.length_cons] at hbig; omega)
   rw [List.length_cons] at hbig
   have hfn : fnd (new ++ L) c = none := xq fun m hm => by
     rcases List.mem_append.1 hm with hm | hm
     ·have := h2 m hm; omega
     ·have := hL.lt m hm; omega
   refine ⟨fun p i => if i = c then E p else σ p i, new, Ef, h1, fun m hm => by have := h2 m hm; omega, by rw [List.length_cons, show c + (rest.length + 1) = c + 1 + rest.length by omega]; exact h3, fun p => if_pos rfl, fun p => ?_, fun j o' hj => ?_⟩
   ·dsimp only
    rw [if_neg (by simp), List.length_cons, show c + (rest.length + 1) = c + 1 + rest.length by omega]; exact h5 p
   ·cases j with
    | zero =>
      simp only [List.getElem?_cons_zero, Option.some.injEq] at hj
      subst hj
      refine ⟨T, hg, .inl ⟨d, hd, Nat.blt_eq ▸ hN, fun p t => ?_⟩, hi, .inl ⟨by show (fnd (new ++ L) (c + 0)).isSome = false; rw [Nat.add_zero, hfn]; rfl, by show (fnd (new ++ L) (c + 0)).bind _ = none; rw [Nat.add_zero, hfn]; rfl, fun p R hR => ?_⟩⟩
      ·dsimp only
       rw [if_neg (by omega), if_pos (by omega), Nat.add_zero, h4 p]
      ·dsimp only
       rw [if_pos (by omega)]
       exact hy p R hR
    | succ j =>
      have := h6 j o' (by simpa using hj)
      rw [show c + 1 + j = c + (j + 1) by omega] at this
      exact this.congr (fun p => if_neg (by omega)) fun p => if_neg (by omega)
 | make c L o rest E d O src I T hd hN hg hi hO hs hm h ih =>
   obtain ⟨σ, new, Ef, h1, h2, h3, h4, h5, h6⟩ := ih ⟨fun m hm => by
     rcases List.mem_cons.1 hm with rfl | hm
     ·exact .inl (Nat.lt_succ_self _)
     ·exact (hL.lt m hm).imp Nat.lt_succ_of_lt id, List.pairwise_cons.2 ⟨fun m hm => ⟨by rw [List.length_cons] at hbig; have := hL.lt m hm; dsimp only; omega, fun i hi2 => (hs i hi2).2.2 m hm⟩, hL.pw⟩⟩ (by rw [List.length_cons] at hbig; omega)
   rw [List.length_cons] at hbig
   have happ : new ++ (⟨c, O, src, I⟩ :: L) = (new ++ [⟨c, O, src, I⟩]) ++ L := by simp
   have hfn : fnd (new ++ (⟨c, O, src, I⟩ :: L)) c = some ⟨c, O, src, I⟩ := by
     rw [qV (c := c + 1) h2 (.inl (Nat.lt_succ_self c))]
     unfold fnd
     rw [List.find?_cons]
     have : Nat.beq c c = true := Nat.beq_refl _
     simp only [this]
   have hfl : ∀ i, (i < c \/ 1000000 <= i) -> fnd (new ++ (⟨c, O, src, I⟩ :: L)) i = fnd L i := fun i hic => by
     rw [qV (c := c + 1) h2 (by omega)]
     unfold fnd
     rw [List.find?_cons]
     have : Nat.beq c i = false := xU (by omega)
     simp only [this]
   refine ⟨fun p i => if i = c then E p else σ p i, new ++ [⟨c, O, src, I⟩], Ef, happ ▸ h1, fun m hm => ?_, by rw [List.length_cons, show c + (rest.length + 1) = c + 1 + rest.length by omega]; exact happ ▸ h3, fun p => if_pos rfl, fun p => ?_, fun j o' hj => ?_⟩
   ·rcases List.mem_append.1 hm with hm | hm
    ·have := h2 m hm; omega
    ·simp only [List.mem_singleton] at hm
     subst hm; exact ⟨Nat.le_refl _, by dsimp only; omega⟩
   ·dsimp only
    rw [if_neg (by simp), List.length_cons, show c + (rest.length + 1) = c + 1 + rest.length by omega]; exact h5 p
   ·rw [<- happ]
    cases j with
    | zero =>
      simp only [List.getElem?_cons_zero, Option.some.injEq] at hj
      subst hj
      have hOc : (Mks.of (new ++ (⟨c, O, src, I⟩ :: L))).O c = O := by
        funext p
        show (match fnd (new ++ (⟨c, O, src, I⟩ :: L)) c with | some m => m.O p | none => []) = _
        rw [hfn]
      have hsc : (Mks.of (new ++ (⟨c, O, src, I⟩ :: L))).src c = src := by
        show (fnd (new ++ (⟨c, O, src, I⟩ :: L)) c).bind _ = _
        rw [hfn]; rfl
      have hIc : (Mks.of (new ++ (⟨c, O, src, I⟩ :: L))).I c = I := by
        funext y
        show (match fnd (new ++ (⟨c, O, src, I⟩ :: L)) c with | some m => m.I y | none => True) = _
        rw [hfn]
      rw [Nat.add_zero]
      refine ⟨T, hg, .inl ⟨d, hd, Nat.blt_eq ▸ hN, fun p t => ?_⟩, hi, .inr ⟨by show (fnd (new ++ (⟨c, O, src, I⟩ :: L)) c).isSome = true; rw [hfn]; rfl, by rw [hOc]; exact hO, fun i hi2 => ?_, fun p R hR => ?_⟩⟩
      ·dsimp only
       rw [if_neg (by omega), if_pos rfl, h4 p]
      ·rw [hsc] at hi2
       obtain ⟨e1, e2, _⟩ := hs i hi2
       have hic : i < c \/ 1000000 <= i := by
         obtain ⟨m, hm⟩ := Option.isSome_iff_exists.1 e2
         obtain ⟨g1, g2⟩ := iR hm
         have := hL.lt m g1
         omega
       exact ⟨by omega, e1, by show (fnd (new ++ (⟨c, O, src, I⟩ :: L)) i).isSome = true; rw [hfl i hic]; exact e2⟩
      ·dsimp only
       rw [if_pos rfl, hOc, hIc]
       have hcons : (Mks.of (new ++ (⟨c, O, src, I⟩ :: L))).cons c p = aa8 L src p := by
         unfold Mks.cons aa8
         rw [hsc]
         cases hsr : src with
         | none => rfl
         | some i =>
           have hic : i < c \/ 1000000 <= i := by
             obtain ⟨_, e2, _⟩ := hs i hsr
             obtain ⟨m, hm⟩ := Option.isSome_iff_exists.1 e2
             obtain ⟨g1, g2⟩ := iR hm
             have := hL.lt m g1
             omega
           rw [hsr] at hfl
           show (match fnd (new ++ (⟨c, O, some i, I⟩ :: L)) i with | some m => m.O p | none => []) = (match fnd L i with | some m => m.O p | none => [])
           rw [hfl i hic]
       rw [hcons]
       exact hm p R hR
    | succ j =>
      have := h6 j o' (by simpa using hj)
      rw [show c + 1 + j = c + (j + 1) by omega] at this
      exact this.congr (fun p => if_neg (by omega)) fun p => if_neg (by omega)
 | makeN c L o rest E O src I T hd hg hi hO hs hm h ih =>
   obtain ⟨σ, new, Ef, h1, h2, h3, h4, h5, h6⟩ := ih ⟨fun m hm => by
     rcases List.mem_cons.1 hm with rfl | hm
     ·exact .inl (Nat.lt_succ_self _)
     ·exact (hL.lt m hm).imp Nat.lt_succ_of_lt id, List.pairwise_cons.2 ⟨fun m hm => ⟨by rw [List.length_cons] at hbig; have := hL.lt m hm; dsimp only; omega, fun i hi2 => (hs i hi2).2.2 m hm⟩, hL.pw⟩⟩ (by rw [List.length_cons] at hbig; omega)
   rw [List.length_cons] at hbig
   have happ : new ++ (⟨c, O, src, I⟩ :: L) = (new ++ [⟨c, O, src, I⟩]) ++ L := by simp
   have hfn : fnd (new ++ (⟨c, O, src, I⟩ :: L)) c = some ⟨c, O, src, I⟩ := by
     rw [qV (c := c + 1) h2 (.inl (Nat.lt_succ_self c))]
     unfold fnd
     rw [List.find?_cons]
     have : Nat.beq c c = true := Nat.beq_refl _
     simp only [this]
   have hfl : ∀ i, (i < c \/ 1000000 <= i) -> fnd (new ++ (⟨c, O, src, I⟩ :: L)) i = fnd L i := fun i hic => by
     rw [qV (c := c + 1) h2 (by omega)]
     unfold fnd
     rw [List.find?_cons]
     have : Nat.beq c i = false := xU (by omega)
     simp only [this]
   refine ⟨fun p i => if i = c then E p else σ p i, new ++ [⟨c, O, src, I⟩], Ef, happ ▸ h1, fun m hm => ?_, by rw [List.length_cons, show c + (rest.length + 1) = c + 1 + rest.length by omega]; exact happ ▸ h3, fun p => if_pos rfl, fun p => ?_, fun j o' hj => ?_⟩
   ·rcases List.mem_append.1 hm with hm | hm
    ·have := h2 m hm; omega
    ·simp only [List.mem_singleton] at hm
     subst hm; exact ⟨Nat.le_refl _, by dsimp only; omega⟩
   ·dsimp only
    rw [if_neg (by simp), List.length_cons, show c + (rest.length + 1) = c + 1 + rest.length by omega]; exact h5 p
   ·rw [<- happ]
    cases j with
    | zero =>
      simp only [List.getElem?_cons_zero, Option.some.injEq] at hj
      subst hj
      have hOc : (Mks.of (new ++ (⟨c, O, src, I⟩ :: L))).O c = O := by
        funext p
        show (match fnd (new ++ (⟨c, O, src, I⟩ :: L)) c with | some m => m.O p | none => []) = _
        rw [hfn]
      have hsc : (Mks.of (new ++ (⟨c, O, src, I⟩ :: L))).src c = src := by
        show (fnd (new ++ (⟨c, O, src, I⟩ :: L)) c).bind _ = _
        rw [hfn]; rfl
      have hIc : (Mks.of (new ++ (⟨c, O, src, I⟩ :: L))).I c = I := by
        funext y
        show (match fnd (new ++ (⟨c, O, src, I⟩ :: L)) c with | some m => m.I y | none => True) = _
        rw [hfn]
      rw [Nat.add_zero]
      refine ⟨T, hg, .inr ⟨hd, fun p t => ?_⟩, hi, .inr ⟨by show (fnd (new ++ (⟨c, O, src, I⟩ :: L)) c).isSome = true; rw [hfn]; rfl, by rw [hOc]; exact hO, fun i hi2 => ?_, fun p R hR => ?_⟩⟩
      ·dsimp only
       rw [if_neg (by omega), if_pos rfl, h4 p]
      ·rw [hsc] at hi2
       obtain ⟨e1, e2, _⟩ := hs i hi2
       have hic : i < c \/ 1000000 <= i := by
         obtain ⟨m, hm⟩ := Option.isSome_iff_exists.1 e2
         obtain ⟨g1, g2⟩ := iR hm
         have := hL.lt m g1
         omega
       exact ⟨by omega, e1, by show (fnd (new ++ (⟨c, O, src, I⟩ :: L)) i).isSome = true; rw [hfl i hic]; exact e2⟩
      ·dsimp only
       rw [if_pos rfl, hOc, hIc]
       have hcons : (Mks.of (new ++ (⟨c, O, src, I⟩ :: L))).cons c p = aa8 L src p := by
         unfold Mks.cons aa8
         rw [hsc]
         cases hsr : src with
         | none => rfl
         | some i =>
           have hic : i < c \/ 1000000 <= i := by
             obtain ⟨_, e2, _⟩ := hs i hsr
             obtain ⟨m, hm⟩ := Option.isSome_iff_exists.1 e2
             obtain ⟨g1, g2⟩ := iR hm
             have := hL.lt m g1
             omega
           rw [hsr] at hfl
           show (match fnd (new ++ (⟨c, O, some i, I⟩ :: L)) i with | some m => m.O p | none => []) = (match fnd L i with | some m => m.O p | none => [])
           rw [hfl i hic]
       rw [hcons]
       exact hm p R hR
    | succ j =>
      have := h6 j o' (by simpa using hj)
      rw [show c + 1 + j = c + (j + 1) by omega] at this
      exact this.congr (fun p => if_neg (by omega)) fun p => if_neg (by omega)
theorem wu (L0 : List Mki) (k : Nat) {id : Nat} {l l1 l2 : List Oper} {env : Env} (hm : P.follows .mixedOrders = true) (hok : dl l.toArray = true) (htl : fN l.toArray k = true) (hbl : Nat.blt l.length 1000000 = true) (hc : Cut k l l1 l2) (hL0 : MWf L0 0) (hcon : ∀ m ∈ L0, m.src = none /\ (∀ p p', m.O p = m.O p') /\ ∀ y, m.I y)
   (h : DM P w0 N l.toArray objs (fun L E => ∀ p : Pt, (∀ m ∈ L, m.I (p m.idx)) -> AL P w0 N l.toArray Q l2 (E p) ((gy L).flatMap (fun m => m.O p) ++ objs)) 0 L0 l1 (fun _ => env)) : AW P w0 N (.region id l.toArray true) Q env (L0.flatMap (fun m => m.O pt0) ++ objs) := ⟨fun a w hs => by
 obtain ⟨e1, e2, hkl⟩ := hc.eq
 have hbl : l.length < 1000000 := Nat.blt_eq ▸ hbl
 have hl1 : l1.length = k := by rw [e1, List.length_take]; omega
 obtain ⟨σ, new0, Ef, h1, hnew, h3, h4, h5, h6⟩ := abq h hL0 (by omega)
 rw [hl1, Nat.zero_add] at h5 h3
 have hnk : ∀ m ∈ new0, m.idx < k := fun m hm => by
   have := h3.lt m (List.mem_append_left _ hm)
   have := hnew m hm
   omega
 have hL0i : ∀ m ∈ L0, 1000000 <= m.idx := fun m hm => by have := hL0.lt m hm; omega
 have hmemL : ∀ m, m ∈ new0 ++ L0 -> ¬ m.idx < k -> m ∈ L0 := fun m hm hk => by
   rcases List.mem_append.1 hm with h | h
   ·exact absurd (hnk m h) hk
   ·exact h
 have hL0m : ∀ m ∈ L0, m ∈ new0 ++ L0 := fun m hm => List.mem_append_right _ hm
 generalize new0 ++ L0 = new at h1 h3 h6 hmemL hL0m
 have hop : ∀ c o, c < k -> l.toArray[c]? = some o -> OpM P w0 N l.toArray objs (Mks.of new) σ c o := fun c o hck ho => by
   have := h6 c o (by rw [e1, List.getElem?_take, if_pos hck]; simpa using ho)
   rwa [Nat.zero_add] at this
 have hrep : ∀ i, (Array.replicate l.toArray.size false).getD i false = false := fun i => by
   rcases Nat.lt_or_ge i l.toArray.size with h | h
   ·simp at h; simp [h]
   ·simp at h; simp [Array.getD_eq_getD_getElem?, Array.getElem?_eq_none, h]
 have hsrc : ∀ {c i : Nat}, (Mks.of new).src c = some i -> ∃ m ∈ new, m.idx = c /\ m.src = some i := fun {c i} hci => by
   obtain ⟨m, hm, hmi⟩ := Option.bind_eq_some_iff.1 hci
   obtain ⟨g1, g2⟩ := iR hm
   exact ⟨m, g1, g2, hmi⟩
 have hOof : ∀ {m : Mki} (_ : m ∈ new) (p : Pt), (Mks.of new).O m.idx p = m.O p := fun {m} hm p => by
   show (match fnd new m.idx with | some m => m.O p | none => []) = _
   rw [xh h3 hm]
 have hon : ∀ {m : Mki} (_ : m ∈ new), (Mks.of new).on m.idx = true := fun {m} hm => by
   show (fnd new m.idx).isSome = true
   rw [xh h3 hm]; rfl
 have hfla : ∀ (p : Pt) (l3 : List Mki), (∀ m ∈ l3, m ∈ new) -> (l3.map (·.idx)).flatMap (fun i => (Mks.of new).O i p) = l3.flatMap fun m => m.O p := fun p l3 => by
   induction l3 with
   | nil => intro _; rfl
   | cons x r ih =>
     intro hx
     rw [List.map_cons, List.flatMap_cons, List.flatMap_cons, ih fun y hy => hx y (List.mem_cons_of_mem _ hy), hOof (hx x List.mem_cons_self)]
 have hnd : (gy new).Pairwise fun a b => a.idx ≠ b.idx := (h3.pw.imp fun h => h.1).filter _
 refine wp_region_any hm (zG (objs := objs) hok (k := k) (by simp; omega) htl (M := Mks.of new) (σ := σ) (fun p p' t => by rw [h4, h4]) hop (fun c c' i hck hck' hsc hsc' => ?_) (fun j hj p p' => ?_) (ms := (gy new).map (·.idx)) (List.Pairwise.map _ (fun a b h => h) hnd) (fun i => ?_) (fun p hI => ?_) _ _ _ _ (by simp) (by simp [da]) (fun i hi => by rw [hrep] at hi; cases hi) (fun j oj _ hx => nomatch (hrep j).symm.trans hx) ⟨pt0, L0.flatMap (fun m => m.O pt0) ++ objs, ⟨L0.map (·.idx), List.Pairwise.map _ (fun a b h => h) (hL0.pw.imp fun h => h.1), fun i => ?_, by rw [hfla pt0 L0 hL0m]⟩, ⟨hs.defers, hs.size, ?_, fun t c hc' h7 h8 v hv => ?_⟩, fun i _ hx => nomatch (hrep i).symm.trans hx⟩)
 ·obtain ⟨m, g1, g2, g3⟩ := hsrc hsc
  obtain ⟨m', g1', g2', g3'⟩ := hsrc hsc'
  refine Classical.byContradiction fun hne => ?_
  obtain ⟨x, hx, rfl⟩ := List.getElem_of_mem g1
  obtain ⟨y, hy, rfl⟩ := List.getElem_of_mem g1'
  have hne : x ≠ y := fun e => by subst e; omega
  rcases Nat.lt_or_gt_of_ne hne with hxy | hxy
  ·exact (List.pairwise_iff_getElem.1 h3.pw x y hx hy hxy).2 i g3 g3'
  ·exact (List.pairwise_iff_getElem.1 h3.pw y x hy hx hxy).2 i g3' g3
 ·show (match fnd new j with | some m => m.O p | none => []) = (match fnd new j with | some m => m.O p' | none => [])
  cases hf : fnd new j with
  | none => rfl
  | some m =>
    obtain ⟨g1, g2⟩ := iR hf
    exact (hcon m (hmemL m g1 (by simp at hj; omega))).2.1 p p'
 ·unfold acj
  rw [List.mem_map]
  constructor
  ·rintro ⟨m, hm, rfl⟩
   obtain ⟨g1, g2⟩ := List.mem_filter.1 hm
   refine ⟨fun hlt => ?_, hon g1, fun c hck hsc _ => ?_⟩
   ·have := h3.lt m g1
    simp at hlt
    omega
   ·obtain ⟨m', g1', _, g3'⟩ := hsrc hsc
    have := List.all_eq_true.1 g2 m' g1'
    simp only [g3', Nat.beq_refl, Bool.not_true] at this
    cases this
  ·rintro ⟨hik, hon2, hno⟩
   obtain ⟨m, hm⟩ := Option.isSome_iff_exists.1 (show (fnd new i).isSome = true from hon2)
   obtain ⟨g1, rfl⟩ := iR hm
   refine ⟨m, List.mem_filter.2 ⟨g1, List.all_eq_true.2 fun m' hm' => ?_⟩, rfl⟩
   cases hsr : m'.src with
   | none => rfl
   | some j =>
     have hne : j ≠ m.idx := fun e => by
       subst e
       have hlt : m'.idx < k := Classical.byContradiction fun hk => by
         have := (hcon m' (hmemL m' hm' hk)).1
         rw [hsr] at this; cases this
       exact hno m'.idx hlt (by show (fnd new m'.idx).bind _ = _; rw [xh h3 hm']; exact hsr) hlt
     simp only [xU hne, Bool.not_false]
 ·have hd2 : l.toArray.toList.drop k = l2 := by simpa using e2.symm
  rw [hd2, h5, hfla p (gy new) fun m hm => (List.mem_filter.1 hm).1]
  refine h1 p fun m hm => ?_
  by_cases hlt : m.idx < k
  ·have := hI m.idx hlt (hon hm)
   have e : (Mks.of new).I m.idx = m.I := by
     funext y
     show (match fnd new m.idx with | some m => m.I y | none => True) = _
     rw [xh h3 hm]
   rwa [e] at this
  ·exact (hcon m (hmemL m hm hlt)).2.2 _
 ·unfold acj
  rw [List.mem_map]
  constructor
  ·rintro ⟨m, hm, rfl⟩
   have := hL0i m hm
   exact ⟨fun h => by simp at h; omega, hon (hL0m m hm), fun c _ _ hx => nomatch (hrep c).symm.trans hx⟩
  ·rintro ⟨hx, hon2, _⟩
   obtain ⟨m, hm⟩ := Option.isSome_iff_exists.1 (show (fnd new i).isSome = true from hon2)
   obtain ⟨g1, rfl⟩ := iR hm
   exact ⟨m, hmemL m g1 (fun hlt => nomatch (hrep _).symm.trans (hx (by simp; omega))), rfl⟩
 ·exact hs.mem.grow ⟨hs.mem.below.os, hs.mem.below.tape, hs.mem.below.output, hs.mem.below.size, hs.mem.below.block⟩ (Nat.le_refl _) (fun _ _ => rfl)
 ·have hk0 : ∀ m, m <= c -> lk t (σ pt0 m) = lk t (σ pt0 0) := fun m => by
    induction m with
    | zero => intro _; rfl
    | succ m ih =>
      intro hm2
      have hml : m < l.length := by omega
      obtain ⟨T, _, g, _⟩ := hop m l[m] (by omega) (by simp [hml])
      rcases g with ⟨d, g1, _, g2⟩ | ⟨_, g2⟩
      ·rw [g2, ck, if_neg]
       ·exact ih (by omega)
       ·intro e
        have := h7 m (by omega) (by unfold fL; simp [hml, g1, e])
        rw [hrep] at this; cases this
      ·rw [g2]; exact ih (by omega)
  rw [hk0 c (Nat.le_refl _), h4] at hv
  have hst : jT w (L0.flatMap (fun m => m.O pt0) ++ objs) { w with drawn := w.drawn + 1 } (L0.flatMap (fun m => m.O pt0) ++ objs) := ⟨fun _ _ _ => rfl, fun _ _ h => h, fun _ _ _ rows _ _ h => ⟨⟨rows, h⟩, rfl⟩, Nat.le_refl _, fun h => h⟩
  exact (hs.env t v hv).step hst⟩
theorem fl (k : Nat) {id : Nat} {l l1 l2 : List Oper} {env : Env} (hm : P.follows .mixedOrders = true) (hok : dl l.toArray = true) (htl : fN l.toArray k = true) (hbl : Nat.blt l.length 1000000 = true) (hc : Cut k l l1 l2)
   (h : DM P w0 N l.toArray objs (fun L E => ∀ p : Pt, (∀ m ∈ L, m.I (p m.idx)) -> AL P w0 N l.toArray Q l2 (E p) ((gy L).flatMap (fun m => m.O p) ++ objs)) 0 [] l1 (fun _ => env)) : AW P w0 N (.region id l.toArray true) Q env objs :=
 wu [] k hm hok htl hbl hc ⟨by simp, .nil⟩ (by simp) h
theorem ky (k : Nat) {id : Nat} {l l1 l2 : List Oper} {env : Env} {x : Nat × Nat × aZ} (hm : P.follows .mixedOrders = true) (hok : dl l.toArray = true) (htl : fN l.toArray k = true) (hbl : Nat.blt l.length 1000000 = true) (hc : Cut k l l1 l2)
   (h : DM P w0 N l.toArray objs (fun L E => ∀ p : Pt, (∀ m ∈ L, m.I (p m.idx)) -> AL P w0 N l.toArray Q l2 (E p) ((gy L).flatMap (fun m => m.O p) ++ objs)) 0 [⟨1000000, fun _ => [x], none, fun _ => True⟩] l1 (fun _ => env)) : AW P w0 N (.region id l.toArray true) Q env (x :: objs) :=
 wu [⟨1000000, fun _ => [x], none, fun _ => True⟩] k hm hok htl hbl hc ⟨fun m hm => by simp only [List.mem_singleton] at hm; subst hm; exact .inr (Nat.le_refl _), List.pairwise_singleton _ _⟩ (fun m hm => by simp only [List.mem_singleton] at hm; subst hm; exact ⟨rfl, fun _ _ => rfl, fun _ => trivial⟩) h
end
section
variable {P : Program} {w0 : World} {N : Nat} {Q : Exit -> Act -> World -> Prop} {env : Env} {objs : aF}
end
section
variable {P : Program} {w0 : World} {N : Nat} {Q : Exit -> Act -> World -> Prop} {env : Env} {objs objs' : aF} {o : Oper}
end
inductive Rc (B : Nat) (L L' : aF) : TV -> TV -> Prop
 | same (t : TV) : Rc B L L' t t
 | fz (s b n m : Nat) (rows : List (List TV)) (hm : (s, b, aZ.row m rows) ∈ L) (hn : rows.length = n) (hna : ∀ x ∈ L', x.2.1 = b -> b = 0) : Rc B L L' (.ms s b 0 n) (.sl B m rows)
section
variable {P : Program} {w0 : World} {N : Nat} {Q : Exit -> Act -> World -> Prop} {env : Env} {objs objs' : aF} {o : Oper}
theorem Sim.blocks {a : Act} {w : World} {x y : Nat × Nat × aZ} {L : aF} (h : Sim w0 N env (x :: y :: L) a w) : ∀ z ∈ x :: L, z.2.1 = y.2.1 -> y.2.1 = 0 := fun z hz he => by
 obtain ⟨h1, h2⟩ := List.pairwise_cons.1 h.mem.sites
 obtain ⟨h3, _⟩ := List.pairwise_cons.1 h2
 rcases List.mem_cons.1 hz with rfl | hz
 ·rcases (h1 y List.mem_cons_self).2 with h4 | h4
  ·exact absurd he h4
  ·rw [<- he]; exact h4
 ·rcases (h3 z hz).2 with h4 | h4
  ·exact absurd he.symm h4
  ·exact h4
theorem aaU {ops : Array Oper} {rest : List Oper} {d T0 : Nat} {pos : String} {af : Array Edge} {g : Option (Nat × Bool)} {T : TypeId} {x : Operand} {tv : TV} {l : List TV} (hN : Nat.blt d N = true) (hx : ev env x = some tv) (hl : eN tv = some l)
   (h : ∀ ss b, AL P w0 N ops Q rest ((d, .mp ss b 0) :: env) ((ss, b, .box l) :: objs)) : AO P w0 N ops Q ⟨some d, .box T x, T0, pos, af, g⟩ rest env objs := aeB rfl rfl hN hx hl h
end
end Go.Proofs.YtigipcbnfeoliaaGreatDoor
