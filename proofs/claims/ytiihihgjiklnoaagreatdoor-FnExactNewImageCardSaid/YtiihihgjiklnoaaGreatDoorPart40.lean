/- Part 40 of the proof: the texts NiW, EngAJ, EngAM, EngAN, NiX. -/
import Derived.Test.YtiihihgjiklnoaaGreatDoorPart39
import Derived.Test.YtiihihgjiklnoaaGreatDoorPart27
import Derived.Test.YtiihihgjiklnoaaGreatDoorPart14
import Derived.Test.YtiihihgjiklnoaaGreatDoorPart16
/- An image that a call gives back: what the caller then owns. -/
namespace Go.Proofs.YtiihihgjiklnoaaGreatDoor
open Go Go.RowKit
theorem nest_newg {α β : Type} {mk : α → β → List TV} {ob : α → β → Objs} {m s b n : Nat} (hmk : ∀ x p objs, (∀ o ∈ ob x p, o ∈ objs) → ∀ t ∈ mk x p, NewOk objs t) (hob : ∀ x p objs s b o, (s, b, o) ∈ ob x p → ObjNew objs o) (l : List α) (ps : List β) :
    (∀ s' b' o, (s', b', o) ∈ (s, b, TObj.row m (nRg mk l ps)) :: nOg ob l ps → ObjNew ((s, b, TObj.row m (nRg mk l ps)) :: nOg ob l ps) o) ∧ NewOk ((s, b, TObj.row m (nRg mk l ps)) :: nOg ob l ps) (.ms s b 0 n) := by
  refine ⟨fun s' b' o h => ?_, .ms _ _ _ _ _ _ List.mem_cons_self⟩
  rcases List.mem_cons.1 h with h | h
  · simp only [Prod.mk.injEq] at h
    obtain ⟨_, _, rfl⟩ := h
    intro t ht
    obtain ⟨r, hr, htr⟩ := List.mem_flatten.1 ht
    obtain ⟨x, p, rfl, hg⟩ := zip_mem hr
    exact hmk x p _ (fun o ho => List.mem_cons_of_mem _ (List.mem_flatten.2 ⟨_, hg ob, ho⟩)) t htr
  · obtain ⟨z, hz, hoz⟩ := List.mem_flatten.1 h
    obtain ⟨x, p, rfl, _⟩ := zip_mem hz
    exact hob x p _ s' b' o hoz
theorem rowsFlat {α : Type} {f : α → List TV} (h : ∀ x, ∀ t ∈ f x, t.flat = true) (l : List α) : ∀ t ∈ (l.map f).flatten, t.flat = true := fun t ht => by
  obtain ⟨r, hr, htr⟩ := List.mem_flatten.1 ht
  obtain ⟨i, _, rfl⟩ := List.mem_map.1 hr
  exact h i t htr
theorem value_new (l : List TValue) (objs : Objs) : ObjNew objs (.row 3 (l.map (TValue.tw 0))) := flat_new (rowsFlat (fun x t ht => by
  simp only [TValue.tw, List.mem_cons, List.not_mem_nil, or_false] at ht
  rcases ht with rfl | rfl | rfl <;> rfl) l)
theorem closure_new (l : List TClosure) (objs : Objs) : ObjNew objs (.row 6 (l.map (TClosure.tw 0))) := flat_new (rowsFlat (fun x t ht => by
  simp only [TClosure.tw, List.mem_cons, List.not_mem_nil, or_false] at ht
  rcases ht with rfl | rfl | rfl | rfl | rfl | rfl <;> rfl) l)
theorem process_new (l : List TProcess) (objs : Objs) : ObjNew objs (.row 2 (l.map (TProcess.tw 0))) := flat_new (rowsFlat (fun x t ht => by
  simp only [TProcess.tw, List.mem_cons, List.not_mem_nil, or_false] at ht
  rcases ht with rfl | rfl <;> rfl) l)
theorem int_new (l : List Int) (objs : Objs) : ObjNew objs (.row 1 (intR l)) := flat_new (rowsFlat (fun x t ht => by
  simp only [List.mem_cons, List.not_mem_nil, or_false] at ht
  rcases ht with rfl; rfl) l)
theorem objMk_new (x : TObject) (p : Pl × Pl) (objs : Objs) (h : ∀ o ∈ objOb x p, o ∈ objs) : ∀ t ∈ objMk x p, NewOk objs t := fun t ht => by
  simp only [objMk, List.mem_cons, List.not_mem_nil, or_false] at ht
  rcases ht with rfl | rfl | rfl | rfl
  · exact .flat _ rfl
  · exact .flat _ rfl
  · exact .ms _ _ _ _ _ _ (h _ List.mem_cons_self)
  · exact .ms _ _ _ _ _ _ (h _ (List.mem_cons_of_mem _ List.mem_cons_self))
theorem objOb_new (x : TObject) (p : Pl × Pl) (objs : Objs) (s b : Nat) (o : TObj) (h : (s, b, o) ∈ objOb x p) : ObjNew objs o := by
  simp only [objOb, List.mem_cons, List.not_mem_nil, or_false, Prod.mk.injEq] at h
  rcases h with ⟨_, _, rfl⟩ | ⟨_, _, rfl⟩
  · exact value_new _ _
  · exact int_new _ _
theorem ctxMk_new (x : TContext) (p : Pl × Pl × Pl) (objs : Objs) (h : ∀ o ∈ ctxOb x p, o ∈ objs) : ∀ t ∈ ctxMk x p, NewOk objs t := fun t ht => by
  simp only [ctxMk, List.mem_cons, List.not_mem_nil, or_false] at ht
  rcases ht with rfl | rfl | rfl | rfl | rfl | rfl | rfl | rfl | rfl | rfl | rfl | rfl | rfl | rfl
  all_goals first
    | exact .flat _ rfl
    | exact .ms _ _ _ _ _ _ (h _ List.mem_cons_self)
    | exact .ms _ _ _ _ _ _ (h _ (List.mem_cons_of_mem _ List.mem_cons_self))
    | exact .ms _ _ _ _ _ _ (h _ (List.mem_cons_of_mem _ (List.mem_cons_of_mem _ List.mem_cons_self)))
theorem ctxOb_new (x : TContext) (p : Pl × Pl × Pl) (objs : Objs) (s b : Nat) (o : TObj) (h : (s, b, o) ∈ ctxOb x p) : ObjNew objs o := by
  simp only [ctxOb, List.mem_cons, List.not_mem_nil, or_false, Prod.mk.injEq] at h
  rcases h with ⟨_, _, rfl⟩ | ⟨_, _, rfl⟩ | ⟨_, _, rfl⟩ <;> exact value_new _ _
theorem st_new (x : TStore) (y : StP) : (∀ s b o, (s, b, o) ∈ stO x y → ObjNew (stO x y) o) ∧ ∀ t ∈ stC x y, NewOk (stO x y) t := by
  have h1 := nest_new (m := 3) (s := y.1.1.1) (b := y.1.1.2) (n := x.classes.length) clsMk_new clsOb_new x.classes y.1.2
  have h2 := nest_newg (m := 4) (s := y.2.1.1.1) (b := y.2.1.1.2) (n := x.objects.length) objMk_new objOb_new x.objects y.2.1.2
  have m1 : ∀ o ∈ clsO x.classes y.1, o ∈ stO x y := fun o h => List.mem_append_left _ h
  have m2 : ∀ o ∈ objO x.objects y.2.1, o ∈ stO x y := fun o h => List.mem_append_right _ (List.mem_append_left _ h)
  have m3 : ∀ o ∈ [(y.2.2.1, y.2.2.2, TObj.row 1 (strR x.output))], o ∈ stO x y := fun o h => List.mem_append_right _ (List.mem_append_right _ h)
  refine ⟨fun s b o h => ?_, fun t ht => ?_⟩
  · rcases List.mem_append.1 h with h | h
    · exact objNew_mono m1 (h1.1 s b o h)
    · rcases List.mem_append.1 h with h | h
      · exact objNew_mono m2 (h2.1 s b o h)
      · simp only [List.mem_singleton, Prod.mk.injEq] at h
        obtain ⟨_, _, rfl⟩ := h
        exact flat_new (strR_flat _)
  · simp only [stC, List.mem_cons, List.not_mem_nil, or_false] at ht
    rcases ht with rfl | rfl | rfl | rfl | rfl | rfl
    · exact newOk_mono m1 h1.2
    · exact newOk_mono m2 h2.2
    · exact .ms _ _ _ _ _ _ (m3 _ List.mem_cons_self)
    · exact .flat _ rfl
    · exact .flat _ rfl
    · exact .flat _ rfl
theorem im_new (x : TImage) (y : ImgPl) : (∀ s b o, (s, b, o) ∈ imO x y → ObjNew (imO x y) o) ∧ NewOk (imO x y) (.agg (imC x y)) := by
  have h1 := cb_new x.base y.1
  have h2 := st_new x.store y.2.1
  have h4 := nest_newg (m := 14) (s := y.2.2.2.1.1.1) (b := y.2.2.2.1.1.2) (n := x.contexts.length) ctxMk_new ctxOb_new x.contexts y.2.2.2.1.2
  have m0 : ∀ o ∈ imO x y, o ∈ imO x y := fun o h => h
  have m1 : ∀ o ∈ cbO x.base y.1, o ∈ imO x y := fun o h => m0 o (List.mem_append_left _ h)
  replace m0 := fun o h => m0 o (List.mem_append_right _ h)
  have m2 : ∀ o ∈ stO x.store y.2.1, o ∈ imO x y := fun o h => m0 o (List.mem_append_left _ h)
  replace m0 := fun o h => m0 o (List.mem_append_right _ h)
  have m3 := m0 _ (List.mem_append_left _ List.mem_cons_self)
  replace m0 := fun o h => m0 o (List.mem_append_right _ h)
  have m4 : ∀ o ∈ ctxO x.contexts y.2.2.2.1, o ∈ imO x y := fun o h => m0 o (List.mem_append_left _ h)
  replace m0 := fun o h => m0 o (List.mem_append_right _ h)
  have m5 := m0 _ (List.mem_append_left _ List.mem_cons_self)
  have m6 := m0 _ (List.mem_append_right _ List.mem_cons_self)
  refine ⟨fun s b o h => ?_, .agg _ fun t ht => ?_⟩
  · rcases List.mem_append.1 h with h | h
    · exact objNew_mono m1 (h1.1 s b o h)
    rcases List.mem_append.1 h with h | h
    · exact objNew_mono m2 (h2.1 s b o h)
    rcases List.mem_append.1 h with h | h
    · simp only [List.mem_singleton, Prod.mk.injEq] at h
      obtain ⟨_, _, rfl⟩ := h
      exact closure_new _ _
    rcases List.mem_append.1 h with h | h
    · exact objNew_mono m4 (h4.1 s b o h)
    rcases List.mem_append.1 h with h | h
    · simp only [List.mem_singleton, Prod.mk.injEq] at h
      obtain ⟨_, _, rfl⟩ := h
      exact process_new _ _
    · simp only [List.mem_singleton, Prod.mk.injEq] at h
      obtain ⟨_, _, rfl⟩ := h
      exact int_new _ _
  · replace ht : t ∈ cbC x.base y.1 ++ (stC x.store y.2.1 ++ [.ms y.2.2.1.1 y.2.2.1.2 0 x.blocks.length, .ms y.2.2.2.1.1.1 y.2.2.2.1.1.2 0 x.contexts.length, .ms y.2.2.2.2.1.1 y.2.2.2.2.1.2 0 x.processes.length, .ms y.2.2.2.2.2.1 y.2.2.2.2.2.2 0 x.ready.length, .int .i64 x.now, .int .i64 x.status, .int .i64 x.value.kind, .int .i64 x.value.number, .str x.value.text, .str x.fault]) := ht
    rcases List.mem_append.1 ht with ht | ht
    · cases h1.2 with
      | flat _ hf => exact absurd hf (by simp [TV.flat])
      | agg _ hk => exact newOk_mono m1 (hk t ht)
    rcases List.mem_append.1 ht with ht | ht
    · exact newOk_mono m2 (h2.2 t ht)
    simp only [List.mem_cons, List.not_mem_nil, or_false] at ht
    rcases ht with rfl | rfl | rfl | rfl | rfl | rfl | rfl | rfl | rfl | rfl
    · exact .ms _ _ _ _ _ _ m3
    · exact newOk_mono m4 h4.2
    · exact .ms _ _ _ _ _ _ m5
    · exact .ms _ _ _ _ _ _ m6
    all_goals exact .flat _ rfl
instance {A B : Type} [Enc (List A)] [Enc (List B)] : Enc (List (A × B)) := ⟨fun y => Enc.enc (y.map Prod.fst, y.map Prod.snd), fun y => match (Enc.dec y : List A × List B) with | (a, b) => a.zip b, fun y => by
  rw [Enc.eq]
  induction y with
  | nil => rfl
  | cons z y ih => simpa using ih⟩
instance : Enc StP := inferInstanceAs (Enc (((Nat × Nat) × List (Nat × Nat)) × ((Nat × Nat) × List ((Nat × Nat) × (Nat × Nat))) × (Nat × Nat)))
instance : Enc ImgPl := inferInstanceAs (Enc (CbP × StP × (Nat × Nat) × ((Nat × Nat) × List ((Nat × Nat) × (Nat × Nat) × (Nat × Nat))) × (Nat × Nat) × (Nat × Nat)))
theorem im_new2 (x : TImage) (v : Bool) (y : ImgPl) (_ : imI x y) : (∀ s b o, (s, b, o) ∈ imO x y → ObjNew (imO x y) o) ∧ NewOk (imO x y) (.tup [.agg (imC x y), .bool v]) :=
  ⟨(im_new x y).1, .tup _ fun t ht => by
    simp only [List.mem_cons, List.not_mem_nil, or_false] at ht
    rcases ht with rfl | rfl
    · exact (im_new x y).2
    · exact .flat _ rfl⟩
end Go.Proofs.YtiihihgjiklnoaaGreatDoor
/- The abstract walk, part 36: stores in a region that draws its order. -/
namespace Go.Proofs.YtiihihgjiklnoaaGreatDoor
open Go Go.RowKit
section
variable {P : Program} {w0 : World} {N : Nat} {Q : Exit → Act → World → Prop} {objs R : Objs} {ops : Array Oper} {env : Env} {T0 : Nat} {pos : String} {af : Array Edge} {g : Option (Nat × Bool)}
end
section
variable {P : Program} {w0 : World} {N : Nat} {Q : Exit → Act → World → Prop} {objs : Objs} {ops : Array Oper} {K : List Mki → (Pt → Env) → Prop} {c : Nat} {L : List Mki} {rest : List Oper} {E : Pt → Env} {T0 : Nat} {pos : String} {af : Array Edge}
end
end Go.Proofs.YtiihihgjiklnoaaGreatDoor
/- make([]T, n) in a region that draws its order. -/
namespace Go.Proofs.YtiihihgjiklnoaaGreatDoor
open Go Go.RowKit
section
variable {P : Program} {w0 : World} {N : Nat} {Q : Exit → Act → World → Prop} {objs R : Objs} {ops : Array Oper} {env : Env} {dd : Option Nat} {T0 : Nat} {pos : String} {af : Array Edge} {g : Option (Nat × Bool)}
theorem mk_make {T : TypeId} {x : Operand} {k : IntKind} {mi : Int} {n m : Nat} {zs : List TV} (hx : ev env x = some (.int k mi)) (hn : mi = (n : Int))
    (hT : P.underlying T = some (.slice (P.elem T))) (hz : zeroOk P (P.elem T) = some zs) (hm : zs.length = m) (hm0 : Nat.blt 0 m = true) (hB : makeB P T m = true) (hbig : n ≤ 1000000000) :
    MkW P w0 env ⟨dd, .makeSlice T x x, T0, pos, af, g⟩ [] R (fun _ => True) (fun y => [(y.a, y.b, .row m (List.replicate n zs))]) (fun y => .ms y.a y.b 0 n) := fun a w K Q hw hop hK => by
  obtain ⟨ss, hf⟩ := site_new ([] ++ R)
  have hm0' : 0 < m := Nat.blt_eq ▸ hm0
  have hv := (ev_mem hop (by simp [Op.operands]) hx).int_inv
  unfold zeroOk at hz
  cases hie : P.info? (P.elem T) with
  | none => rw [hie] at hz; cases hz
  | some i =>
  rw [hie] at hz
  simp only [Option.bind_some] at hz
  cases hzz : i.zero with
  | none => rw [hzz] at hz; cases hz
  | some z =>
  rw [hzz] at hz
  simp only [Option.bind_some] at hz
  have hB' : i.size = m ∧ i.bytes ≤ 1024 := by
    unfold makeB at hB
    rw [hie] at hB
    simp only [Bool.and_eq_true] at hB
    exact ⟨Nat.eq_of_beq_eq_true hB.1, Nat.le_of_ble_eq_true hB.2⟩
  have hrep := fun (w : World) (objs : Objs) => tvL_rep (w := w) (objs := objs) hz
  have hzl : z.cells.size = m := by
    have := (hrep w []).1.1
    rw [← hm, this]; simp
  have hbytes : (i.bytes : Int) * (n : Int) ≤ 281474976710656 := by
    have h1 : i.bytes * n ≤ 1024 * 1000000000 := Nat.mul_le_mul hB'.2 hbig
    have h2 : ((i.bytes * n : Nat) : Int) ≤ ((1024 * 1000000000 : Nat) : Int) := Int.ofNat_le.2 h1
    rw [Int.natCast_mul] at h2
    omega
  have hst := fun cs => step_new hw cs (P.elem T) ss (.row m (List.replicate n zs))
  have hrun : (execOp a.eval ⟨dd, .makeSlice T x x, T0, pos, af, g⟩).run P w = .ok (.value (.slice (some ⟨w.heap.size, 0, none⟩) n n)) (w.alloc (.cells (madeCells z.cells (n * m)) (P.elem T))) := by
    simp only [execOp, hv, hn]
    refine exec_v ?_
    rw [run_make w T (P.elem T) i z hT hie hzz k k (n : Int) (n : Int) (by omega) (by omega) hbytes (by omega), hB'.1]
    simp
  unfold Oper.wp
  rw [hrun]
  have hb0 : w.heap.size ≠ 0 := Nat.ne_of_gt (Nat.lt_of_lt_of_le hw.pos hw.below.size)
  have hcs : (madeCells z.cells (n * m)).size = n * m := size_madeCells _ _
  refine hK (.one ss w.heap.size) _ _ trivial (hw.newObj hf ⟨⟨hm0', fun t ht => ?_⟩, fun r hr => by rw [List.eq_of_mem_replicate hr]; exact hm, .inr ⟨hw.below.size, madeCells z.cells (n * m), P.elem T, n, heap_alloc_new w _, hcs, by simp, by simp only [maxLen]; omega, fun j t hj => ?_⟩⟩) (hst _) (.ms _ _ _ _ _ (.mk ⟨by simp [Yu.b], noMark_new hw #[] 0 ss _, _, _, rfl⟩ (fun m' rows' hm' => .inr ⟨hb0, 0, n, P.elem T, n * m, rfl, Nat.le_refl _, by unfold World.shape?; simp only [Yu.b]; rw [heap_alloc_new]; simp [hcs], ?_, fun _ => by simp⟩) (fun h0 => absurd h0 hb0)))
  · obtain ⟨r, hr, htr⟩ := List.mem_flatten.1 ht
    rw [List.eq_of_mem_replicate hr] at htr
    exact (hrep w []).1.2 t htr
  · obtain ⟨h1, h2⟩ := flat_rep hm hm0' n j t hj
    have hjm : j % m < z.cells.size := by rw [hzl]; exact Nat.mod_lt _ hm0'
    refine ⟨z.cells[j % m], ?_, (hrep _ _).2 (j % m) t _ h2 (by simp [hjm])⟩
    unfold madeCells
    rw [Array.getElem?_map, Array.getElem?_range]
    simp [h1, hzl]
    exact getElem!_pos z.cells (j % m) hjm
  · rcases List.mem_cons.1 hm' with he | hm'
    · simp only [Prod.mk.injEq, TObj.row.injEq] at he; rw [he.2.2.1]; simp
    · exact absurd (objs_lt hw hm') (Nat.lt_irrefl _)
end
section
variable {P : Program} {w0 : World} {N : Nat} {objs : Objs} {ops : Array Oper} {K : List Mki → (Pt → Env) → Prop} {c : Nat} {L : List Mki} {rest : List Oper} {E : Pt → Env} {d T0 : Nat} {pos : String} {af : Array Edge}
theorem m_make {T n m : Nat} {x : Operand} {k : IntKind} {mi : Int} {zs : List TV} (hx : ∀ p, ev (E p) x = some (.int k mi)) (hN : Nat.blt d N = true) (_he : ezT T = zs) (hn : mi = (n : Int))
    (hT : P.underlying T = some (.slice (P.elem T))) (hz : zeroOk P (P.elem T) = some zs) (hm : zs.length = m) (hm0 : Nat.blt 0 m = true) (hB : makeB P T m = true) (hbig : n ≤ 1000000000)
    (h : DM P w0 N ops objs K (c + 1) (⟨c, fun p => [((p c).a, (p c).b, .row m (List.replicate n zs))], none, fun _ => True⟩ :: L) rest (fun p => (d, .ms (p c).a (p c).b 0 n) :: E p)) : DM P w0 N ops objs K c L (⟨some d, .makeSlice T x x, T0, pos, af, none⟩ :: rest) E :=
  .make c L _ rest E d (fun p => [((p c).a, (p c).b, .row m (List.replicate n zs))]) none (fun _ => True) (fun p => .ms (p c).a (p c).b 0 n) rfl hN rfl (ind1 fun y => TV.ms y.a y.b 0 n) (ind1 fun y => [(y.a, y.b, TObj.row m (List.replicate n zs))]) (fun _ h => by cases h) (fun p R hR => by
    have := mk_make (P := P) (w0 := w0) (env := E p) (R := R) (dd := some d) (T0 := T0) (pos := pos) (af := af) (g := none) (hx p) hn hT hz hm hm0 hB hbig
    simpa only [Pt.put_eq, srcO_none] using this) h
end
end Go.Proofs.YtiihihgjiklnoaaGreatDoor
/- A nil slice in a row of one element, taken as a row of nothing that is owned. -/
namespace Go.Proofs.YtiihihgjiklnoaaGreatDoor
open Go Go.RowKit
section
variable {P : Program} {w0 : World} {N : Nat} {Q : Exit → Act → World → Prop} {env : Env} {objs objs' : Objs}
theorem step_nilR (w : World) (s b ss m0 m : Nat) (c c' : List TV) (hm : 0 < m) : Step w ((s, b, .row m0 [c]) :: objs) w ((s, b, .row m0 [c']) :: (ss, 0, .row m []) :: objs) :=
  ⟨fun _ _ _ => rfl, fun b' _ ha => ⟨ha.1, by
    obtain ⟨h0, s', o, hm⟩ := ha
    rcases List.mem_cons.1 hm with he | hm
    · simp only [Prod.mk.injEq] at he
      obtain ⟨rfl, rfl, _⟩ := he
      exact ⟨_, _, List.mem_cons_self⟩
    · rcases List.mem_cons.1 hm with he | hm
      · simp only [Prod.mk.injEq] at he; omega
      · exact ⟨s', o, List.mem_cons_of_mem _ hm⟩⟩, fun s' b' m' rows _ hb hm' => by
    rcases List.mem_cons.1 hm' with he | hm'
    · simp only [Prod.mk.injEq, TObj.row.injEq] at he
      obtain ⟨rfl, rfl, rfl, _⟩ := he
      exact ⟨⟨[c], List.mem_cons_self⟩, rfl⟩
    · rcases List.mem_cons.1 hm' with he | hm'
      · simp only [Prod.mk.injEq] at he; omega
      · exact ⟨⟨rows, List.mem_cons_of_mem _ hm'⟩, rfl⟩, Nat.le_refl _, fun hk => by
    rcases List.mem_cons.1 hk with he | hk
    · simp only [marker, Prod.mk.injEq, TObj.row.injEq] at he
      simp at he
    · rcases List.mem_cons.1 hk with he | hk
      · simp only [marker, Prod.mk.injEq, TObj.row.injEq] at he; omega
      · exact List.mem_cons_of_mem _ hk⟩
theorem Sim.nilR {a : Act} {w : World} {s b m0 : Nat} {cells : List TV} (h : Sim w0 N env ((s, b, .row m0 [cells]) :: objs) a w) (i m : Nat) (hm : 0 < m) (hi : cells[i]? = some .nils) : ∃ ss, Sim w0 N env ((s, b, .row m0 [cells.set i (.ms ss 0 0 0)]) :: (ss, 0, .row m []) :: objs) a w := by
  obtain ⟨ss, hss⟩ := site_new ((s, b, .row m0 [cells]) :: objs)
  have hpos : 0 < w.heap.size := Nat.lt_of_lt_of_le h.mem.pos h.mem.below.size
  have hst : Step w ((s, b, .row m0 [cells]) :: objs) w ((s, b, .row m0 [cells.set i (.ms ss 0 0 0)]) :: (ss, 0, .row m []) :: objs) := step_nilR w s b ss m0 m _ _ hm
  have hnm : marker ∉ (s, b, TObj.row m0 [cells.set i (.ms ss 0 0 0)]) :: (ss, 0, .row m []) :: objs := fun hk => h.mem.noMark (hst.mark hk)
  have hil : i < cells.length := (List.getElem?_eq_some_iff.1 hi).1
  have hob := h.mem.obj _ _ _ (List.mem_cons_self (l := objs))
  have hb0 : b ≠ 0 := by
    obtain ⟨_, _, g3⟩ := hob
    rcases g3 with ⟨_, g3⟩ | ⟨g3, _⟩
    · simp at g3
    · have := h.mem.pos
      omega
  refine ⟨ss, h.defers, h.size, ⟨h.mem.below, h.mem.pos, fun s' b' o hm' => ?_, ?_⟩, fun t v hv => (h.env t v hv).step hst⟩
  · rcases List.mem_cons.1 hm' with he | hm'
    · simp only [Prod.mk.injEq] at he
      obtain ⟨rfl, rfl, rfl⟩ := he
      obtain ⟨⟨g1, g2⟩, g0, g3⟩ := hob
      rcases g3 with ⟨_, g3⟩ | ⟨g3, cur, e, cap, g4, g5, g6, g7, g8⟩
      · simp at g3
      refine ⟨⟨g1, fun t ht => ?_⟩, fun r hr => ?_, .inr ⟨g3, cur, e, cap, g4, g5, g6, g7, fun j t hj => ?_⟩⟩
      · simp only [List.flatten_cons, List.flatten_nil, List.append_nil] at ht g2
        rcases List.mem_or_eq_of_mem_set ht with ht | rfl
        · exact g2 t ht
        · rfl
      · simp only [List.mem_singleton] at hr
        subst hr
        rw [List.length_set]
        exact g0 _ List.mem_cons_self
      · simp only [List.flatten_cons, List.flatten_nil, List.append_nil] at hj g8
        rw [List.getElem?_set] at hj
        split at hj
        · rename_i e1
          subst e1
          try rw [if_pos hil] at hj
          cases hj
          obtain ⟨v, g9, g10⟩ := g8 i _ hi
          refine ⟨v, g9, ?_⟩
          cases g10
          exact .ms ss 0 0 0 _ (.mk ⟨hpos, hnm, none, 0, rfl⟩ (fun _ _ _ => .inl ⟨rfl, rfl, rfl, rfl⟩) fun _ => ⟨rfl, rfl, rfl⟩)
        · obtain ⟨v, g9, g10⟩ := g8 j t hj
          exact ⟨v, g9, g10.step hst⟩
    · rcases List.mem_cons.1 hm' with he | hm'
      · simp only [Prod.mk.injEq] at he
        obtain ⟨rfl, rfl, rfl⟩ := he
        exact ⟨⟨hm, by simp⟩, by simp, .inl ⟨rfl, rfl⟩⟩
      · exact (h.mem.obj s' b' o (List.mem_cons_of_mem _ hm')).step hst rfl
  · obtain ⟨p1, p2⟩ := List.pairwise_cons.1 h.mem.sites
    refine List.pairwise_cons.2 ⟨fun y hy => ?_, List.pairwise_cons.2 ⟨fun y hy => ⟨(hss y (List.mem_cons_of_mem _ hy)).symm, .inr rfl⟩, p2⟩⟩
    rcases List.mem_cons.1 hy with rfl | hy
    · exact ⟨hss (s, b, .row m0 [cells]) List.mem_cons_self, .inl hb0⟩
    · exact p1 y hy
theorem aw_nilR {c : Code} {s b m0 : Nat} {cells : List TV} (i m : Nat) (hm : 0 < m) (hi : cells[i]? = some .nils) (h : ∀ ss, AW P w0 N c Q env ((s, b, .row m0 [cells.set i (.ms ss 0 0 0)]) :: (ss, 0, .row m []) :: objs)) : AW P w0 N c Q env ((s, b, .row m0 [cells]) :: objs) := ⟨fun a w hs => by
  obtain ⟨ss, h1⟩ := hs.nilR i m hm hi
  exact (h ss).run a w h1⟩
end
end Go.Proofs.YtiihihgjiklnoaaGreatDoor
/- A new image of a code base, given back by the program's newImage. -/
namespace Go.Proofs.YtiihihgjiklnoaaGreatDoor
set_option maxRecDepth 20000
set_option maxHeartbeats 2000000
open Go Go.RowKit
def zVal : TValue := ⟨0, 0, ⟨#[]⟩⟩
/-- How many slots the first code wants. -/
def slotsN (x : TCodeBase) : Nat := match x.codes[x.main.toNat]? with | some c => c.slots.toNat | none => 0
def newIm (x : TCodeBase) (q : Int) : TImage := ⟨x, ⟨x.classes, [], [], 0, q, 0⟩, [], [⟨0, x.main, 0, -1, -1, 0, zVal, List.replicate (slotsN x) zVal, [], [], 0, false⟩], [⟨0, true⟩], [], 0, 0, zVal, ⟨#[]⟩⟩
theorem newIm_small {x : TCodeBase} {n : Nat} (q : Int) (hb : x.small n) (hn : 1 ≤ n) (hs : slotsN x ≤ n) : (newIm x q).small n := by
  have hz : TValue.small n zVal := Nat.zero_le _
  refine ⟨hb, ⟨hb.1, ⟨Nat.zero_le _, by simp [newIm]⟩, ⟨Nat.zero_le _, by simp [newIm]⟩⟩, ⟨Nat.zero_le _, by simp [newIm]⟩, ⟨hn, ?_⟩, ⟨hn, ?_⟩, Nat.zero_le _, hz, Nat.zero_le _⟩
  · intro y hy
    simp only [newIm, List.mem_singleton] at hy
    subst hy
    refine ⟨hz, ⟨by simpa using hs, ?_⟩, ⟨Nat.zero_le _, by simp⟩, ⟨Nat.zero_le _, by simp⟩⟩
    intro y hy
    rw [(List.mem_replicate.1 hy).2]
    exact hz
  · intro y hy
    exact trivial
theorem verified_main {x : TCodeBase} (h : verifiedP x) : ∃ (c : TCode) (j : Nat), x.main = j ∧ x.codes[j]? = some c ∧ 0 ≤ c.slots ∧ c.slots ≤ 30 ∧ slotsN x = c.slots.toNat := by
  obtain ⟨_, h2, ⟨h3, _⟩, _, o, _, h5⟩ := h
  have h4 : 0 ≤ x.main ∧ x.main ≤ (x.codes.length : Int) - 1 := by simpa [inR] using h3
  obtain ⟨j, hj⟩ : ∃ j : Nat, x.main = j := ⟨x.main.toNat, by omega⟩
  have hl : j < x.codes.length := by omega
  have h6 := (h5 j hl).1.1
  have h7 : 0 ≤ x.codes[j].slots ∧ x.codes[j].slots ≤ 30 := by simpa [inR] using h6
  have h8 : x.codes[j]? = some x.codes[j] := List.getElem?_eq_getElem hl
  refine ⟨x.codes[j], j, hj, h8, h7.1, h7.2, ?_⟩
  unfold slotsN
  rw [hj, Int.toNat_natCast, h8]
theorem perm_seg (L : List Objs) (p : List Nat) {n : Nat} (hn : L.length = n) (h : p.isPerm (List.range n) = true) : (p.map (fun i => L.getD i [])).flatten.Perm L.flatten := by
  subst hn
  have h1 := (List.isPerm_iff.1 h).map (fun i => L.getD i [])
  have h2 : (List.range L.length).map (fun i => L.getD i []) = L := by
    apply List.ext_getElem
    · simp
    · intro i h1 h2
      simp at h1
      simp [h2]
  rw [h2] at h1
  exact perm_flat h1
theorem pick_eq {a b : Objs} (h : a = b) : Pick a b := h ▸ .refl _
theorem pick_new (s2 s3 srd sbk sou so sC sv st sP s4 : Nat × Nat × TObj) (A B R : Objs) : Pick (s2 :: s3 :: ((B ++ ((A ++ ([so] ++ [sou])) ++ ([sbk] ++ ((sC :: [s4, st, sv]) ++ ([sP] ++ [srd]))))) ++ R)) (s3 :: srd :: sbk :: sou :: so :: sC :: sv :: st :: sP :: s2 :: s4 :: (A ++ (B ++ R))) := .perm (by
  have h := perm_seg (n := 14) [[s2], [s3], B, A, [so], [sou], [sbk], [sC], [s4], [st], [sv], [sP], [srd], R] [1, 12, 6, 5, 4, 7, 10, 9, 11, 0, 8, 3, 2, 13] rfl (by decide)
  simpa using h.symm)
section
variable {G : World → Prop}
set_option maxHeartbeats 2000000 in
theorem implNewImage_own (hst : Stable G) (lo : Nat) (x : TCodeBase) (hb : x.small 1048576) (hv : verifiedP x) (q : Int) : CtM Tryz.prog G 56 [.agg (x.tw lo), .int .i64 q] [] (imI (newIm x q)) (imO (newIm x q)) (fun y => .agg (imC (newIm x q) y)) := by
  refine ctm_enter Tryz.func56 rfl Tryz.ntmps56 rfl rfl rfl fun w0 R gs objsR hG hR => ?_
  obtain rfl := hR.inv0
  clear hR
  obtain ⟨cm, j, hmj, hcm, hs0, hs1, hsn⟩ := verified_main hv
  have hra : (x.codes.map (TCode.tw lo))[j]? = some (cm.tw lo) := by rw [List.getElem?_map, hcm]; rfl
  have hlj : j < x.codes.length := (List.getElem?_eq_some_iff.1 hcm).1
  have hcl := TCode.len lo x.codes
  have hc1 := hb.2.1.1
  rw [show cm.tw lo = [.bool cm.block, .int .i64 cm.params, .int .i64 cm.slots, .sl lo 4 (cm.instrs.map (TInstr.tw lo))] from rfl] at hra
  have c0 := implCopyBase_own hst lo x hb
  have n0 := fun (y : CbP) (_ : cbI x y) => cb_new x y
  have c1 := copyClasses_own hst lo x.classes hb.1
  have n1 := fun (y : (Nat × Nat) × List (Nat × Nat)) (_ : y.2.length = x.classes.length) => nest_new (m := 3) (s := y.1.1) (b := y.1.2) (n := x.classes.length) clsMk_new clsOb_new x.classes y.2
  unfold TCodeBase.tw at c0 ⊢
  unfold cbC at c0 n0
  repeat' (first | refine W_ ?_ | refine e_box ?_ | (refine e_alloc ?_; intro ss bb) | ((with_reducible apply aw_drawM (id := 1) 9); kernel_rfl; kernel_rfl; kernel_rfl; rfl; (repeat (first | exact Cut.zero _ | apply Cut.succ))) | ((with_reducible apply m_q); exact ym_; rfl; exact ind_) | ((with_reducible apply m_build); rfl; (intro p; try dsimp only); (repeat (first | exact TB.nil _ | ((with_reducible apply TB.cons); rfl; rfl; (first | exact .nil _ | exact .put _ _ _ _ _ (.nil _) | exact .skip _ _ _ _ _ (.put _ _ _ _ _ (.nil _)) | exact .skip _ _ _ _ _ (.skip _ _ _ _ _ (.put _ _ _ _ _ (.nil _))) | (repeat (first | exact .nil _ | apply Splice.put | apply Splice.skip))); kernel_rfl))); rfl; kernel_rfl; kernel_rfl; exact ind_) | ((with_reducible apply m_alloc); rfl; rfl; kernel_rfl) | ((with_reducible apply m_call hG hst c0); rfl; kernel_rfl; (intro p; (repeat (first | exact Args.nil | ((with_reducible apply Args.cons); rfl; exact .same _)))); exact n0) | ((with_reducible apply m_call hG hst c1); rfl; kernel_rfl; (intro p; (repeat (first | exact Args.nil | ((with_reducible apply Args.cons); rfl; exact .same _)))); exact n1) | (with_reducible refine DM.nil _ _ _ ?_) | refine c_ (fun hc => ?_) (fun hc => ?_) | refine g_ (fun hg => ?_) (fun hg => ?_))
  generalize ss = s2; generalize bb = b2
  intro p hp
  simp only [List.forall_mem_cons] at hp
  obtain ⟨_, h4, h1, _⟩ := hp
  refine al_obj (objs' := ((p 8).a, (p 8).b, .box TImage.tz) :: (clsO x.classes (Enc.dec (p 4)) ++ (cbO x (Enc.dec (p 1)) ++ ((s2, b2, .box TImage.tz) :: R)))) (by rw [show liveL _ = [_, _, _] from rfl]; simp only [List.flatMap_cons, List.flatMap_nil, List.append_nil, List.append_assoc, List.cons_append, List.nil_append]; rfl) ?_
  unfold TImage.tz
  dsimp only [Nat.reduceAdd] at h1 h4 ⊢
  generalize (Enc.dec (p 4) : (Nat × Nat) × List (Nat × Nat)) = yc at h4 ⊢
  generalize (Enc.dec (p 1) : CbP) = yb at h1 ⊢
  generalize Yu.a (p 8) = s3
  generalize Yu.b (p 8) = b3
  obtain ⟨n, hn⟩ : ∃ n : Nat, n = slotsN x := ⟨_, rfl⟩
  rw [← hn] at hsn
  have hsz : cm.slots = (n : Int) := by omega
  repeat' (first | refine W_ ?_ | refine e_storep ?_ | ((with_reducible apply aw_drawM (id := 2) 11); kernel_rfl; kernel_rfl; kernel_rfl; rfl; (repeat (first | exact Cut.zero _ | apply Cut.succ))) | ((with_reducible apply m_q); exact ym_; rfl; exact ind_) | ((with_reducible apply m_build); rfl; (intro p; try dsimp only); (repeat (first | exact TB.nil _ | ((with_reducible apply TB.cons); rfl; rfl; (first | exact .nil _ | exact .put _ _ _ _ _ (.nil _) | exact .skip _ _ _ _ _ (.put _ _ _ _ _ (.nil _)) | exact .skip _ _ _ _ _ (.skip _ _ _ _ _ (.put _ _ _ _ _ (.nil _))) | (repeat (first | exact .nil _ | apply Splice.put | apply Splice.skip))); kernel_rfl))); rfl; kernel_rfl; kernel_rfl; exact ind_) | ((with_reducible apply m_make); (intro p; rfl); rfl; rfl; exact hsz; kernel_rfl; kernel_rfl; rfl; rfl; kernel_rfl; omega) | (with_reducible refine DM.nil _ _ _ ?_) | refine c_ (fun hc => ?_) (fun hc => ?_) | refine g_ (fun hg => ?_) (fun hg => ?_))
  intro p hp
  refine al_obj (objs' := ((p 9).a, (p 9).b, .row 3 (List.replicate n TValue.tz)) :: ((s3, b3, .box [.ms yb.1.1.1 yb.1.1.2 0 x.classes.length, .ms yb.2.1.1.1 yb.2.1.1.2 0 x.codes.length, .ms yb.2.2.1 yb.2.2.2 0 x.entries.length, .int .i64 x.main, .ms yc.1.1 yc.1.2 0 x.classes.length, .nils, .nils, .int .i64 0, .int .i64 q, .int .i64 0, .nils, .nils, .nils, .nils, .int .i64 0, .int .i64 0, .int .i64 0, .int .i64 0, .str ⟨#[]⟩, .str ⟨#[]⟩]) :: (clsO x.classes yc ++ (cbO x yb ++ ((s2, b2, .box TImage.tz) :: R))))) (by rw [show liveL _ = [_] from rfl]; simp only [List.flatMap_cons, List.flatMap_nil, List.append_nil, List.cons_append, List.nil_append]; rfl) ?_
  dsimp only [Nat.reduceAdd]
  generalize Yu.a (p 9) = s4
  generalize Yu.b (p 9) = b4
  unfold TImage.tz
  refine al_pick (objs' := (s2, b2, .box [.nils, .nils, .nils, .int .i64 0, .nils, .nils, .nils, .int .i64 0, .int .i64 0, .int .i64 0, .nils, .nils, .nils, .nils, .int .i64 0, .int .i64 0, .int .i64 0, .int .i64 0, .str ⟨#[]⟩, .str ⟨#[]⟩]) :: (s4, b4, .row 3 (List.replicate n TValue.tz)) :: (s3, b3, .box [.ms yb.1.1.1 yb.1.1.2 0 x.classes.length, .ms yb.2.1.1.1 yb.2.1.1.2 0 x.codes.length, .ms yb.2.2.1 yb.2.2.2 0 x.entries.length, .int .i64 x.main, .ms yc.1.1 yc.1.2 0 x.classes.length, .nils, .nils, .int .i64 0, .int .i64 q, .int .i64 0, .nils, .nils, .nils, .nils, .int .i64 0, .int .i64 0, .int .i64 0, .int .i64 0, .str ⟨#[]⟩, .str ⟨#[]⟩]) :: (clsO x.classes yc ++ (cbO x yb ++ R))) (.perm (by
    have h := List.perm_middle (l₁ := (clsO x.classes yc ++ cbO x yb)) (l₂ := R) (a := (s2, b2, TObj.box [.nils, .nils, .nils, .int .i64 0, .nils, .nils, .nils, .int .i64 0, .int .i64 0, .int .i64 0, .nils, .nils, .nils, .nils, .int .i64 0, .int .i64 0, .int .i64 0, .int .i64 0, .str ⟨#[]⟩, .str ⟨#[]⟩]))
    simp only [List.append_assoc] at h
    exact (((h.cons _).cons _).trans (((List.Perm.swap _ _ _).cons _).trans (List.Perm.swap _ _ _))).symm)) ?_
  repeat' (first | refine H_ 4 ?_ | refine e_storep ?_ | (refine e_own ?_; intro ss bb) | refine e_build ?_ | refine c_ (fun hc => ?_) (fun hc => ?_) | refine g_ (fun hg => ?_) (fun hg => ?_))
  refine ⟨?_⟩
  rename_i sC bC
  generalize ss = sP
  generalize bb = bP
  refine aw_pick (.perm (List.Perm.swap _ _ _)) ?_
  refine aw_nilR 10 3 (by decide) rfl fun st => ?_
  refine aw_nilR 11 3 (by decide) rfl fun sv => ?_
  refine aw_pick (.perm (List.perm_middle (l₁ := [_, _, _, _, _, _])).symm) ?_
  simp only [List.cons_append, List.nil_append]
  refine aw_nilC 5 4 (by decide) rfl fun so => ?_
  refine aw_nilC 6 1 (by decide) rfl fun sou => ?_
  refine aw_nilC 10 6 (by decide) rfl fun sbk => ?_
  refine aw_nilC 13 1 (by decide) rfl fun srd => ?_
  dsimp only [List.set]
  refine aw_pick (pick_new _ _ _ _ _ _ _ _ _ _ _ _ _ _) ?_
  repeat' (first | refine W_ ?_ | ((with_reducible apply o_load_agg_mp); rfl; rfl; kernel_rfl; kernel_rfl; kernel_rfl; rfl; (repeat (first | with_reducible exact mh | with_reducible refine mt ?_)); (repeat (first | exact .zero _ | apply Taken.succ))) | ((with_reducible apply o_load_agg_cp); rfl; rfl; kernel_rfl; kernel_rfl; kernel_rfl; rfl; (repeat (first | exact .zero _ | apply Taken.succ))) | ((with_reducible apply o_load_agg_me); rfl; rfl; kernel_rfl; kernel_rfl; kernel_rfl; rfl; (repeat (first | with_reducible exact mh | with_reducible refine mt ?_)); (first | (with_reducible assumption) | (refine row_map ?_; omega) | (refine set_row ?_; simp only [List.length_set, List.length_map]; omega) | exact rfl | assumption); (repeat (first | exact .zero _ | apply Taken.succ))) | refine e_storep ?_ | refine c_ (fun hc => ?_) (fun hc => ?_) | refine g_ (fun hg => ?_) (fun hg => ?_))
  have e : (List.replicate n zVal).map (TValue.tw 0) = List.replicate n TValue.tz := by rw [List.map_replicate]; rfl
  subst hn
  refine aq_retm1 (t1 := .agg [.ms yb.1.1.1 yb.1.1.2 0 x.classes.length, .ms yb.2.1.1.1 yb.2.1.1.2 0 x.codes.length, .ms yb.2.2.1 yb.2.2.2 0 x.entries.length, .int .i64 x.main, .ms yc.1.1 yc.1.2 0 x.classes.length, .ms so 0 0 0, .ms sou 0 0 0, .int .i64 0, .int .i64 q, .int .i64 0, .ms sbk 0 0 0, .ms sC bC 0 1, .ms sP bP 0 1, .ms srd 0 0 0, .int .i64 0, .int .i64 0, .int .i64 0, .int .i64 0, .str ⟨#[]⟩, .str ⟨#[]⟩]) x_ rfl (yb, (yc, ((so, 0), []), (sou, 0)), (sbk, 0), ((sC, bC), [((s4, b4), (st, 0), (sv, 0))]), (sP, bP), (srd, 0)) ⟨h1, ⟨h4, rfl⟩, rfl⟩ rfl (.app _ R) (.drop (.drop ?_)) (.cell _ _ _ _ _ rfl mm_ (by kernel_rfl) (by kernel_rfl) (by kernel_rfl)) rfl
  refine pick_eq ?_
  rw [← e]
  simp [imO, stO, ctxO, objO, nRg, nOg, ctxMk, ctxOb, newIm, zVal, TProcess.tw, intR, strR]
end
end Go.Proofs.YtiihihgjiklnoaaGreatDoor
