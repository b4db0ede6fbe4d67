/- slices.Repeat as a contract of the walk. -/
import Derived.Test.YtdeokcbbjibkoaaDoorSdD
import Derived.Test.YtdeokcbbjibkoaaDoorRep
namespace Go.Proofs.YtdeokcbbjibkoaaDoor
open Go Go.RowKit
section
variable {w0 w w' : World} {objs : Objs} {ss b : Nat} {ob : TObj}
theorem step_newB (hw : SimW w0 objs w) (hbel : Below w.heap.size w w') (hb : w.heap.size ≤ b) : Step w objs w' ((ss, b, ob) :: objs) := by
  have hk : ∀ k, k < w.heap.size → w'.heap[k]? = w.heap[k]? := fun k hk => hbel.block k hk
  have hpos : 0 < w.heap.size := Nat.lt_of_lt_of_le hw.pos hw.below.size
  refine ⟨fun k h _ => hk k h, fun k h ha => ⟨ha.1, ?_⟩, fun s k m rows h _ hm => ?_, hbel.size, fun hm => ?_⟩
  · obtain ⟨s, o, hm⟩ := ha.2
    rcases List.mem_cons.1 hm with he | hm
    · simp only [Prod.mk.injEq] at he; omega
    · exact ⟨s, o, hm⟩
  · rcases List.mem_cons.1 hm with he | hm
    · simp only [Prod.mk.injEq] at he; omega
    · exact ⟨⟨rows, hm⟩, shape_same (hk k h)⟩
  · rcases List.mem_cons.1 hm with he | hm
    · simp only [marker, Prod.mk.injEq] at he; omega
    · exact hm
theorem SimW.newB (hw : SimW w0 objs w) (hbel : Below w.heap.size w w') (hb : w.heap.size ≤ b) (hs : ∀ x ∈ objs, x.1 ≠ ss) (ho : ObjOk w' w0.heap.size ((ss, b, ob) :: objs) b ob) : SimW w0 ((ss, b, ob) :: objs) w' :=
  ⟨hw.below.trans (hbel.mono hw.below.size), hw.pos, fun s k o hm => by
    rcases List.mem_cons.1 hm with he | hm
    · simp only [Prod.mk.injEq] at he; obtain ⟨rfl, rfl, rfl⟩ := he; exact ho
    · exact (hw.obj s k o hm).step (step_newB hw hbel hb) (hbel.block k (objs_lt hw hm)),
  List.pairwise_cons.2 ⟨fun y hy => ⟨fun e => hs y hy e.symm, .inl (by have := objs_lt (s := y.1) (b := y.2.1) (ob := y.2.2) hw hy; simp only; omega)⟩, hw.sites⟩⟩
end
theorem rep_intRow {w : World} {B b n : Nat} {objs : Objs} (hB : B ≤ b) (hn : n ≤ 1048576) (x : Int) (hb : Blk w b 3 (List.replicate n (Value.int .i64 x)).toArray) : ObjOk w B objs b (.row 1 (intR (List.replicate n x))) := by
  refine ⟨⟨by omega, fun t ht => by have := intR_flat _ t ht; cases t <;> first | rfl | cases this⟩, fun r hr => ?_, .inr ⟨hB, _, _, n, hb, by simp, by simp [intR], by simp [maxLen]; omega, fun j t hj => ?_⟩⟩
  · obtain ⟨y, _, rfl⟩ := List.mem_map.1 hr; rfl
  · rw [intR_flatten, List.getElem?_map, Option.map_eq_some_iff] at hj
    obtain ⟨y, hy, rfl⟩ := hj
    obtain rfl := List.eq_of_mem_replicate (List.mem_of_getElem? hy)
    have hlt : j < n := by simpa using (List.getElem?_eq_some_iff.1 hy).1
    exact ⟨_, by simp [hlt], .int _ _⟩
theorem repeat_ct {G : World → Prop} (lo n : Nat) (hn0 : 1 ≤ n) (hn : n ≤ 1048576) : CtM Tryd.prog G 28 [.sl lo 1 [[.int .i64 (-1)]], .int .i64 n] [] (fun _ : Nat × Nat => True) (fun y => [(y.1, y.2, .row 1 (intR (List.replicate n (-1))))]) (fun y => .ms y.1 y.2 0 n) := fun w0 w R gs vs hG hw hgs hsz hrep => by
  simp only [List.nil_append] at hw hgs hrep
  obtain ⟨v1, v2, rfl⟩ : ∃ v1 v2, vs = #[v1, v2] := by
    match vs, hsz with
    | ⟨[v1, v2]⟩, _ => exact ⟨v1, v2, rfl⟩
  have h1 := hrep 0 _ v1 rfl rfl
  have h2 := (hrep 1 _ v2 rfl rfl).int_inv
  subst h2
  obtain ⟨A, c, rfl, _, _, _, _, h3⟩ := rep_sl h1
  obtain ⟨b, q, u, rfl, _, h5, h6⟩ := h3 0 (.int .i64 (-1)) rfl
  rw [h6.int_inv] at h5
  refine (repeat_any b q c n w (by simpa using h5) hn0 hn).mono ?_
  rintro e w' ⟨rfl, hbel, hblk⟩
  obtain ⟨ss, hss⟩ := site_new R
  have hwB : w0.heap.size ≤ w.heap.size := hw.below.size
  have hst := step_newB (ss := ss) (ob := .row 1 (intR (List.replicate n (-1)))) hw hbel (Nat.le_refl _)
  have hlt : w.heap.size < w'.heap.size := hblk.lt
  have hb0 : w.heap.size ≠ 0 := Nat.ne_of_gt (Nat.lt_of_lt_of_le hw.pos hwB)
  have hw' := hw.newB (ss := ss) hbel (Nat.le_refl _) hss (rep_intRow (w := w') hwB hn (-1) hblk)
  refine ⟨_, (ss, w.heap.size), rfl, trivial, hw', hgs.step hst, .ms _ _ _ _ _ (.mk ⟨hlt, hw'.noMark, _, _, rfl⟩ (fun m rows hm => .inr ⟨hb0, 0, n, 3, n * 1, rfl, Nat.le_refl _, ?_, ?_, fun _ => by simp⟩) (fun h0 => absurd h0 hb0))⟩
  · unfold World.shape?; rw [hblk]; simp
  · rcases List.mem_cons.1 hm with he | hm
    · simp only [Prod.mk.injEq, TObj.row.injEq] at he; rw [he.2.2.1]; simp
    · exact absurd (objs_lt hw hm) (Nat.lt_irrefl _)
end Go.Proofs.YtdeokcbbjibkoaaDoor
