/- Part 17 of the proof: the texts ImU. -/
import Derived.Test.YthpdkhejeookhaaGreatDoorPart15d
import Derived.Test.YthpdkhejeookhaaGreatDoorPart16d
/- The law FnExactIsImage, walked. -/
namespace Go.Proofs.YthpdkhejeookhaaGreatDoor
set_option maxRecDepth 20000
open Go Go.RowKit
theorem tM (x : aC) : x.pt.tvs = x.tw 0 := by simp [PT.tvs, PT.tvsL, aC.pt, aC.tw]
theorem rO {t : PT} {x : aR} (h : em t x) : t.tvs = x.tw 0 := by
  obtain ⟨A2, c2, A3, c3, rfl⟩ := h
  simp [PT.tvs, PT.tvsL, aR.tw, aC.pt, aC.tw, bv, PT.rowsL_map, Function.comp_def]
theorem tG {t : PT} {x : br} (h : eG t x) : t.tvs = x.tw 0 := by
  obtain ⟨A0, c0, l0, A1, c1, l1, A2, c2, h0, h1, rfl⟩ := h
  simp only [PT.tvs, PT.tvsL, br.tw, j1 h0 (fun _ _ => iL), j1 h1 (fun _ _ => rO), PT.rowsL_map, List.map_map, List.append_nil, List.cons_append, List.nil_append]
  rfl
theorem pC {t : PT} {x : aL} (h : dJ t x) : t.tvs = x.tw 0 := by
  obtain ⟨A7, c7, A8, c8, A9, c9, rfl⟩ := h
  simp [PT.tvs, PT.tvsL, aL.tw, aC.pt, aC.tw, PT.rowsL_map, Function.comp_def]
theorem uJ {t : PT} {x : aM} (h : eD t x) : t.tvs = x.tw 0 := by
  obtain ⟨t0, t1, A2, c2, A3, c3, l3, A4, c4, A5, c5, h0, h1, h3, rfl⟩ := h
  simp only [PT.tvs, PT.tvsL, nS h0, tG h1, aM.tw, ba.tw, br.tw, j1 h3 (fun _ _ => pC), PT.rowsL_map, List.map_map, List.append_nil, List.cons_append, List.nil_append, tM]
  rfl
theorem oY {w : World} {S : Nat → Prop} {t : PT} {x : aR} (h : em t x) (hs : dl w S t) (hx : x.sane) : aR.small 9223372036854775807 x := by
  obtain ⟨A2, c2, A3, c3, rfl⟩ := h
  simp only [dl, cg] at hs
  obtain ⟨_, _, ⟨a1, a2, _⟩, ⟨b1, b2, _⟩, _⟩ := hs
  simp only [List.length_map] at a1 b1
  exact ⟨⟨Nat.le_trans a1 a2, fun y hy => (hx.2.2.1 y hy).2.2⟩, Nat.le_trans b1 b2⟩
theorem pG {w : World} {S : Nat → Prop} {t : PT} {x : br} (h : eG t x) (hs : dl w S t) (hx : x.sane) : br.small 9223372036854775807 x := by
  obtain ⟨A0, c0, l0, A1, c1, l1, A2, c2, h0, h1, rfl⟩ := h
  simp only [dl, cg] at hs
  obtain ⟨⟨a1, a2, _, _, a5⟩, ⟨b1, b2, _, _, b5⟩, ⟨d1, d2, _, _, _⟩, _⟩ := hs
  simp only [List.length_map] at d1
  exact ⟨⟨by rw [← h0.1]; exact Nat.le_trans a1 a2, fK h0 a5 (fun _ _ => fM) hx.1⟩, ⟨by rw [← h1.1]; exact Nat.le_trans b1 b2, fK h1 b5 (fun _ _ => oY) hx.2.1⟩, Nat.le_trans d1 d2, hx.2.2.1⟩
theorem mz {w : World} {S : Nat → Prop} {t : PT} {x : aL} (h : dJ t x) (hs : dl w S t) (hx : x.sane) : aL.small 9223372036854775807 x := by
  obtain ⟨A7, c7, A8, c8, A9, c9, rfl⟩ := h
  simp only [dl, cg] at hs
  obtain ⟨_, _, _, _, _, _, _, ⟨a1, a2, _⟩, ⟨b1, b2, _⟩, ⟨d1, d2, _⟩, _⟩ := hs
  simp only [List.length_map] at a1 b1 d1
  obtain ⟨_, _, _, _, _, _, g6, g7, g8, g9, _⟩ := hx
  exact ⟨g6.2.2, ⟨Nat.le_trans a1 a2, fun y hy => (g7 y hy).2.2⟩, ⟨Nat.le_trans b1 b2, fun y hy => (g8 y hy).2.2⟩, ⟨Nat.le_trans d1 d2, fun y hy => (g9 y hy).2.2⟩⟩
theorem pv {w : World} {S : Nat → Prop} {t : PT} {x : aM} (h : eD t x) (hs : dl w S t) (hx : x.sane) : aM.small 9223372036854775807 x := by
  obtain ⟨t0, t1, A2, c2, A3, c3, l3, A4, c4, A5, c5, h0, h1, h3, rfl⟩ := h
  simp only [dl, cg] at hs
  obtain ⟨s0, s1, ⟨a1, a2, _⟩, ⟨b1, b2, _, _, b5⟩, ⟨d1, d2, _⟩, ⟨e1, e2, _⟩, _⟩ := hs
  simp only [List.length_map] at a1 d1 e1
  obtain ⟨g0, g1, g2, g3, _, _, _, _, g8, g9⟩ := hx
  exact ⟨lg h0 s0 g0, pG h1 s1 g1, ⟨Nat.le_trans a1 a2, fun y hy => (g2 y hy).2.2.2.2.2⟩, ⟨by rw [← h3.1]; exact Nat.le_trans b1 b2, fK h3 b5 (fun _ _ => mz) g3⟩, ⟨Nat.le_trans d1 d2, fun _ _ => trivial⟩, Nat.le_trans e1 e2, g8.2.2, g9⟩
set_option maxRecDepth 4000 in
set_option maxHeartbeats 4000000 in
theorem iU (x : aM) (hb : x.small 9223372036854775807) : Ct Tryz.prog GL 7 [.agg (x.tw 0)] (fun _ => .bool true) := by
  have hst := cZ
  have hto := fun hx => se hst 0 x hx
  refine aJ Tryz.func7 rfl Tryz.ntmps7 rfl rfl fun w0 _ hG => ?_
  have hsp := fun hx => kX w0.heap.size x hx
  have him := fun hx => lq w0.heap.size x hx
  have heq := fun hx => rS hst w0.heap.size w0.heap.size x hx
  have hsz := sT hst 0 x 1048576 (by omega) hb
  generalize dX x = V at hsp him
  unfold aM.tw at hto hsp him heq hsz ⊢
  repeat' (first | ((with_reducible apply o_y); exact y_; rfl) | refine bf ?_ | ((with_reducible apply bE); rfl; kernel_rfl; (repeat (first | exact bA.nil | ((with_reducible apply bA.cons); rfl))); exact hG; exact hsz; exact .nil _; intro y hy; refine bI ?_) | with_reducible refine bx (id := 3) ?_ | with_reducible refine ab rfl ?_ | (with_reducible first | apply ag | apply aa | apply ah | apply ac))
  refine ⟨?_⟩
  by_cases hneg : y < 0
  · repeat' (first | ((with_reducible apply o_y); exact y_; rfl) | with_reducible refine ab rfl ?_ | (with_reducible first | apply ag | apply aa | apply ah | apply ac | apply au | apply ad) | (refine ae rfl rr_ dd_ ?_))
    refine ao x_ rfl (.tmp _ _ rfl) (fun _ => ?_)
    exact Fin.flat rfl
  have hx := hy.2.2 (by omega)
  replace hto := hto hx
  replace hsp := hsp hx
  replace him := him hx
  replace heq := heq hx
  clear hb hy hsz
  have hne : (V != V) = false := by simp
  repeat' (first | ((with_reducible apply o_y); exact y_; rfl) | (refine aI ?_; intro ss bb) | refine aA ?_ | with_reducible refine aF (by kernel_rfl) (by kernel_rfl) ?_ | with_reducible refine aN ?_ | with_reducible refine aE rfl ?_ | ((with_reducible apply d_y); exact y_; rfl) | refine aw hG hst (hto) ?_ | refine aw hG hst (hsp) ?_ | refine aw hG hst (him) ?_ | refine ay hG hst (hto) ?_ | refine ay hG hst (heq) ?_ | with_reducible refine ab rfl ?_ | (with_reducible first | apply ag | apply aa | apply ah | apply ac | apply ap | apply au | apply ad) | refine az rfl rr_ ?_ | (refine aj rfl rr_ dd_ ?_) | (refine cf rfl rr_ (fun hc => ?_) (fun hc => ?_)))
  all_goals first
    | (refine ao x_ rfl (.tmp _ _ rfl) (fun _ => ?_)
       exact Fin.flat rfl)
    | (exfalso; simp_all; done)
theorem ex (w : World) (t : PT) (x : aM) (hat : eD t x) (hsee : dl w (· < w.heap.size) t) (hx : x.sane) (hm : oB w) : Calls Tryz.prog 7 #[.agg t.cells.toArray] w fun e w' => e = .returned (.bool true) ∧ Below w.heap.size w w' := by
  have h0 : 0 < w.heap.size := by
    obtain ⟨m, hm⟩ := hm
    have := World.block_lt_of_cell? w _ hm
    omega
  have hok := xo w _ _ hsee
  have hsm := pv hat hsee hx
  rw [uJ hat] at hok
  refine (iU x hsm w _ h0 hm rfl ?_).mono ?_
  · intro i t v h1 h2
    match i, h1, h2 with
    | 0, h1, h2 =>
      cases h1; cases h2
      exact .agg _ _ hok.2.1 (by simpa using hok.1) (fun i t v ht hv => hok.2.2 i t v ht (by simpa using hv))
  · rintro e w' ⟨v, rfl, hb, hr⟩
    have := (hr 0 (Nat.zero_le _)).bool_inv
    subst this
    exact ⟨rfl, hb⟩
end Go.Proofs.YthpdkhejeookhaaGreatDoor
