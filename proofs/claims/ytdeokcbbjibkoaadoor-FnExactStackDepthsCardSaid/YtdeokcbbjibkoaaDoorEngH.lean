/- The abstract walk, part 8: operations under a guard; small laws of numbers. -/
import Derived.Test.YtdeokcbbjibkoaaDoorEngG
namespace Go.Proofs.YtdeokcbbjibkoaaDoor
open Go Go.RowKit

theorem fin_int {B : Nat} {objs : Objs} {L : Nat} {k : IntKind} {m n : Int} (h : m = n) : Fin B objs L (.int k m) (.int k n) := h ▸ .int k m
theorem fin_bool {B : Nat} {objs : Objs} {L : Nat} {m n : Bool} (h : m = n) : Fin B objs L (.bool m) (.bool n) := h ▸ .bool m
theorem lk_int {t : Nat} {env : Env} {k : IntKind} {m n : Int} (h : lk t env = some (.int k m)) (e : m = n) : lk t env = some (.int k n) := e ▸ h
theorem lk_bool {t : Nat} {env : Env} {m n : Bool} (h : lk t env = some (.bool m)) (e : m = n) : lk t env = some (.bool n) := e ▸ h
theorem lk_str {t : Nat} {env : Env} {m n : ByteArray} (h : lk t env = some (.str m)) (e : m = n) : lk t env = some (.str n) := e ▸ h
theorem reps1 {w : World} {t : TV} {vs : Array Value} (hs : vs.size = [t].length) (h : ∀ (i : Nat) (u : TV) (v : Value), [t][i]? = some u → vs[i]? = some v → Rep w [] u v) : ∃ v, vs = #[v] ∧ Rep w [] t v := by
  match vs, hs with
  | ⟨[v]⟩, _ => exact ⟨v, rfl, h 0 t v rfl rfl⟩
/-- A contract in the elder form, of a function from a number to a text. -/
theorem ct_int_str {P : Program} {G : World → Prop} {f : FuncId} {k : IntKind} {n : Int} {s : ByteArray} (h : ∀ w, G w → Calls P f #[.int k n] w fun e w' => e = .returned (.string s) ∧ Below w.heap.size w w') : Ct P G f [.int k n] (fun _ => .str s) := fun w vs _ hG hs hr => by
  obtain ⟨v, rfl, h1⟩ := reps1 hs hr
  rw [h1.int_inv]
  refine (h w hG).mono ?_
  rintro e w' ⟨rfl, hb⟩
  exact ⟨_, rfl, hb, fun _ _ => .str _⟩
theorem ct_str_bool {P : Program} {G : World → Prop} {f : FuncId} {s : ByteArray} {b : Bool} (h : ∀ w, G w → Calls P f #[.string s] w fun e w' => e = .returned (.bool b) ∧ Below w.heap.size w w') : Ct P G f [.str s] (fun _ => .bool b) := fun w vs _ hG hs hr => by
  obtain ⟨v, rfl, h1⟩ := reps1 hs hr
  rw [h1.str_inv]
  refine (h w hG).mono ?_
  rintro e w' ⟨rfl, hb⟩
  exact ⟨_, rfl, hb, fun _ _ => .bool _⟩
theorem row_map {α : Type} {f : α → List TV} {l : List α} {k : Nat} (h : k < l.length) : (l.map f)[k]? = some (f (l[k]'h)) := by rw [List.getElem?_map, List.getElem?_eq_getElem h]; rfl
theorem mh {x : Nat × Nat × TObj} {l : Objs} : x ∈ x :: l := List.mem_cons_self
theorem mt {x y : Nat × Nat × TObj} {l : Objs} (h : x ∈ l) : x ∈ y :: l := List.mem_cons_of_mem _ h
theorem set_row {rows : List (List TV)} {r : List TV} {k : Nat} (h : k < rows.length) : (rows.set k r)[k]? = some r := List.getElem?_set_self h
theorem nat0 : (0 : Int) = ((0 : Nat) : Int) := rfl
theorem nat1 : (1 : Int) = ((1 : Nat) : Int) := rfl
theorem nat2 : (2 : Int) = ((2 : Nat) : Int) := rfl
theorem nat3 : (3 : Int) = ((3 : Nat) : Int) := rfl
theorem w_nn {a b : Nat} (h : a + b ≤ 9223372036854775807) : IntKind.i64.wrap ((a : Int) + (b : Int)) = ((a + b : Nat) : Int) := by rw [IntWalk.i64_in _ (by omega)]; simp
theorem w_n1 {a : Nat} (h : a + 1 ≤ 9223372036854775807) : IntKind.i64.wrap ((a : Int) + 1) = ((a + 1 : Nat) : Int) := by rw [IntWalk.i64_in _ (by omega)]; simp
theorem w_n2 {a : Nat} (h : a + 2 ≤ 9223372036854775807) : IntKind.i64.wrap ((a : Int) + 2) = ((a + 2 : Nat) : Int) := by rw [IntWalk.i64_in _ (by omega)]; simp
theorem w_nm1 {a : Nat} (h : 1 ≤ a ∧ a ≤ 9223372036854775807) : IntKind.i64.wrap ((a : Int) - 1) = ((a - 1 : Nat) : Int) := by rw [IntWalk.i64_in _ (by omega)]; omega
theorem w_u8 (n : Int) (h : 0 ≤ n ∧ n ≤ 255) : IntKind.u8.wrap n = n := by
  simp [IntKind.wrap, IntKind.bits, IntKind.signed]
  omega
end Go.Proofs.YtdeokcbbjibkoaaDoor
