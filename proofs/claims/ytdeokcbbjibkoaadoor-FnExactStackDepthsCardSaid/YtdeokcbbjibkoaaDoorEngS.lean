/- The abstract walk, part 11: rows of bytes, of numbers, of texts; a text out of bytes. -/
import Derived.Test.YtdeokcbbjibkoaaDoorEngR
namespace Go.Proofs.YtdeokcbbjibkoaaDoor
open Go Go.RowKit

def bytR (l : List UInt8) : List (List TV) := l.map fun b => [TV.int .u8 (b.toNat : Int)]
def intR (l : List Int) : List (List TV) := l.map fun n => [TV.int .i64 n]
def strR (l : List ByteArray) : List (List TV) := l.map fun s => [TV.str s]
theorem bytR_length (l : List UInt8) : (bytR l).length = l.length := by simp [bytR]
theorem intR_length (l : List Int) : (intR l).length = l.length := by simp [intR]
theorem strR_length (l : List ByteArray) : (strR l).length = l.length := by simp [strR]
theorem intR_set (l : List Int) (k : Nat) (n : Int) : (intR l).set k [TV.int .i64 n] = intR (l.set k n) := by simp [intR, List.map_set]
theorem intR_get {l : List Int} {k : Nat} (h : k < l.length) : (intR l)[k]? = some [TV.int .i64 (l[k]'h)] := row_map h
theorem intR_flatten (l : List Int) : (intR l).flatten = l.map (TV.int .i64) := by
  induction l with
  | nil => rfl
  | cons x l ih => simp only [intR, List.map_cons, List.flatten_cons] at *; rw [ih]; rfl
theorem intR_flat (l : List Int) : ∀ t ∈ (intR l).flatten, t.flat = true := by
  rw [intR_flatten]; intro t ht; obtain ⟨n, _, rfl⟩ := List.mem_map.1 ht; rfl
section
variable {P : Program} {w0 : World} {N : Nat} {Q : Exit → Act → World → Prop} {env : Env} {objs : Objs} {o : Oper}
end
end Go.Proofs.YtdeokcbbjibkoaaDoor
