/- The abstract walk, part 11: rows of bytes, of numbers, of texts; a text out of bytes. -/
import Derived.Test.YtagmokkjkmiblaaDoorEngR
namespace Go.Proofs.YtagmokkjkmiblaaDoor
open Go Go.RowKit

def bytR (l : List UInt8) : List (List TV) := l.map fun b => [TV.int .u8 (b.toNat : Int)]
def intR (l : List Int) : List (List TV) := l.map fun n => [TV.int .i64 n]
def strR (l : List ByteArray) : List (List TV) := l.map fun s => [TV.str s]
theorem bytR_length (l : List UInt8) : (bytR l).length = l.length := by simp [bytR]
theorem intR_length (l : List Int) : (intR l).length = l.length := by simp [intR]
theorem strR_length (l : List ByteArray) : (strR l).length = l.length := by simp [strR]
theorem bytR_snoc (l : List UInt8) (b : UInt8) {n : Int} (h : n = (b.toNat : Int)) : bytR l ++ [[TV.int .u8 n]] = bytR (l ++ [b]) := by subst h; simp [bytR]
theorem intR_snoc (l : List Int) (n : Int) : intR l ++ [[TV.int .i64 n]] = intR (l ++ [n]) := by simp [intR]
theorem strR_snoc (l : List ByteArray) (s : ByteArray) : strR l ++ [[TV.str s]] = strR (l ++ [s]) := by simp [strR]
theorem intR_set (l : List Int) (k : Nat) (n : Int) : (intR l).set k [TV.int .i64 n] = intR (l.set k n) := by simp [intR, List.map_set]
theorem intR_get {l : List Int} {k : Nat} (h : k < l.length) : (intR l)[k]? = some [TV.int .i64 (l[k]'h)] := row_map h
theorem strR_get {l : List ByteArray} {k : Nat} (h : k < l.length) : (strR l)[k]? = some [TV.str (l[k]'h)] := row_map h
theorem bytR_flatten (l : List UInt8) : (bytR l).flatten = l.map fun b => TV.int .u8 (b.toNat : Int) := by
  induction l with
  | nil => rfl
  | cons x l ih => simp only [bytR, List.map_cons, List.flatten_cons] at *; rw [ih]; rfl
theorem intR_flatten (l : List Int) : (intR l).flatten = l.map (TV.int .i64) := by
  induction l with
  | nil => rfl
  | cons x l ih => simp only [intR, List.map_cons, List.flatten_cons] at *; rw [ih]; rfl
theorem strR_flatten (l : List ByteArray) : (strR l).flatten = l.map TV.str := by
  induction l with
  | nil => rfl
  | cons x l ih => simp only [strR, List.map_cons, List.flatten_cons] at *; rw [ih]; rfl
theorem intR_flat (l : List Int) : ∀ t ∈ (intR l).flatten, t.flat = true := by
  rw [intR_flatten]; intro t ht; obtain ⟨n, _, rfl⟩ := List.mem_map.1 ht; rfl
theorem strR_flat (l : List ByteArray) : ∀ t ∈ (strR l).flatten, t.flat = true := by
  rw [strR_flatten]; intro t ht; obtain ⟨n, _, rfl⟩ := List.mem_map.1 ht; rfl

section
variable {P : Program} {w0 : World} {N : Nat} {Q : Exit → Act → World → Prop} {env : Env} {objs : Objs} {o : Oper}
theorem foldl_push (l : List UInt8) (r : ByteArray) : (l.map fun b => (b.toNat : Int)).foldl (fun r n => r.push (UInt8.ofNat n.toNat)) r = ⟨r.data ++ l.toArray⟩ := by
  induction l generalizing r with
  | nil => simp
  | cons b l ih =>
    rw [List.map_cons, List.foldl_cons, ih]
    simp [ByteArray.push]
theorem y_conv_bytes {src dst : TypeId} {x : Operand} {s b len : Nat} {l : List UInt8} (ho : o.op = .convert src dst x) (hx : ev env x = some (.ms s b 0 len)) (hobj : (s, b, TObj.row 1 (bytR l)) ∈ objs) (hl : l.length = len)
    (hs : P.underlying src = some (.slice (P.elem src))) (he : P.underlying (P.elem src) = some (.int .u8)) (hd : P.underlying dst = some .string) : Yields P w0 env objs o (.str ⟨l.toArray⟩) := yields_same fun a w hw hop => by
  have h0 := hop x (by simp [ho, Op.operands]) _ hx
  obtain ⟨⟨hm0, hci⟩, hmm, hor⟩ := hw.obj s b _ hobj
  subst hl
  have conv : ∀ v, v = a.eval x → (∀ A n c, v = .slice A n c → (convert src dst v).run P w = (Conv.bytesToString v).run P w) := fun v _ A n c hv => by
    subst hv
    simp only [convert, Sem.run_bind, run_underlying hs, run_underlying hd, Result.andThen_ok]
    simp [run_underlying he, Sem.run_bind]
  refine ⟨.string ⟨l.toArray⟩, ?_, .str _⟩
  simp only [execOp, ho]
  refine exec_v ?_
  rcases (rep_ms h0).2 1 (bytR l) hobj with ⟨_, _, hlen, hv⟩ | ⟨hb0, q, c, e, k, hv, hlc, hsh, hk, hoq⟩
  · rw [conv _ rfl _ _ _ hv, hv]
    have : l = [] := List.eq_nil_of_length_eq_zero hlen
    subst this; rfl
  · have hq : q = 0 := by have := hoq (.inr rfl); omega
    subst hq
    rw [conv _ rfl _ _ _ hv, hv]
    rcases hor with ⟨h1, _⟩ | ⟨hB, cur, e', cap, h3, h4, h5, h6, h7⟩
    · exact absurd h1 hb0
    rw [run_bytesToString w ⟨b, 0, none⟩ l.length c (l.map fun b => (b.toNat : Int))]
    · rw [foldl_push, show (ByteArray.empty.data ++ l.toArray) = l.toArray from Array.empty_append]
    · have := run_loadCells_list (P := P) w ⟨b, 0, none⟩ (l.map fun b => Value.int .u8 (b.toNat : Int)) (fun j v hj => by
        rw [Addr.add_lit, Nat.zero_add, cell_of_row w b j cur e' (0, 0) h3]
        rw [List.getElem?_map] at hj
        cases hlj : l[j]? with
        | none => rw [hlj] at hj; cases hj
        | some z =>
          rw [hlj] at hj
          simp only [Option.map_some, Option.some.injEq] at hj
          subst hj
          obtain ⟨u, h8, h9⟩ := h7 j (.int .u8 (z.toNat : Int)) (by rw [bytR_flatten, List.getElem?_map, hlj]; rfl)
          rw [h8, h9.int_inv])
      rw [List.length_map] at this
      rw [this]
      simp
end
end Go.Proofs.YtagmokkjkmiblaaDoor
