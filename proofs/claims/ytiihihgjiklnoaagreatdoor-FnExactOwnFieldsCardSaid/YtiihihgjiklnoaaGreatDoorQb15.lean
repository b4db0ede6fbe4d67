/- Part 15 of the proof: the texts EngAK, EngAL. -/
import Derived.Test.YtiihihgjiklnoaaGreatDoorQb10
import Derived.Lib.LazyBuf
import Derived.Test.YtiihihgjiklnoaaGreatDoorQb7
/- The abstract walk, part 37: the builtin min of two integers. -/
namespace Go.Proofs.YtiihihgjiklnoaaGreatDoor
open Go Go.RowKit
section
variable {P : Program} {w0 : World} {N : Nat} {Q : Exit → Act → World → Prop} {env : Env} {objs : aI} {o : Oper}
theorem adE {x y : Operand} {ts : Array TypeId} {k : IntKind} {m n : Int} (ho : o.op = .call { callee := .builtin .min, args := #[x, y], argTypes := ts }) (hx : ev env x = some (.int k m)) (hy : ev env y = some (.int k n)) : aS P w0 env objs o (.int k (if n < m then n else m)) := aL fun a w hw hop => by
  have h0 := (hop x (by simp [ho, Op.operands, Call.operands]) _ hx).int_inv
  have h1 := (hop y (by simp [ho, Op.operands, Call.operands]) _ hy).int_inv
  refine ⟨.int k (if n < m then n else m), ?_, .int _ _⟩
  simp only [execOp, ho, resolve, Sem.run_bind, Sem.run_pure, Result.andThen_ok, invoke, builtin, List.map_toArray, List.map_cons, List.map_nil, h0, h1]
  simp [Builtin.min_, Builtin.min2, Sem.run_pure, Result.andThen_ok]
theorem adD {ops : Array Oper} {rest : List Oper} {d T0 : Nat} {pos : String} {af : Array Edge} {g : Option (Nat × Bool)} {x y : Operand} {ts : Array TypeId} {k : IntKind} {m n : Int} (hN : Nat.blt d N = true) (hx : ev env x = some (.int k m)) (hy : ev env y = some (.int k n)) (h : AL P w0 N ops Q rest ((d, .int k (if n < m then n else m)) :: env) objs) :
    AO P w0 N ops Q ⟨some d, .call { callee := .builtin .min, args := #[x, y], argTypes := ts }, T0, pos, af, g⟩ rest env objs := uM rfl hN (adE rfl hx hy) h
end
section
variable {P : Program} {w0 : World} {N : Nat} {Q : Exit → Act → World → Prop} {env : Env} {objs : aI} {ops : Array Oper} {rest : List Oper}
def ack (P : Program) (T : TypeId) : Bool := match P.underlying T with
  | some (.slice _) => true
  | _ => false
theorem yJ {d : Nat} {T T0 t2 : TypeId} {pos : String} {af : Array Edge} {g : Option (Nat × Bool)} {x : Operand} {f m : Nat} {rows : List (List TV)} (hN : Nat.blt d N = true) (hx : ev env x = some (.sl f m rows)) (hm : Nat.blt 0 m = true) (hT : ack P T = true)
    (h : ∀ b : Bool, (b = true → rows = []) → AL P w0 N ops Q rest ((d, .bool b) :: env) objs) : AO P w0 N ops Q ⟨some d, .binOp .eql T x (.const (.slice none 0 0)) t2, T0, pos, af, g⟩ rest env objs :=
  ⟨fun a w K hs hK => by
    have hr := eR hs hx
    obtain ⟨A, c, hA, hn⟩ : ∃ A c, a.eval x = .slice A rows.length c ∧ (A = none → rows = []) := by
      generalize a.eval x = v at hr
      cases hr with
      | sl _ _ _ A c h1 h2 hm2 hi gg hc hrr =>
        refine ⟨A, c, rfl, fun hA => ?_⟩
        cases rows with
        | nil => rfl
        | cons r rs =>
          exfalso
          have hl := hm2 r List.mem_cons_self
          have hm0 : 0 < m := Nat.le_of_ble_eq_true hm
          cases r with
          | nil => simp at hl; omega
          | cons t ts =>
            obtain ⟨b, o, hA2, _⟩ := hc 0 t (by simp)
            rw [hA] at hA2; cases hA2
    unfold ack at hT
    split at hT
    · rename_i e hu
      have h1 : (execOp a.eval ⟨some d, .binOp .eql T x (.const (.slice none 0 0)) t2, T0, pos, af, g⟩).run P w = .ok (.value (.bool A.isNone)) w := by
        simp only [execOp, hA, show a.eval (.const (.slice none 0 0)) = .slice none 0 0 from rfl]
        refine cy ?_
        simp [eqGuard, run_eql_slice_nil w T e A rows.length c hu]
      unfold Oper.wp
      rw [h1]
      exact hK _ _ ((h A.isNone fun hb => hn (by simpa using hb)).run _ _ (hs.put hN (.bool _) hs.mem ⟨fun _ _ _ => rfl, fun _ _ h => h, fun _ _ _ rows _ _ h => ⟨⟨rows, h⟩, rfl⟩, Nat.le_refl _, id⟩))
    · cases hT⟩
theorem yP {objs' : aI} {o : Oper} {t s b m n : Nat} {rows : List (List TV)} (hx : lk t env = some (.ms s b 0 n)) (hn : rows.length = n) (hd : xa s b (.row m rows) objs objs') (h : AO P w0 N ops Q o rest ((t, .sl w0.heap.size m rows) :: env) objs') : AO P w0 N ops Q o rest env objs := ⟨fun a w K hs hK => h.run a w K (hs.freeze hx hn hd) hK⟩
end
end Go.Proofs.YtiihihgjiklnoaaGreatDoor
