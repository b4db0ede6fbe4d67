/- Part 26 of the proof: the texts ImA, RsP, RsA, RsB, RsC. -/
import Derived.Test.YtiihihgjiklnoaaGreatDoorQb10
import Derived.Test.YtiihihgjiklnoaaGreatDoorQb21
import Derived.Test.YtiihihgjiklnoaaGreatDoorQb19
import Derived.Test.YtiihihgjiklnoaaGreatDoorQb18
import Derived.Test.YtiihihgjiklnoaaGreatDoorQb7
/- IsImage: values on both sides. -/
namespace Go.Proofs.YtiihihgjiklnoaaGreatDoor
set_option maxRecDepth 20000
set_option maxHeartbeats 2000000
open Go Go.RowKit
def fe (s : ByteArray) : Bool := (List.range s.size).all (fun j => inR (bat s j) 32 126) && decide (s.size ≤ 200)
def jA (k n : Int) (t : ByteArray) : Bool :=
  if k = 0 then decide (n = 0) && decide (t = ⟨#[]⟩)
  else if k = 1 then inR n 0 1 && decide (t = ⟨#[]⟩)
  else if k = 2 then inR n (-999999999) 999999999 && decide (t = ⟨#[]⟩)
  else if k = 3 then decide (n = 0) && fe t
  else if k = 4 then decide (n = 0) && cw t.data.toList
  else if k = 5 ∨ k = 6 ∨ k = 7 then decide (0 ≤ n) && decide (t = ⟨#[]⟩)
  else false
theorem uC (k : Int) : k = 0 ∨ k = 1 ∨ k = 2 ∨ k = 3 ∨ k = 4 ∨ k = 5 ∨ k = 6 ∨ k = 7 ∨ (¬ k = 0 ∧ ¬ k = 1 ∧ ¬ k = 2 ∧ ¬ k = 3 ∧ ¬ k = 4 ∧ ¬ k = 5 ∧ ¬ k = 6 ∧ ¬ k = 7) := by omega
theorem aaX {s : ByteArray} (h : ∀ j, j < s.size → inR (bat s j) 32 126 = true) : fe s = decide (s.size ≤ 200) := by
  unfold fe
  rw [List.all_eq_true.2 fun j hj => h j (List.mem_range.1 hj), Bool.true_and]
theorem x8 {s : ByteArray} {j : Nat} (hj : j < s.size) (h : inR (bat s j) 32 126 = false) : fe s = false := by
  unfold fe
  have : (List.range s.size).all (fun j => inR (bat s j) 32 126) = false := by
    rw [Bool.eq_false_iff]
    intro h2
    have := List.all_eq_true.1 h2 j (List.mem_range.2 hj)
    rw [h] at this; cases this
  rw [this, Bool.false_and]
theorem xj {s : ByteArray} (h : 200 < s.size) : fe s = false := by
  unfold fe
  rw [decide_eq_false (by omega), Bool.and_false]
section
variable {G : World → Prop}
theorem nk (hst : az G) (s : ByteArray) (hs : s.size ≤ 1048576) : Ct Tryz.prog G 181 [.str s] (fun _ => .bool (fe s)) := by
  refine ao Tryz.func181 rfl Tryz.ntmps181 rfl rfl fun w0 _ hG => ?_
  repeat' (first | refine W_ ?_ | refine c_ (fun hc => ?_) (fun hc => ?_) | refine g_ (fun hg => ?_) (fun hg => ?_))
  apply aj (X := Nat) [0] (fun i => [(3, .int .i64 (i : Int))]) (fun _ => []) (fun i => i ≤ s.size ∧ ∀ j, j < i → inR (bat s j) 32 126 = true) (fun i => s.size - i) 0 ⟨Nat.zero_le _, fun j h => absurd h (Nat.not_lt_zero _)⟩
  exact kp_; exact nw_
  · exact .refl _
  rintro i ⟨hi, hall⟩
  try dsimp only
  by_cases hlt : i < s.size
  · have hwi := aK (G := G) (bat s i) 32 126
    have hbd := uZ s i
    cases hb : inR (bat s i) 32 126 with
    | false =>
      rw [hb] at hwi
      rw [x8 hlt hb]
      repeat' (first | refine W_ ?_ | refine ab hG hst (hwi) ?_ | refine c_ (fun hc => ?_) (fun hc => ?_) | refine g_ (fun hg => ?_) (fun hg => ?_))
      exact r1_
    | true =>
      rw [hb] at hwi
      repeat' (first | refine W_ ?_ | refine ab hG hst (hwi) ?_ | refine c_ (fun hc => ?_) (fun hc => ?_) | refine g_ (fun hg => ?_) (fun hg => ?_))
      exact ah (i + 1) ⟨by omega, fun j hj => by
        rcases Nat.lt_or_ge j i with h | h
        · exact hall j h
        · obtain rfl : j = i := by omega
          exact hb⟩ (by omega) (.of _ nw_ od_ pk_)
  · obtain rfl : i = s.size := by omega
    rw [aaX hall]
    repeat' (first | refine W_ ?_ | refine c_ (fun hc => ?_) (fun hc => ?_) | refine g_ (fun hg => ?_) (fun hg => ?_))
    refine aB x_ rfl (.tmp _ _ rfl) (fun _ => ?_)
    exact aJ (by rw [decide_eq_decide]; omega)
end
theorem n7 (k n : Int) (t : ByteArray) (ht : t.size ≤ 1048576) : Ct Tryz.prog GL 240 [.agg [.int .i64 k, .int .i64 n, .str t]] (fun _ => .bool (jA k n t)) := by
  refine ao Tryz.func240 rfl Tryz.ntmps240 rfl rfl fun w0 _ hG => ?_
  have hst := df
  have h1 := aK (G := GL) n 0 1
  have h2 := aK (G := GL) n (-999999999) 999999999
  have h3 := nk (G := GL) hst t ht
  have h4 := ac0 t ht
  rcases uC k with rfl | rfl | rfl | rfl | rfl | rfl | rfl | rfl | ⟨g0, g1, g2, g3, g4, g5, g6, g7⟩
  · have e : jA 0 n t = (decide (n = 0) && decide (t = ⟨#[]⟩)) := rfl
    rw [e]
    repeat' (first | refine W_ ?_ | refine aE ?_ | refine c_ (fun hc => ?_) (fun hc => ?_) | refine g_ (fun hg => ?_) (fun hg => ?_))
    all_goals
      refine aB x_ rfl (.tmp _ _ rfl) (fun _ => ?_)
      exact aJ (by simp [*])
  · have e : jA 1 n t = (inR n 0 1 && decide (t = ⟨#[]⟩)) := rfl
    rw [e]
    generalize inR n 0 1 = b at h1 ⊢
    cases b
    all_goals
      repeat' (first | refine W_ ?_ | refine aE ?_ | refine ab hG hst (h1) ?_ | refine c_ (fun hc => ?_) (fun hc => ?_) | refine g_ (fun hg => ?_) (fun hg => ?_))
      refine aB x_ rfl (.tmp _ _ rfl) (fun _ => ?_)
      exact aJ (by simp [*])
  · have e : jA 2 n t = (inR n (-999999999) 999999999 && decide (t = ⟨#[]⟩)) := rfl
    rw [e]
    generalize inR n (-999999999) 999999999 = b at h2 ⊢
    cases b
    all_goals
      repeat' (first | refine W_ ?_ | refine aE ?_ | refine ab hG hst (h2) ?_ | refine c_ (fun hc => ?_) (fun hc => ?_) | refine g_ (fun hg => ?_) (fun hg => ?_))
      refine aB x_ rfl (.tmp _ _ rfl) (fun _ => ?_)
      exact aJ (by simp [*])
  · have e : jA 3 n t = (decide (n = 0) && fe t) := rfl
    rw [e]
    repeat' (first | refine W_ ?_ | refine aE ?_ | refine ab hG hst (h3) ?_ | refine c_ (fun hc => ?_) (fun hc => ?_) | refine g_ (fun hg => ?_) (fun hg => ?_))
    all_goals
      refine aB x_ rfl (.tmp _ _ rfl) (fun _ => ?_)
      exact aJ (by simp [*])
  · have e : jA 4 n t = (decide (n = 0) && cw t.data.toList) := rfl
    rw [e]
    repeat' (first | refine W_ ?_ | refine aE ?_ | refine ab hG hst (h4) ?_ | refine c_ (fun hc => ?_) (fun hc => ?_) | refine g_ (fun hg => ?_) (fun hg => ?_))
    all_goals
      refine aB x_ rfl (.tmp _ _ rfl) (fun _ => ?_)
      exact aJ (by simp [*])
  · have e : jA 5 n t = (decide (0 ≤ n) && decide (t = ⟨#[]⟩)) := rfl
    rw [e]
    repeat' (first | refine W_ ?_ | refine aE ?_ | refine c_ (fun hc => ?_) (fun hc => ?_) | refine g_ (fun hg => ?_) (fun hg => ?_))
    all_goals
      refine aB x_ rfl (.tmp _ _ rfl) (fun _ => ?_)
      exact aJ (by simp [*])
  · have e : jA 6 n t = (decide (0 ≤ n) && decide (t = ⟨#[]⟩)) := rfl
    rw [e]
    repeat' (first | refine W_ ?_ | refine aE ?_ | refine c_ (fun hc => ?_) (fun hc => ?_) | refine g_ (fun hg => ?_) (fun hg => ?_))
    all_goals
      refine aB x_ rfl (.tmp _ _ rfl) (fun _ => ?_)
      exact aJ (by simp [*])
  · have e : jA 7 n t = (decide (0 ≤ n) && decide (t = ⟨#[]⟩)) := rfl
    rw [e]
    repeat' (first | refine W_ ?_ | refine aE ?_ | refine c_ (fun hc => ?_) (fun hc => ?_) | refine g_ (fun hg => ?_) (fun hg => ?_))
    all_goals
      refine aB x_ rfl (.tmp _ _ rfl) (fun _ => ?_)
      exact aJ (by simp [*])
  · have e : jA k n t = false := by
      unfold jA
      rw [if_neg g0, if_neg g1, if_neg g2, if_neg g3, if_neg g4, if_neg (by omega)]
    rw [e]
    repeat' (first | refine W_ ?_ | refine aE ?_ | refine c_ (fun hc => ?_) (fun hc => ?_) | refine g_ (fun hg => ?_) (fun hg => ?_))
    exact r1_
theorem fH (k n : Int) (t : ByteArray) (ht : t.size ≤ 1048576) : Ct Tryz.prog GL 164 [.agg [.int .i64 k, .int .i64 n, .str t]] (fun _ => .bool (jA k n t)) := by
  refine ao Tryz.func164 rfl Tryz.ntmps164 rfl rfl fun w0 _ hG => ?_
  have hst := df
  have h1 := a7 (G := GL) n 0 1
  have h2 := a7 (G := GL) n (-999999999) 999999999
  have h4 := ac2 t ht
  rcases uC k with rfl | rfl | rfl | rfl | rfl | rfl | rfl | rfl | ⟨g0, g1, g2, g3, g4, g5, g6, g7⟩
  · have e : jA 0 n t = (decide (n = 0) && decide (t = ⟨#[]⟩)) := rfl
    rw [e]
    repeat' (first | refine W_ ?_ | refine aE ?_ | refine c_ (fun hc => ?_) (fun hc => ?_) | refine g_ (fun hg => ?_) (fun hg => ?_))
    all_goals
      refine aB x_ rfl (.tmp _ _ rfl) (fun _ => ?_)
      exact aJ (by simp [*])
  · have e : jA 1 n t = (inR n 0 1 && decide (t = ⟨#[]⟩)) := rfl
    rw [e]
    generalize inR n 0 1 = b at h1 ⊢
    cases b
    all_goals
      repeat' (first | refine W_ ?_ | refine aE ?_ | refine ab hG hst (h1) ?_ | refine c_ (fun hc => ?_) (fun hc => ?_) | refine g_ (fun hg => ?_) (fun hg => ?_))
      refine aB x_ rfl (.tmp _ _ rfl) (fun _ => ?_)
      exact aJ (by simp [*])
  · have e : jA 2 n t = (inR n (-999999999) 999999999 && decide (t = ⟨#[]⟩)) := rfl
    rw [e]
    generalize inR n (-999999999) 999999999 = b at h2 ⊢
    cases b
    all_goals
      repeat' (first | refine W_ ?_ | refine aE ?_ | refine ab hG hst (h2) ?_ | refine c_ (fun hc => ?_) (fun hc => ?_) | refine g_ (fun hg => ?_) (fun hg => ?_))
      refine aB x_ rfl (.tmp _ _ rfl) (fun _ => ?_)
      exact aJ (by simp [*])
  · have e : jA 3 n t = (decide (n = 0) && fe t) := rfl
    rw [e]
    by_cases hn : n = 0
    case neg =>
      have hn2 : n ≠ 0 := hn
      rw [decide_eq_false hn, Bool.false_and]
      repeat' (first | refine W_ ?_ | refine aE ?_ | refine c_ (fun hc => ?_) (fun hc => ?_) | refine g_ (fun hg => ?_) (fun hg => ?_))
      exact r1_
    subst hn
    have hn2 : ¬ ((0 : Int) ≠ 0) := fun h => h rfl
    rw [decide_eq_true rfl, Bool.true_and]
    by_cases hl : 200 < t.size
    · rw [xj hl]
      repeat' (first | refine W_ ?_ | refine aE ?_ | refine c_ (fun hc => ?_) (fun hc => ?_) | refine g_ (fun hg => ?_) (fun hg => ?_))
      exact r1_
    repeat' (first | refine W_ ?_ | refine aE ?_ | refine c_ (fun hc => ?_) (fun hc => ?_) | refine g_ (fun hg => ?_) (fun hg => ?_))
    apply aj (X := Nat) [1] (fun i => [(3, .int .i64 (i : Int))]) (fun _ => []) (fun i => i ≤ t.size ∧ ∀ j, j < i → inR (bat t j) 32 126 = true) (fun i => t.size - i) 0 ⟨Nat.zero_le _, fun j h => absurd h (Nat.not_lt_zero _)⟩
    exact kp_; exact nw_
    · exact .refl _
    rintro i ⟨hi, hall⟩
    try dsimp only
    by_cases hlt : i < t.size
    · have hbd := uZ t i
      by_cases hlo : bat t i < 32
      · rw [x8 hlt (show inR (bat t i) 32 126 = false by simp only [inR, decide_eq_false_iff_not]; omega)]
        repeat' (first | refine W_ ?_ | refine c_ (fun hc => ?_) (fun hc => ?_) | refine g_ (fun hg => ?_) (fun hg => ?_))
        exact r1_
      by_cases hhi : bat t i > 126
      · rw [x8 hlt (show inR (bat t i) 32 126 = false by simp only [inR, decide_eq_false_iff_not]; omega)]
        repeat' (first | refine W_ ?_ | refine c_ (fun hc => ?_) (fun hc => ?_) | refine g_ (fun hg => ?_) (fun hg => ?_))
        exact r1_
      · repeat' (first | refine W_ ?_ | refine c_ (fun hc => ?_) (fun hc => ?_) | refine g_ (fun hg => ?_) (fun hg => ?_))
        exact ah (i + 1) ⟨by omega, fun j hj => by
          rcases Nat.lt_or_ge j i with h | h
          · exact hall j h
          · obtain rfl : j = i := by omega
            simp only [inR, decide_eq_true_eq]; omega⟩ (by omega) (.of _ nw_ od_ pk_)
    · obtain rfl : i = t.size := by omega
      rw [aaX hall, decide_eq_true (by omega)]
      repeat' (first | refine W_ ?_ | refine c_ (fun hc => ?_) (fun hc => ?_) | refine g_ (fun hg => ?_) (fun hg => ?_))
      exact r1_
  · have e : jA 4 n t = (decide (n = 0) && cw t.data.toList) := rfl
    rw [e]
    repeat' (first | refine W_ ?_ | refine aE ?_ | refine ab hG hst (h4) ?_ | refine c_ (fun hc => ?_) (fun hc => ?_) | refine g_ (fun hg => ?_) (fun hg => ?_))
    all_goals
      refine aB x_ rfl (.tmp _ _ rfl) (fun _ => ?_)
      exact aJ (by simp [*])
  · have e : jA 5 n t = (decide (0 ≤ n) && decide (t = ⟨#[]⟩)) := rfl
    rw [e]
    repeat' (first | refine W_ ?_ | refine aE ?_ | refine c_ (fun hc => ?_) (fun hc => ?_) | refine g_ (fun hg => ?_) (fun hg => ?_))
    all_goals
      refine aB x_ rfl (.tmp _ _ rfl) (fun _ => ?_)
      exact aJ (by simp [*])
  · have e : jA 6 n t = (decide (0 ≤ n) && decide (t = ⟨#[]⟩)) := rfl
    rw [e]
    repeat' (first | refine W_ ?_ | refine aE ?_ | refine c_ (fun hc => ?_) (fun hc => ?_) | refine g_ (fun hg => ?_) (fun hg => ?_))
    all_goals
      refine aB x_ rfl (.tmp _ _ rfl) (fun _ => ?_)
      exact aJ (by simp [*])
  · have e : jA 7 n t = (decide (0 ≤ n) && decide (t = ⟨#[]⟩)) := rfl
    rw [e]
    repeat' (first | refine W_ ?_ | refine aE ?_ | refine c_ (fun hc => ?_) (fun hc => ?_) | refine g_ (fun hg => ?_) (fun hg => ?_))
    all_goals
      refine aB x_ rfl (.tmp _ _ rfl) (fun _ => ?_)
      exact aJ (by simp [*])
  · have e : jA k n t = false := by
      unfold jA
      rw [if_neg g0, if_neg g1, if_neg g2, if_neg g3, if_neg g4, if_neg (by omega)]
    rw [e]
    repeat' (first | refine W_ ?_ | refine aE ?_ | refine c_ (fun hc => ?_) (fun hc => ?_) | refine g_ (fun hg => ?_) (fun hg => ?_))
    exact r1_
structure RS where
  met : List Bool
  out : List ByteArray
  todo : List Int
def adR : ByteArray := ⟨#[97, 115, 83, 121, 109, 98, 111, 108]⟩
def gb (l : List Bool) (k : Int) : Bool := l.getD k.toNat true
def adF (s : RS) (k : Int) : RS := if gb s.met k then s else ⟨s.met.set k.toNat true, s.out, s.todo ++ [k]⟩
def adQ (l : List ByteArray) (t : ByteArray) : List ByteArray := if jv l t then l else l ++ [t]
def rsI (s : RS) (x : ag) : RS :=
  if x.op = 3 ∨ x.op = 13 ∨ x.op = 14 then ⟨s.met, adQ s.out x.text, s.todo⟩ else if x.op = 15 then adF s x.a else s
def ac3 (l : List ag) (s : RS) : RS := l.foldl rsI s
def rsE (any : Bool) (s : RS) (e : aw) : RS := if !gb s.met e.code && (any || jv s.out e.selector) then adF s e.code else s
def acm (any : Bool) (l : List aw) (s : RS) : RS := l.foldl (rsE any) s
def adi (cs : List ay) (k : Int) : List ag := match cs[k.toNat]? with
  | some c => c.instrs
  | none => []
def pa (b : aA) (s : RS) : RS := match s.todo with
  | [] => acm (jv s.out adR) b.entries s
  | k :: r => ac3 (adi b.codes k) ⟨s.met, s.out, r⟩
def rs0 (b : aA) : RS := ⟨(List.replicate b.codes.length false).set b.main.toNat true, [], [b.main]⟩
def abF (b : aA) : Nat → RS
  | 0 => rs0 b
  | n + 1 => pa b (abF b n)
def Rs (b : aA) (s : RS) : Prop := ∃ n, s = abF b n
theorem Rs.step {b : aA} {s : RS} (h : Rs b s) : Rs b (pa b s) := by
  obtain ⟨n, rfl⟩ := h
  exact ⟨n + 1, rfl⟩
theorem qq {b : aA} {n : Nat} (h : pa b (abF b n) = abF b n) : ∀ m, n ≤ m → abF b m = abF b n
  | 0, hm => by obtain rfl : n = 0 := by omega
                rfl
  | m + 1, hm => by
    by_cases he : n = m + 1
    · rw [he]
    · show pa b (abF b m) = _
      rw [qq h m (by omega), h]
theorem Rs.same {b : aA} {s t : RS} (h : Rs b s) (k : Rs b t) (hs : pa b s = s) (ht : pa b t = t) : s = t := by
  obtain ⟨n, rfl⟩ := h
  obtain ⟨m, rfl⟩ := k
  rcases Nat.le_total n m with h | h
  · exact (qq hs m h).symm
  · exact qq ht n h
structure adU (b : aA) : Prop where
  codes : b.codes.length ≤ 200
  main : 0 ≤ b.main ∧ b.main < b.codes.length
  entries : ∀ e ∈ b.entries, 0 ≤ e.code ∧ e.code < b.codes.length
  row : ∀ c ∈ b.codes, c.instrs.length ≤ 900 ∧ ∀ x ∈ c.instrs, x.op = 15 → 0 ≤ x.a ∧ x.a < b.codes.length
def acB : List Bool → Nat
  | [] => 0
  | b :: r => (if b then 0 else 1) + acB r
def RS.mu (s : RS) : Nat := s.todo.length + acB s.met
structure adT (b : aA) (n : Nat) (s : RS) : Prop where
  len : s.met.length = b.codes.length
  todo : ∀ k ∈ s.todo, 0 ≤ k ∧ k < b.codes.length
  room : s.out.length + 900 * s.mu + n ≤ 180000
set_option maxRecDepth 20000
set_option maxHeartbeats 2000000
section
variable {G : World → Prop}
end
set_option maxRecDepth 20000
set_option maxHeartbeats 2000000
section
variable {G : World → Prop}
end
set_option maxRecDepth 20000
set_option maxHeartbeats 2000000
section
variable {G : World → Prop}
end
end Go.Proofs.YtiihihgjiklnoaaGreatDoor
