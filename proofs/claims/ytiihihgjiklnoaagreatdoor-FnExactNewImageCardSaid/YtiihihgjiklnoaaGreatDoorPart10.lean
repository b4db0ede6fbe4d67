/- Part 10 of the proof: the texts EngF. -/
import Derived.Test.YtiihihgjiklnoaaGreatDoorPart9
/- The abstract walk, part 6: rows: stores into them, appends, make, parts of them. -/
namespace Go.Proofs.YtiihihgjiklnoaaGreatDoor
open Go Go.RowKit

section
variable {P : Program} {w0 : World} {N : Nat} {Q : Exit → Act → World → Prop} {env : Env} {objs objs' : Objs} {o : Oper}

theorem flatten_set {m : Nat} {rows : List (List TV)} (hm : ∀ r ∈ rows, r.length = m) (hm0 : 0 < m) {k : Nat} (hk : k < rows.length) {r' : List TV} (hr' : r'.length = m) (j : Nat) :
    (rows.set k r').flatten[j]? = if k * m ≤ j ∧ j < (k + 1) * m then r'[j - k * m]? else rows.flatten[j]? := by
  have hm' : ∀ r ∈ rows.set k r', r.length = m := fun r hr => by
    rcases List.mem_or_eq_of_mem_set hr with h | h
    · exact hm r h
    · exact h ▸ hr'
  have hL : (rows.set k r').flatten.length = rows.length * m := by rw [length_flatten hm', List.length_set]
  have hL2 := length_flatten hm
  by_cases hj : j < rows.length * m
  · have hq : j / m < rows.length := Nat.div_lt_of_lt_mul (by rw [Nat.mul_comm]; exact hj)
    have hmod : j % m < m := Nat.mod_lt _ hm0
    have hje : j = (j / m) * m + j % m := by rw [Nat.mul_comm]; exact (Nat.div_add_mod j m).symm
    by_cases hc : j / m = k
    · have h1 : (rows.set k r')[j / m]? = some r' := by rw [hc, List.getElem?_set_self hk]
      have h2 := flatten_at hm' h1 hmod
      rw [← hje] at h2
      rw [h2, if_pos ⟨by rw [← hc]; omega, by rw [← hc, Nat.add_mul, Nat.one_mul]; omega⟩, show j - k * m = j % m by rw [← hc]; omega]
    · have h1 : (rows.set k r')[j / m]? = some rows[j / m] := by rw [List.getElem?_set_ne (Ne.symm hc)]; exact List.getElem?_eq_getElem hq
      have h2 := flatten_at hm' h1 hmod
      have h3 := flatten_at hm (List.getElem?_eq_getElem hq) hmod
      rw [← hje] at h2 h3
      rw [h2, h3, if_neg]
      rintro ⟨g1, g2⟩
      apply hc
      refine Nat.le_antisymm ?_ ?_
      · exact Nat.le_of_lt_succ (Nat.div_lt_of_lt_mul (by rw [Nat.mul_comm]; exact g2))
      · exact (Nat.le_div_iff_mul_le hm0).2 g1
  · rw [List.getElem?_eq_none (by omega), if_neg (by
      rintro ⟨_, g2⟩
      have : (k + 1) * m ≤ rows.length * m := Nat.mul_le_mul_right _ hk
      omega), List.getElem?_eq_none (by omega)]

theorem mem_set_cells {rows : List (List TV)} {k : Nat} {r' : List TV} (h : ∀ t ∈ rows.flatten, t.isCell = true) (h' : ∀ t ∈ r', t.isCell = true) : ∀ t ∈ (rows.set k r').flatten, t.isCell = true := fun t ht => by
  obtain ⟨r, hr, htr⟩ := List.mem_flatten.1 ht
  rcases List.mem_or_eq_of_mem_set hr with h1 | h1
  · exact h t (List.mem_flatten.2 ⟨r, h1, htr⟩)
  · exact h' t (h1 ▸ htr)

/-- A store into an element of a row that the call owns. -/
theorem ao_store_me {ops : Array Oper} {rest : List Oper} {T : TypeId} {x v : Operand} {s b m k j : Nat} {tv : TV} {vs r r' : List TV} {rows rows' : List (List TV)} (ho : o.op = .store T x v) (hd : o.dst = none) (hx : ev env x = some (.me s b m k j)) (hv : ev env v = some tv) (hc : tvCells tv = some vs)
    (hi : (P.info? T).isSome = true) (hsz : P.cellsOf T = vs.length) (hu : Upd (s, b, .row m rows) (s, b, .row m rows') objs objs') (hr : rows[k]? = some r) (hsp : Splice r j vs r') (hrows : rows.set k r' = rows') (h : AL P w0 N ops Q rest env objs') : AO P w0 N ops Q o rest env objs := ⟨fun a w K hs hK => by
    subst hrows
    obtain ⟨⟨hm0, hci⟩, hm, hor⟩ := hs.mem.obj s b _ hu.mem
    have hk : k < rows.length := (List.getElem?_eq_some_iff.1 hr).1
    have hrm : r.length = m := hm r (List.mem_of_getElem? hr)
    rcases hor with ⟨_, h0⟩ | ⟨hB, cur, e, cap, h2, h3, hcap, hmax, h4⟩
    · subst h0; simp at hk
    obtain ⟨g1, g2, g3⟩ := rep_cells (ev_sim hs hv) hc
    obtain ⟨p1, p2, p3⟩ := hsp.spec
    have hxa := ev_sim hs hx
    generalize hax : a.eval x = ax at hxa
    cases hxa with
    | me s b m k j hb =>
    have hone : ∀ u ∈ (a.eval v).cells.toList, u.oneCell' = true := fun u hu => by
      obtain ⟨i, hi, rfl⟩ := List.getElem_of_mem hu
      have hi' : i < vs.length := by rw [← g1]; simpa using hi
      exact ((g2 i vs[i] _ (List.getElem?_eq_getElem hi') (by rw [← Array.getElem?_toList]; exact List.getElem?_eq_getElem hi)).one (g3 _ (List.getElem_mem hi'))).1
    have hkm : k * m + m ≤ cur.size := by
      have : (k + 1) * m ≤ cap * m := Nat.mul_le_mul_right _ (by omega)
      rw [Nat.add_mul, Nat.one_mul] at this; omega
    have hrun := exec_store (P := P) (o := o) (cur := cur) (e := e) (w := w) ho hax hi (by rw [hsz, g1]) h2 (by rw [g1]; omega) hone
    unfold Oper.wp
    rw [hrun]
    refine hK _ _ ?_
    rw [hd]
    have hb0 : b ≠ 0 := by have := hs.mem.pos; omega
    generalize hq : k * m + j = q at *
    have hkk : ∀ i, i < w.heap.size → i ≠ b ∨ b = 0 → (w.setRow b (cur.toList.take q ++ (a.eval v).cells.toList ++ cur.toList.drop (q + (a.eval v).cells.size)).toArray).heap[i]? = w.heap[i]? := fun i _ hi => setRow_other w b i _ (hi.resolve_right hb0)
    have hst := step_upd (m := m) hs.mem hu (w' := w.setRow b (cur.toList.take q ++ (a.eval v).cells.toList ++ cur.toList.drop (q + (a.eval v).cells.size)).toArray) (by simp) hkk (.inl rfl) (fun rows' he => ⟨rows, rfl⟩) (fun m' rows' he => by simp only [TObj.row.injEq] at he; exact he.1.symm) (fun _ _ => by
      unfold World.shape?; rw [setRow_heap w b cur _ e _ h2, h2]; simp; omega) (by simp only [marker, ne_eq, Prod.mk.injEq, TObj.row.injEq]; omega)
    have hr'c : ∀ t ∈ r', t.isCell = true := fun t ht => by
      obtain ⟨i, hi, rfl⟩ := List.getElem_of_mem ht
      have h5 := p3 i
      rw [List.getElem?_eq_getElem hi] at h5
      split at h5
      · exact g3 _ (List.mem_of_getElem? h5.symm)
      · exact hci _ (List.mem_flatten.2 ⟨r, List.mem_of_getElem? hr, List.mem_of_getElem? h5.symm⟩)
    have hr'm : r'.length = m := by omega
    refine h.run _ _ (hs.same (hs.mem.upd hu (setRow_below hs.mem.below hB _) hkk (.inl rfl) hst ⟨⟨hm0, mem_set_cells hci hr'c⟩, fun r1 hr1 => ?_, .inr ⟨hB, _, e, cap, setRow_heap w b cur _ e _ h2, ?_, by simpa using hcap, hmax, fun i t hi => ?_⟩⟩) hst)
    · rcases List.mem_or_eq_of_mem_set hr1 with h5 | h5
      · exact hm r1 h5
      · exact h5 ▸ hr'm
    · simp; omega
    · have hcur : ∀ i : Nat, cur.toList[i]? = cur[i]? := fun i => by simp
      rw [flatten_set hm hm0 hk hr'm] at hi
      simp only [List.getElem?_toArray]
      by_cases hin : q ≤ i ∧ i < q + vs.length
      · have e1 : k * m ≤ i ∧ i < (k + 1) * m := ⟨by omega, by rw [Nat.add_mul, Nat.one_mul]; omega⟩
        rw [if_pos e1, p3, if_pos (by omega), show i - k * m - j = i - q by omega] at hi
        have hlt : i - q < (a.eval v).cells.size := by omega
        refine ⟨(a.eval v).cells[i - q], ?_, (g2 _ t _ hi (by simp [hlt])).step hst⟩
        rw [List.getElem?_append_left (by simp; omega), List.getElem?_append_right (by simp; omega)]
        simp only [List.length_take, Array.length_toList]
        rw [show i - min q cur.size = i - q by omega]
        simp [hlt]
      · have hi2 : rows.flatten[i]? = some t := by
          split at hi
          · rename_i e1
            rw [p3, if_neg (by omega)] at hi
            have h6 := flatten_at hm hr (j := i - k * m) (by rw [Nat.add_mul, Nat.one_mul] at e1; omega)
            rw [show k * m + (i - k * m) = i by omega] at h6
            rw [h6]; exact hi
          · exact hi
        obtain ⟨u, h5, h6⟩ := h4 i t hi2
        refine ⟨u, ?_, h6.step hst⟩
        have hjl : i < cur.size := (Array.getElem?_eq_some_iff.1 h5).1
        by_cases hjo : i < q
        · rw [List.getElem?_append_left (by simp; omega), List.getElem?_append_left (by simp; omega), List.getElem?_take, if_pos hjo, hcur]; exact h5
        · rw [List.getElem?_append_right (by simp; omega)]
          simp only [List.length_append, List.length_take, Array.length_toList, List.getElem?_drop]
          rw [show q + (a.eval v).cells.size + (i - (min q cur.size + (a.eval v).cells.size)) = i by omega, hcur]; exact h5⟩

/-- Of a type: its element's size, and that few bytes suffice for it. -/
def appOk (P : Program) (T m : Nat) : Bool := match P.underlying T with
  | some (.slice e) => (match P.info? e with
    | some i => i.size == m && (match i.zero with | some z => z.cells.size == m | none => false) && Nat.ble i.bytes 4096
    | none => false)
  | _ => false
theorem appOk_spec {T m : Nat} (h : appOk P T m = true) : ∃ e i z, P.underlying T = some (.slice e) ∧ P.info? e = some i ∧ i.zero = some z ∧ i.size = m ∧ z.cells.size = m ∧ i.bytes ≤ 4096 := by
  unfold appOk at h
  split at h
  · rename_i e hu
    split at h
    · rename_i i hi
      simp only [Bool.and_eq_true, beq_iff_eq] at h
      obtain ⟨⟨h1, h2⟩, h3⟩ := h
      split at h2
      · rename_i z hz; exact ⟨e, i, z, hu, hi, hz, h1, by simpa using h2, Nat.le_of_ble_eq_true h3⟩
      · cases h2
    · cases h
  · cases h

theorem rep_ms {w : World} {s b off len : Nat} {v : Value} (h : Rep w objs (.ms s b off len) v) : MsOk w objs s b off len v := by
  cases h with
  | ms _ _ _ _ _ h => exact h
theorem rep_sl {w : World} {f : Nat} {m : Nat} {rows : List (List TV)} {v : Value} (h : Rep w objs (.sl f m rows) v) : ∃ A c, v = .slice A rows.length c ∧ rows.length ≤ c ∧ c ≤ maxLen ∧ (∀ r ∈ rows, r.length = m) ∧ (∀ t ∈ rows.flatten, t.isCell = true) ∧
    ∀ (j : Nat) (t : TV), rows.flatten[j]? = some t → ∃ b q u, A = some ⟨b, q, none⟩ ∧ ZZ objs f b ∧ w.cell? ⟨b, q + j, none⟩ = some u ∧ Rep w objs t u := by
  cases h with
  | sl f m rows A c h1 h2 hm hi g hc hr => exact ⟨A, c, rfl, h1, h2, hm, hi, fun j t hj => by obtain ⟨b, q, h3, h4, h5⟩ := hc j t hj; exact ⟨b, q, g j, h3, h4, h5, hr j t hj⟩⟩

theorem run_append_room_at {w : World} (t ty e e' : TypeId) (i : TypeInfo) (ht : P.underlying t = some (.slice e)) (hi : P.info? e = some i)
    (g q sLen sCap : Nat) (cur : Array Value) (hg : w.heap[g]? = some (.cells cur e' (0, 0)))
    (a : Addr) (m c : Nat) (news : List Value) (hl : news.length = m * i.size) (hnews : ∀ j u, news[j]? = some u → w.cell? (a.add j) = some u) (h1 : ∀ u ∈ news, u.oneCell' = true)
    (hroom : sLen + m ≤ sCap) (hfit : q + sLen * i.size + news.length ≤ cur.size) :
    (Builtin.append_ #[t, t] ty #[.slice (some ⟨g, q, none⟩) sLen sCap, .slice (some a) m c]).run P w =
      .ok (.slice (some ⟨g, q, none⟩) (sLen + m) sCap) (w.setRow g (cur.toList.take (q + sLen * i.size) ++ news ++ cur.toList.drop (q + sLen * i.size + news.length)).toArray) := by
  have hf := run_firstCells_some (P := P) w i.size m a m c news hl hnews
  have hst := run_storeCells_at P g (q + sLen * i.size) e' news 0 cur w hg (by simpa using hfit) h1
  simp only [Nat.add_zero] at hst
  simp [Builtin.append_, run_underlying ht, sizeOf, typeInfo, hi, Builtin.lenOf, hroom, hf, Addr.add_lit, hst]

theorem cells_list {w : World} {b q n : Nat} {l : List TV} (hl : l.length = n) (hi : ∀ t ∈ l, t.isCell = true) (h : ∀ (j : Nat) (t : TV), l[j]? = some t → ∃ u, w.cell? ⟨b, q + j, none⟩ = some u ∧ Rep w objs t u) :
    ∃ nv : List Value, nv.length = n ∧ (∀ (j : Nat) (u : Value), nv[j]? = some u → w.cell? ((⟨b, q, none⟩ : Addr).add j) = some u) ∧ (∀ u ∈ nv, u.oneCell' = true) ∧ ∀ (j : Nat) (t : TV), l[j]? = some t → ∃ u, nv[j]? = some u ∧ Rep w objs t u := by
  have key : ∀ j, j < n → ∃ u, w.cell? ⟨b, q + j, none⟩ = some u ∧ ∃ t, l[j]? = some t ∧ Rep w objs t u := fun j hj => by
    obtain ⟨u, h1, h2⟩ := h j l[j] (List.getElem?_eq_getElem (by omega))
    exact ⟨u, h1, l[j], List.getElem?_eq_getElem (by omega), h2⟩
  refine ⟨(List.range n).map fun j => (w.cell? ⟨b, q + j, none⟩).getD undef, by simp, fun j u hj => ?_, fun u hu => ?_, fun j t hj => ?_⟩
  · rw [List.getElem?_map] at hj
    have hlt : j < n := by
      rcases Nat.lt_or_ge j n with h | h
      · exact h
      · rw [List.getElem?_eq_none (by simpa using h)] at hj; cases hj
    obtain ⟨u', h1, _⟩ := key j hlt
    rw [List.getElem?_range hlt] at hj
    simp only [Option.map_some, h1, Option.getD_some, Option.some.injEq] at hj
    subst hj
    rw [Addr.add_lit]; exact h1
  · obtain ⟨j, hj, rfl⟩ := List.mem_map.1 hu
    obtain ⟨u', h1, t, h2, h3⟩ := key j (List.mem_range.1 hj)
    rw [h1]
    exact (h3.one (hi t (List.mem_of_getElem? h2))).1
  · obtain ⟨u, h1, h2⟩ := h j t hj
    have hlt : j < n := by rw [← hl]; exact (List.getElem?_eq_some_iff.1 hj).1
    exact ⟨u, by rw [List.getElem?_map, List.getElem?_range hlt, Option.map_some, h1]; rfl, h2⟩

structure AppEnd (w0 : World) (w : World) (objs : Objs) (s b off len m n : Nat) (rows news : List (List TV)) (b' off' : Nat) (pre : List (List TV)) (v' : Value) (w' : World) : Prop where
  prelen : pre.length = off'
  prem : ∀ r ∈ pre, r.length = m
  prec : ∀ t ∈ pre.flatten, t.isCell = true
  zero : off = 0 → off' = 0
  blk : b' = b ∨ w.heap.size ≤ b'
  below : Below w0.heap.size w0 w'
  size : w.heap.size ≤ w'.heap.size
  keep : ∀ k, k < w.heap.size → k ≠ b ∨ b = 0 → w'.heap[k]? = w.heap[k]?
  shape : b' = b → b ≠ 0 → w'.shape? b = w.shape? b
  val : (b' = 0 ∧ off' = 0 ∧ len + n = 0 ∧ v' = .slice none 0 0) ∨
    (b' ≠ 0 ∧ ∃ o c e k, v' = .slice (some ⟨b', o, none⟩) (len + n) c ∧ len + n ≤ c ∧ w'.shape? b' = some (e, k) ∧ k = (off' + c) * m ∧ (0 < c ∨ off' = 0 → o = off' * m))
  obj : (b' = 0 ∧ pre ++ ((rows.drop off).take len ++ news) = []) ∨ (w0.heap.size ≤ b' ∧ ∃ cur e cap, w'.heap[b']? = some (.cells cur e (0, 0)) ∧ cur.size = cap * m ∧ (pre ++ ((rows.drop off).take len ++ news)).length ≤ cap ∧ cap ≤ maxLen ∧
    ∀ (j : Nat) (t : TV), (pre ++ ((rows.drop off).take len ++ news)).flatten[j]? = some t → ∃ u, cur[j]? = some u ∧ Rep w objs t u)
  lt : b' < w'.heap.size

theorem take_rows {rows : List (List TV)} {off len : Nat} : rows.take off ++ (rows.drop off).take len = rows.take (off + len) := by
  rw [List.take_add]
theorem flatten_take {m : Nat} {rows : List (List TV)} (hm : ∀ r ∈ rows, r.length = m) (k : Nat) : (rows.take k).flatten = rows.flatten.take (k * m) := by
  induction rows generalizing k with
  | nil => simp
  | cons x l ih =>
    cases k with
    | zero => simp
    | succ k =>
      have hx := hm x (by simp)
      rw [List.take_succ_cons, List.flatten_cons, List.flatten_cons, ih (fun r hr => hm r (by simp [hr])), List.take_append, Nat.add_mul, Nat.one_mul, hx, List.take_of_length_le (l := x) (by omega), show k * m + m - m = k * m by omega]
theorem flatten_drop {m : Nat} {rows : List (List TV)} (hm : ∀ r ∈ rows, r.length = m) (k : Nat) : (rows.drop k).flatten = rows.flatten.drop (k * m) := by
  induction rows generalizing k with
  | nil => simp
  | cons x l ih =>
    cases k with
    | zero => simp
    | succ k =>
      have hx := hm x (by simp)
      rw [List.drop_succ_cons, List.flatten_cons, ih (fun r hr => hm r (by simp [hr])), List.drop_append, Nat.add_mul, Nat.one_mul, hx, List.drop_of_length_le (l := x) (by omega), show k * m + m - m = k * m by omega, List.nil_append]

theorem app_core {w : World} (hw : SimW w0 objs w) {T ty s b off len m n : Nat} {f : Nat} {rows news : List (List TV)} (hmem : (s, b, TObj.row m rows) ∈ objs) {v1 v2 : Value} (h1 : Rep w objs (.ms s b off len) v1) (h2 : Rep w objs (.sl f m news) v2)
    (hT : appOk P T m = true) (hl : off + len ≤ rows.length) (hn : news.length = n) (hbig : len + n ≤ 1000000000) :
    ∃ b' off' pre v' w', (Builtin.append_ #[T, T] ty #[v1, v2]).run P w = .ok v' w' ∧ AppEnd w0 w objs s b off len m n rows news b' off' pre v' w' := by
  obtain ⟨e, i, z, hu, hie, hz, hisz, hzs, hby⟩ := appOk_spec hT
  obtain ⟨⟨hm0, hci⟩, hm, hor⟩ := hw.obj s b _ hmem
  obtain ⟨A2, c2, rfl, g1, g2, g3, g4, g5⟩ := rep_sl h2
  have hms := (rep_ms h1).or m rows hmem
  have hpos : 0 < w.heap.size := Nat.lt_of_lt_of_le hw.pos hw.below.size
  have hblt := (rep_ms h1).1.1
  subst hn
  by_cases hn0 : news = []
  · -- nothing is appended
    subst hn0
    refine ⟨b, off, rows.take off, v1, w, ?_, ?_⟩
    · rcases hms with ⟨_, _, _, rfl⟩ | ⟨_, o, c, e', k, rfl, hlc, _⟩
      · cases A2 <;> simp [Builtin.append_, run_underlying hu, sizeOf, typeInfo, hie, Builtin.lenOf, Builtin.firstCells, loadCells, loadCellsFrom]
      · cases A2 <;> simp [Builtin.append_, run_underlying hu, sizeOf, typeInfo, hie, Builtin.lenOf, Builtin.firstCells, hlc, storeCells, loadCells, loadCellsFrom]
    · refine ⟨by simp; omega, fun r hr => hm r (List.mem_of_mem_take hr), fun t ht => by
          obtain ⟨r, hr, htr⟩ := List.mem_flatten.1 ht
          exact hci t (List.mem_flatten.2 ⟨r, List.mem_of_mem_take hr, htr⟩), id, .inl rfl, hw.below, Nat.le_refl _, fun _ _ _ => rfl, fun _ _ => rfl, ?_, ?_, hblt⟩
      · simpa using hms
      · rw [List.append_nil, take_rows]
        rcases hor with ⟨h3, rfl⟩ | ⟨hB, cur, e', cap, h3, h4, h5, h6, h7⟩
        · exact .inl ⟨h3, by simp⟩
        · refine .inr ⟨hB, cur, e', cap, h3, h4, by simp; omega, h6, fun j t hj => h7 j t ?_⟩
          rw [flatten_take hm, List.getElem?_take] at hj
          split at hj
          · exact hj
          · cases hj
  · have hnpos : 0 < news.length := List.length_pos_iff.2 hn0
    have hfl := length_flatten g3
    have hflpos : 0 < news.flatten.length := by rw [hfl]; exact Nat.mul_pos hnpos hm0
    obtain ⟨b2, q2, _, hA2, _, _, _⟩ := g5 0 _ (List.getElem?_eq_getElem hflpos)
    subst hA2
    obtain ⟨nv, n1, n2, n3, n4⟩ := cells_list (w := w) (b := b2) (q := q2) (objs := objs) hfl g4 (fun j t hj => by
      obtain ⟨b, q, u, h3, _, h4, h5⟩ := g5 j t hj
      simp only [Option.some.injEq, Addr.mk.injEq, and_true] at h3
      obtain ⟨rfl, rfl⟩ := h3
      exact ⟨u, h4, h5⟩)
    have n1' : nv.length = news.length * i.size := by rw [n1, hisz]
    -- what a new block holds
    have fresh : ∀ (old : Nat) (olds : List Value) (live : List (List TV)), live.length = len → (∀ r ∈ live, r.length = m) → olds.length = len * m → (∀ (j : Nat) (t : TV), live.flatten[j]? = some t → ∃ u, olds[j]? = some u ∧ Rep w objs t u) → live = (rows.drop off).take len →
        AppEnd w0 w objs s b off len m news.length rows news w.heap.size 0 [] (.slice (some ⟨w.heap.size, 0, none⟩) (len + news.length) (grownCap w (len + news.length) old e))
          (w.drew.alloc (.cells (olds.toArray ++ nv.toArray ++ Builtin.zeroCells z.cells (grownCap w (len + news.length) old e - (len + news.length))) e)) := by
      intro old olds live l1 l2 l3 l4 l5
      have hge := grownCap_ge w (len + news.length) old e
      have hcm : grownCap w (len + news.length) old e ≤ maxLen := grownCap_le_maxLen w (len + news.length) old e (by simp only [maxLen]; omega)
      have hkeep : ∀ k, k < w.heap.size → ∀ ob, (w.drew.alloc ob).heap[k]? = w.heap[k]? := fun k hk ob => Below.heap_alloc w.drew ob k hk
      have hsize : (olds.toArray ++ nv.toArray ++ Builtin.zeroCells z.cells (grownCap w (len + news.length) old e - (len + news.length))).size = grownCap w (len + news.length) old e * m := by
        simp only [Array.size_append, List.size_toArray, size_zeroCells, hzs, l3, n1, ← Nat.add_mul]
        congr 1; omega
      have hb0 : w.heap.size ≠ 0 := by omega
      have hshp : (w.drew.alloc (.cells (olds.toArray ++ nv.toArray ++ Builtin.zeroCells z.cells (grownCap w (len + news.length) old e - (len + news.length))) e)).shape? w.heap.size = some (e, grownCap w (len + news.length) old e * m) := by
        unfold World.shape?
        rw [show (w.drew.alloc (.cells (olds.toArray ++ nv.toArray ++ Builtin.zeroCells z.cells (grownCap w (len + news.length) old e - (len + news.length))) e)).heap[w.heap.size]? = some (.cells _ e (0, 0)) from heap_alloc_new w.drew _]
        simp only [hsize]
      refine ⟨rfl, by simp, by simp, fun _ => rfl, .inr (Nat.le_refl _), hw.below.trans ⟨rfl, rfl, rfl, by simp, fun k hk => hkeep k (Nat.lt_of_lt_of_le hk hw.below.size) _⟩, by simp, fun k hk _ => hkeep k hk _, fun h _ => absurd (h ▸ hblt) (Nat.lt_irrefl _), .inr ⟨hb0, 0, _, e, _, rfl, hge, hshp, by rw [Nat.zero_add], fun _ => by simp⟩, .inr ⟨hw.below.size, _, e, _, heap_alloc_new w.drew _, hsize, ?_, hcm, fun j t hj => ?_⟩, by simp⟩
      · rw [List.nil_append, ← l5, List.length_append, l1]; exact hge
      · rw [List.nil_append, ← l5, List.flatten_append] at hj
        have hlf : live.flatten.length = len * m := by rw [length_flatten l2, l1]
        by_cases hjl : j < len * m
        · rw [List.getElem?_append_left (by omega)] at hj
          obtain ⟨u, h5, h6⟩ := l4 j t hj
          exact ⟨u, by rw [Array.getElem?_append_left (by simp; omega), Array.getElem?_append_left (by simp; omega)]; simpa using h5, h6⟩
        · rw [List.getElem?_append_right (by omega), hlf] at hj
          obtain ⟨u, h5, h6⟩ := n4 _ t hj
          have : j - len * m < nv.length := (List.getElem?_eq_some_iff.1 h5).1
          exact ⟨u, by rw [Array.getElem?_append_left (by simp; omega), Array.getElem?_append_right (by simp; omega)]; simpa [l3] using h5, h6⟩
    have hlive : ((rows.drop off).take len).length = len := by simp; omega
    have hlivem : ∀ r ∈ (rows.drop off).take len, r.length = m := fun r hr => hm r (List.mem_of_mem_drop (List.mem_of_mem_take hr))
    rcases hms with ⟨hb, hoff, hlen, rfl⟩ | ⟨hb0, o, c, e', k, rfl, hlc, hsh, hk, ho⟩
    · -- onto nil
      subst hlen
      have hr := run_append_nil (P := P) w T ty e i z hu hie hz ⟨b2, q2, none⟩ news.length c2 nv n1' n2 hnpos (by omega) (by have : news.length * i.bytes ≤ 1000000000 * 4096 := Nat.mul_le_mul (by omega) hby; omega)
      have hf := fresh 0 [] ((rows.drop off).take 0) hlive hlivem (by simp) (by simp) rfl
      simp only [Nat.zero_add, Array.empty_append] at hf
      refine ⟨w.heap.size, 0, [], _, _, hr, ?_⟩
      simpa using hf
    · rcases hor with ⟨h0, _⟩ | ⟨hB, cur, e'', cap, h3, h4, h5, h6, h7⟩
      · exact absurd h0 hb0
      have hshape : (e'', cur.size) = (e', k) := by
        have : w.shape? b = some (e'', cur.size) := by unfold World.shape?; rw [h3]
        rw [this] at hsh; simpa using hsh
      have hkc : cur.size = (off + c) * m := by have := congrArg Prod.snd hshape; simp only at this; omega
      by_cases hroom : len + news.length ≤ c
      · -- there is room
        have hoe := ho (.inl (by omega))
        subst hoe
        have hmul : (off + (len + news.length)) * m ≤ (off + c) * m := Nat.mul_le_mul_right _ (by omega)
        rw [Nat.add_mul, Nat.add_mul] at hmul
        have hfit : off * m + len * i.size + nv.length ≤ cur.size := by rw [hisz, n1, hkc]; omega
        have hr := run_append_room_at (P := P) (w := w) T ty e e'' i hu hie b (off * m) len c cur h3 ⟨b2, q2, none⟩ news.length c2 nv n1' n2 n3 hroom hfit
        rw [hisz] at hr hfit
        have hnewsize : (cur.toList.take (off * m + len * m) ++ nv ++ cur.toList.drop (off * m + len * m + nv.length)).toArray.size = cur.size := by simp; omega
        refine ⟨b, off, rows.take off, _, _, hr, by simp; omega, fun r hr => hm r (List.mem_of_mem_take hr), fun t ht => by
          obtain ⟨r, hr, htr⟩ := List.mem_flatten.1 ht
          exact hci t (List.mem_flatten.2 ⟨r, List.mem_of_mem_take hr, htr⟩), id, .inl rfl, setRow_below hw.below hB _, by simp, fun k _ hk => setRow_other w b k _ (hk.resolve_right hb0), fun _ _ => ?_, .inr ⟨hb0, off * m, c, e'', cur.size, rfl, hroom, ?_, hkc, fun _ => rfl⟩, .inr ⟨hB, _, e'', cap, setRow_heap w b cur _ e'' _ h3, by rw [hnewsize]; exact h4, ?_, h6, fun j t hj => ?_⟩, by simpa using hblt⟩
        · unfold World.shape?; rw [setRow_heap w b cur _ e'' _ h3, h3]; simp only [hnewsize]
        · unfold World.shape?; rw [setRow_heap w b cur _ e'' _ h3]; simp only [hnewsize]
        · have hcap : cap = off + c := by
            have : cap * m = (off + c) * m := by omega
            exact Nat.eq_of_mul_eq_mul_right hm0 this
          rw [← List.append_assoc, take_rows]; simp; omega
        · rw [← List.append_assoc, take_rows, List.flatten_append, flatten_take hm] at hj
          have hcur : ∀ i : Nat, cur.toList[i]? = cur[i]? := fun i => by simp
          have hlf : (rows.flatten.take ((off + len) * m)).length = off * m + len * m := by
            rw [List.length_take, length_flatten hm, ← Nat.add_mul]
            exact Nat.min_eq_left (Nat.mul_le_mul_right _ hl)
          simp only [List.getElem?_toArray]
          by_cases hjl : j < off * m + len * m
          · rw [List.getElem?_append_left (by omega), List.getElem?_take, if_pos (by rw [Nat.add_mul]; exact hjl)] at hj
            obtain ⟨u, p1, p2⟩ := h7 j t hj
            exact ⟨u, by rw [List.getElem?_append_left (by simp; omega), List.getElem?_append_left (by simp; omega), List.getElem?_take, if_pos hjl, hcur]; exact p1, p2⟩
          · rw [List.getElem?_append_right (by omega), hlf] at hj
            obtain ⟨u, p1, p2⟩ := n4 _ t hj
            have : j - (off * m + len * m) < nv.length := (List.getElem?_eq_some_iff.1 p1).1
            refine ⟨u, ?_, p2⟩
            rw [List.getElem?_append_left (by simp; omega), List.getElem?_append_right (by simp; omega)]
            simp only [List.length_take, Array.length_toList]
            rw [show min (off * m + len * m) cur.size = off * m + len * m by omega]; exact p1
      · -- a new block
        have holds : ∃ olds : List Value, olds.length = len * m ∧ (∀ (j : Nat) (u : Value), olds[j]? = some u → w.cell? ((⟨b, o, none⟩ : Addr).add j) = some u) ∧ ∀ (j : Nat) (t : TV), ((rows.drop off).take len).flatten[j]? = some t → ∃ u, olds[j]? = some u ∧ Rep w objs t u := by
          by_cases hlen : len = 0
          · subst hlen; exact ⟨[], by simp, by simp, by simp⟩
          · have hoe := ho (.inl (by omega))
            subst hoe
            obtain ⟨nv', m1, m2, _, m4⟩ := cells_list (w := w) (b := b) (q := off * m) (objs := objs) (l := ((rows.drop off).take len).flatten) (n := len * m) (by rw [length_flatten hlivem, hlive]) (fun t ht => by
                obtain ⟨r, hr, htr⟩ := List.mem_flatten.1 ht
                exact hci t (List.mem_flatten.2 ⟨r, List.mem_of_mem_drop (List.mem_of_mem_take hr), htr⟩)) (fun j t hj => by
                rw [flatten_take (fun r hr => hm r (List.mem_of_mem_drop hr)), flatten_drop hm, List.getElem?_take] at hj
                split at hj
                · rw [List.getElem?_drop] at hj
                  obtain ⟨u, p1, p2⟩ := h7 _ t hj
                  exact ⟨u, by rw [cell_of_row w b _ cur e'' (0, 0) h3]; exact p1, p2⟩
                · cases hj)
            exact ⟨nv', m1, m2, m4⟩
        obtain ⟨olds, o1, o2, o3⟩ := holds
        have hr := run_append_grow (P := P) w T ty e i z hu hie hz ⟨b, o, none⟩ len c olds (by rw [o1, hisz]) o2 ⟨b2, q2, none⟩ news.length c2 nv n1' n2 (by omega) (by omega) (growslice_fits (by omega) (by have : (len + news.length) * i.bytes ≤ 1000000000 * 4096 := Nat.mul_le_mul hbig hby; omega))
        exact ⟨w.heap.size, 0, [], _, _, hr, fresh c olds _ hlive hlivem o1 o3 rfl⟩

theorem exec_append {x y : Operand} {T : TypeId} (ho : o.op = .call { callee := .builtin .append, args := #[x, y], argTypes := #[T, T] }) {a : Act} {w w' : World} {v : Value} (h : (Builtin.append_ #[T, T] o.type #[a.eval x, a.eval y]).run P w = .ok v w') :
    (execOp a.eval o).run P w = .ok (.value v) w' := by
  simp only [execOp, ho, resolve, Sem.run_bind, Sem.run_pure, Result.andThen_ok, invoke, builtin, List.map_toArray, List.map_cons, List.map_nil]
  rw [h]; rfl

/-- append onto what is left of a row that the call owns. -/
theorem ao_append_q {objsOf : Nat → List (List TV) → Objs} {ops : Array Oper} {rest : List Oper} {d T s b off len n m : Nat} {x y : Operand} {f : Nat} {rows live news : List (List TV)} (ho : o.op = .call { callee := .builtin .append, args := #[x, y], argTypes := #[T, T] }) (hd : o.dst = some d) (hN : Nat.blt d N = true)
    (hx : ev env x = some (.ms s b off len)) (hy : ev env y = some (.sl f m news)) (hT : appOk P T m = true) (hl : off + len ≤ rows.length) (hn : news.length = n) (hbig : len + n ≤ 1000000000) (hlive : (rows.drop off).take len = live)
    (hu : ∀ b' pre, Upd (s, b, .row m rows) (s, b', .row m (pre ++ (live ++ news))) objs (objsOf b' pre)) (h : ∀ b' pre, (off = 0 → pre = []) → AL P w0 N ops Q rest ((d, .ms s b' pre.length (len + n)) :: env) (objsOf b' pre)) : AO P w0 N ops Q o rest env objs := ⟨fun a w K hs hK => by
    subst hlive
    have hmem := (hu 0 []).mem
    obtain ⟨b', off', pre, v', w', hr, hE⟩ := app_core (P := P) (ty := o.type) hs.mem hmem (ev_sim hs hx) (ev_sim hs hy) hT hl hn hbig
    obtain ⟨⟨hm0, hci⟩, hm, _⟩ := hs.mem.obj s b _ hmem
    obtain ⟨_, _, _, _, _, g3, g4, _⟩ := rep_sl (ev_sim hs hy)
    unfold Oper.wp
    rw [exec_append ho hr]
    refine hK _ _ ?_
    rw [hd]
    have hpre := hE.prelen
    subst hpre
    subst hn
    have hst := step_upd (m := m) hs.mem (hu b' pre) hE.size hE.keep hE.blk (fun rows' _ => ⟨rows, rfl⟩) (fun m' rows' he => by simp only [TObj.row.injEq] at he; exact he.1.symm) hE.shape (by simp only [marker, ne_eq, Prod.mk.injEq, TObj.row.injEq]; omega)
    have hlm : ∀ r ∈ (rows.drop off).take len, r ∈ rows := fun r hr => List.mem_of_mem_drop (List.mem_of_mem_take hr)
    refine (h b' pre (fun h0 => List.eq_nil_of_length_eq_zero (hE.zero h0))).run _ _ (hs.putNew hN (.ms s b' _ _ _ (.mk ⟨hE.lt, fun hm' => hs.mem.noMark (hst.mark hm'), ?_⟩ (fun m' rows' hm' => ?_) (fun h0 => ?_))) (hs.mem.upd (hu b' pre) hE.below hE.keep hE.blk hst ⟨⟨hm0, fun t ht => ?_⟩, fun r hr => ?_, hE.obj.imp id fun ⟨h1, cur, e, cap, h2, h3, h4, h5, h6⟩ => ⟨h1, cur, e, cap, h2, h3, h4, h5, fun j t hj => ?_⟩⟩) hst)
    · rcases hE.val with ⟨_, _, h0, h1⟩ | ⟨_, q, c, e, k, h1, _⟩
      · exact ⟨none, 0, by rw [h0]; exact h1⟩
      · exact ⟨_, _, h1⟩
    · rcases (hu b' pre).other hs.mem.sites _ hm' with he | ⟨_, hne, _⟩
      · simp only [Prod.mk.injEq, TObj.row.injEq] at he
        obtain ⟨_, _, rfl, _⟩ := he
        exact hE.val
      · exact absurd rfl hne
    · rcases hE.val with ⟨_, h1, h2, h3⟩ | ⟨h1, _⟩
      · exact ⟨h1, h2, h3⟩
      · exact absurd h0 h1
    · simp only [List.flatten_append, List.mem_append] at ht
      rcases ht with ht | ht | ht
      · exact hE.prec t ht
      · obtain ⟨r, hr, htr⟩ := List.mem_flatten.1 ht
        exact hci t (List.mem_flatten.2 ⟨r, hlm r hr, htr⟩)
      · exact g4 t ht
    · simp only [List.mem_append] at hr
      rcases hr with hr | hr | hr
      · exact hE.prem r hr
      · exact hm r (hlm r hr)
      · exact g3 r hr
    · obtain ⟨u, p1, p2⟩ := h6 j t hj
      exact ⟨u, p1, p2.step hst⟩⟩
/-- append onto a row that the call owns. -/
theorem ao_append {objsOf : Nat → Objs} {ops : Array Oper} {rest : List Oper} {d T s b len n m : Nat} {x y : Operand} {f : Nat} {rows rows' news : List (List TV)} (ho : o.op = .call { callee := .builtin .append, args := #[x, y], argTypes := #[T, T] }) (hd : o.dst = some d) (hN : Nat.blt d N = true)
    (hx : ev env x = some (.ms s b 0 len)) (hy : ev env y = some (.sl f m news)) (hT : appOk P T m = true) (hl : len ≤ rows.length) (hn : news.length = n) (hbig : len + n ≤ 1000000000) (hrows : rows.take len ++ news = rows')
    (hu : ∀ b', Upd (s, b, .row m rows) (s, b', .row m rows') objs (objsOf b')) (h : ∀ b', AL P w0 N ops Q rest ((d, .ms s b' 0 (len + n)) :: env) (objsOf b')) : AO P w0 N ops Q o rest env objs := ⟨fun a w K hs hK => by
    subst hrows
    subst hn
    have hmem := (hu 0).mem
    obtain ⟨b', off', pre, v', w', hr, hE⟩ := app_core (P := P) (ty := o.type) hs.mem hmem (ev_sim hs hx) (ev_sim hs hy) hT (by omega) rfl hbig
    have hpre : pre = [] := List.eq_nil_of_length_eq_zero (by rw [hE.prelen]; exact hE.zero rfl)
    have hoff : off' = 0 := hE.zero rfl
    subst hpre; subst hoff
    obtain ⟨⟨hm0, hci⟩, hm, _⟩ := hs.mem.obj s b _ hmem
    obtain ⟨_, _, _, _, _, g3, g4, _⟩ := rep_sl (ev_sim hs hy)
    unfold Oper.wp
    rw [exec_append ho hr]
    refine hK _ _ ?_
    rw [hd]
    have hst := step_upd (m := m) hs.mem (hu b') hE.size hE.keep hE.blk (fun rows' _ => ⟨rows, rfl⟩) (fun m' rows' he => by simp only [TObj.row.injEq] at he; exact he.1.symm) hE.shape (by simp only [marker, ne_eq, Prod.mk.injEq, TObj.row.injEq]; omega)
    have hobj := hE.obj
    simp only [List.nil_append, List.drop_zero] at hobj
    refine (h b').run _ _ (hs.putNew hN (.ms s b' _ _ _ (.mk ⟨hE.lt, fun hm' => hs.mem.noMark (hst.mark hm'), ?_⟩ (fun m' rows' hm' => ?_) (fun h0 => ?_))) (hs.mem.upd (hu b') hE.below hE.keep hE.blk hst ⟨⟨hm0, fun t ht => ?_⟩, fun r hr => ?_, hobj.imp id fun ⟨h1, cur, e, cap, h2, h3, h4, h5, h6⟩ => ⟨h1, cur, e, cap, h2, h3, h4, h5, fun j t hj => ?_⟩⟩) hst)
    · rcases hE.val with ⟨_, _, h0, h1⟩ | ⟨_, q, c, e, k, h1, _⟩
      · exact ⟨none, 0, by rw [h0]; exact h1⟩
      · exact ⟨_, _, h1⟩
    · rcases (hu b').other hs.mem.sites _ hm' with he | ⟨_, hne, _⟩
      · simp only [Prod.mk.injEq, TObj.row.injEq] at he
        obtain ⟨_, _, rfl, _⟩ := he
        exact hE.val
      · exact absurd rfl hne
    · rcases hE.val with ⟨_, h1, h2, h3⟩ | ⟨h1, _⟩
      · exact ⟨h1, h2, h3⟩
      · exact absurd h0 h1
    · simp only [List.flatten_append, List.mem_append] at ht
      rcases ht with ht | ht
      · obtain ⟨r, hr, htr⟩ := List.mem_flatten.1 ht
        exact hci t (List.mem_flatten.2 ⟨r, List.mem_of_mem_take hr, htr⟩)
      · exact g4 t ht
    · simp only [List.mem_append] at hr
      rcases hr with hr | hr
      · exact hm r (List.mem_of_mem_take hr)
      · exact g3 r hr
    · obtain ⟨u, p1, p2⟩ := h6 j t hj
      exact ⟨u, p1, p2.step hst⟩⟩
end
end Go.Proofs.YtiihihgjiklnoaaGreatDoor
