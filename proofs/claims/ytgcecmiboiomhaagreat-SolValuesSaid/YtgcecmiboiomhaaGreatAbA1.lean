/- One operation, second part: rows laid end to end; new blocks; stores; the pieces of values. -/
import Derived.Test.YtgcecmiboiomhaaGreatAbA0
import Derived.Laws.Append
import Derived.Laws.MakeOwn
import Derived.Laws.Slices
namespace Go.Ab
open Go

section
variable {F : Terr} {φ : Phi}

theorem uniform_len {s : Nat} {rs : List (List AV)} (h : uniform s rs = true) : ∀ row ∈ rs, row.length = s := by
  intro row hr
  have := List.all_eq_true.1 h row hr
  simp only [Bool.and_eq_true, beq_iff_eq] at this
  exact this.1

theorem uniform_one {s : Nat} {rs : List (List AV)} (h : uniform s rs = true) : ∀ row ∈ rs, row.all AV.one = true := by
  intro row hr
  have := List.all_eq_true.1 h row hr
  simp only [Bool.and_eq_true, beq_iff_eq] at this
  exact this.2

theorem flatten_len {s : Nat} : ∀ {rs : List (List AV)}, (∀ row ∈ rs, row.length = s) → rs.flatten.length = rs.length * s
  | [], _ => by simp
  | r :: rs, h => by
    rw [List.flatten_cons, List.length_append, flatten_len (fun row hr => h row (by simp [hr])), h r (by simp), List.length_cons, Nat.add_mul]
    omega

theorem rows_of_flatten {s : Nat} : ∀ {rs : List (List AV)} {vs : List Value}, (∀ row ∈ rs, row.length = s) → VRL F φ rs.flatten vs →
    ∀ (r : Nat) (row : List AV), rs[r]? = some row → VRL F φ row ((vs.drop (r * s)).take s)
  | [], _, _, _, r, row, hr => by simp at hr
  | r0 :: rs, vs, hl, h, r, row, hr => by
    have h0 := hl r0 (by simp)
    rw [List.flatten_cons] at h
    cases r with
    | zero =>
      simp at hr
      subst hr
      have := h.take s
      rw [← h0, List.take_left'] at this
      · simpa [h0] using this
      · rfl
    | succ r =>
      have h1 := h.drop s
      rw [← h0, List.drop_left'] at h1
      · have := rows_of_flatten (fun row hr => hl row (by simp [hr])) h1 r row (by simpa using hr)
        rw [List.drop_drop] at this
        rw [h0] at this
        rw [Nat.add_mul, Nat.one_mul, Nat.add_comm]
        exact this
      · rfl

theorem flatten_of_rows {s : Nat} : ∀ {rs : List (List AV)} {vs : List Value}, (∀ row ∈ rs, row.length = s) → rs.length * s ≤ vs.length →
    (∀ (r : Nat) (row : List AV), rs[r]? = some row → VRL F φ row ((vs.drop (r * s)).take s)) → VRL F φ rs.flatten (vs.take (rs.length * s))
  | [], _, _, _, _ => by simp [VRL]
  | r0 :: rs, vs, hl, hv, h => by
    have h0 := h 0 r0 rfl
    rw [Nat.zero_mul, List.drop_zero] at h0
    rw [List.length_cons, Nat.add_mul, Nat.one_mul] at hv
    have h1 := flatten_of_rows (s := s) (rs := rs) (vs := vs.drop s) (fun row hr => hl row (by simp [hr])) (by simp; omega) (fun r row hr => by
      have := h (r + 1) row (by simpa using hr)
      rw [Nat.add_mul, Nat.one_mul, Nat.add_comm] at this
      rw [List.drop_drop]
      exact this)
    rw [List.flatten_cons, List.length_cons, Nat.add_mul, Nat.one_mul, Nat.add_comm, List.take_add]
    exact h0.append h1

theorem VRL.set {xs : List AV} {vs : List Value} (h : VRL F φ xs vs) (i : Nat) {x : AV} {v : Value} (hv : VR F φ x v) : VRL F φ (xs.set i x) (vs.set i v) :=
  VRL.mk (by simp [h.length]) fun j y u hy hu => by
    rw [List.getElem?_set] at hy hu
    split at hy
    · rename_i he
      subst he
      simp only [if_true] at hu
      split at hy <;> split at hu <;> simp_all
    · rename_i he
      simp only [he, if_false] at hu
      exact h.get j y u hy hu

theorem VRL.over {xs ys : List AV} {vs us : List Value} (h : VRL F φ xs vs) (h' : VRL F φ ys us) (o : Nat) :
    VRL F φ (Ab.over xs o ys) (vs.take o ++ us ++ vs.drop (o + us.length)) := by
  unfold Ab.over
  rw [h'.length]
  exact ((h.take o).append h').append (h.drop _)

theorem VRL.replicate {xs : List AV} {vs : List Value} (h : VRL F φ xs vs) : ∀ n, VRL F φ (List.replicate n xs).flatten (List.replicate n vs).flatten
  | 0 => trivial
  | n + 1 => by
    rw [List.replicate_succ, List.replicate_succ, List.flatten_cons, List.flatten_cons]
    exact h.append (VRL.replicate h n)
end

section
variable {P : Program} {F : Terr} {φ : Phi} {n : Nat} {h : Nat → Option ABlk} {w w' : World}

/-- A new block of rows. -/
theorem HR.newRowsAt (hr : HR P F φ n h w) (n0 b0 n' : Nat) (hn0 : φ b0 = none) (hm : n0 ≤ n ∧ n0 ≤ b0) (hn1 : n ≤ n') (hn2 : b0 < n') {t : TypeId} {s : Nat} {rs : List (List AV)} {cs : Array Value} {tot : Nat} (hw : w'.heap = w.heap.push (.cells cs t)) (ht : sizeT P t = some s)
    (hu : ∀ row ∈ rs, row.length = s) (hl : rs.length ≤ tot) (hsz : tot * s ≤ cs.size) (hv : VRL F φ rs.flatten (cs.toList.take (rs.length * s))) (ho : Out w w' := by exact ⟨rfl, rfl, rfl⟩) :
    HR P F (pset φ b0 ⟨w.heap.size, 0, s, rs.length, tot⟩) n' (hset h b0 (some (.rows t rs))) w' ∧
      Ext F φ n0 h w F (pset φ b0 ⟨w.heap.size, 0, s, rs.length, tot⟩) n' w' := by
  refine hr.allocAt n0 b0 n' hn0 hm hn1 hn2 hw (.rows t rs) 0 s rs.length tot ⟨cs, ?_, ht, Nat.le_refl _, hl, by simpa using hsz, fun r row hrow => ?_⟩ ho
  · rw [hw]; simp
  · have hr' : r < rs.length := (List.getElem?_eq_some_iff.1 hrow).1
    have key := rows_of_flatten hu hv r row hrow
    have hle : r * s + s ≤ rs.length * s := by
      have : (r + 1) * s ≤ rs.length * s := Nat.mul_le_mul_right _ (by omega)
      rw [Nat.add_mul, Nat.one_mul] at this
      exact this
    rw [List.drop_take, List.take_take, Nat.min_eq_left (by omega)] at key
    simp only [Nat.zero_add]
    exact key.mono (fun _ _ h => h) (pset_mono _ hn0)

/-- A new block of rows, at the next number. -/
theorem HR.newRows (hr : HR P F φ n h w) {t : TypeId} {s : Nat} {rs : List (List AV)} {cs : Array Value} {tot : Nat} (hw : w'.heap = w.heap.push (.cells cs t)) (ht : sizeT P t = some s)
    (hu : ∀ row ∈ rs, row.length = s) (hl : rs.length ≤ tot) (hsz : tot * s ≤ cs.size) (hv : VRL F φ rs.flatten (cs.toList.take (rs.length * s))) (ho : Out w w' := by exact ⟨rfl, rfl, rfl⟩) :
    HR P F (pset φ n ⟨w.heap.size, 0, s, rs.length, tot⟩) (n + 1) (hset h n (some (.rows t rs))) w' ∧
      Ext F φ n h w F (pset φ n ⟨w.heap.size, 0, s, rs.length, tot⟩) (n + 1) w' :=
  hr.newRowsAt n n (n + 1) (hr.fresh n (Nat.le_refl n)) ⟨Nat.le_refl n, Nat.le_refl n⟩ (Nat.le_succ n) (Nat.lt_succ_self n) hw ht hu hl hsz hv ho

theorem r_newRow (t : TypeId) (cs : Array Value) : (newRow t cs).run P w = .ok ⟨w.heap.size, 0, none⟩ { w with heap := w.heap.push (.cells cs t) } := by
  simp [newRow]

/-- A variable with a value. -/
theorem r_newVarAt (hr : HR P F φ n h w) (n0 b0 n' : Nat) (hn0 : φ b0 = none) (hm : n0 ≤ n ∧ n0 ≤ b0) (hn1 : n ≤ n') (hn2 : b0 < n') {t : TypeId} {x : AV} {v : Value} (hx : VR F φ x v) (h1 : x.cells.all AV.one = true) (hs : sizeT P t = some x.cells.length) :
    ∃ w' φ', (newVar t v).run P w = .ok ⟨w.heap.size, 0, none⟩ w' ∧ HR P F φ' n' (hset h b0 (some (.rows t [x.cells]))) w' ∧ Ext F φ n0 h w F φ' n' w' ∧
      VR F φ' (.ptr b0 0 0) (.pointer (some ⟨w.heap.size, 0, none⟩)) ∧ ∀ j, j ≠ b0 → φ' j = φ j := by
  obtain ⟨hv, _⟩ := hx.cells h1
  obtain ⟨a, b⟩ := hr.newRowsAt n0 b0 n' hn0 hm hn1 hn2 (w' := { w with heap := w.heap.push (.cells v.cells t) }) (t := t) (s := x.cells.length) (rs := [x.cells]) (cs := v.cells) (tot := 1) rfl hs
    (by simp) (by simp) (by have := hv.length; simp at this; simp; omega) (by
      have := hv.length
      simp only [List.flatten_cons, List.flatten_nil, List.append_nil, List.length_cons, List.length_nil, Nat.zero_add, Nat.one_mul]
      rw [List.take_of_length_le (by omega)]
      exact hv)
  refine ⟨_, _, by simp [newVar, r_newRow], a, b, ?_, fun j hj => by simp [pset, hj]⟩
  have := VR.ptr (F := F) (φ := pset φ b0 ⟨w.heap.size, 0, x.cells.length, 1, 1⟩) (b := b0) (r := 0) (o := 0) (L := ⟨w.heap.size, 0, x.cells.length, 1, 1⟩) (by simp [pset])
  simpa using this

/-- A variable with a value, at the next number. -/
theorem r_newVar (hr : HR P F φ n h w) {t : TypeId} {x : AV} {v : Value} (hx : VR F φ x v) (h1 : x.cells.all AV.one = true) (hs : sizeT P t = some x.cells.length) :
    ∃ w' φ', (newVar t v).run P w = .ok ⟨w.heap.size, 0, none⟩ w' ∧ HR P F φ' (n + 1) (hset h n (some (.rows t [x.cells]))) w' ∧ Ext F φ n h w F φ' (n + 1) w' ∧
      VR F φ' (.ptr n 0 0) (.pointer (some ⟨w.heap.size, 0, none⟩)) :=
  have ⟨w', φ', k1, k2, k3, k4, _⟩ := r_newVarAt hr n n (n + 1) (hr.fresh n (Nat.le_refl n)) ⟨Nat.le_refl n, Nat.le_refl n⟩ (Nat.le_succ n) (Nat.lt_succ_self n) hx h1 hs
  ⟨w', φ', k1, k2, k3, k4⟩

/-! ### A store -/
theorem set_drop_take {α : Type} (l : List α) (o : Nat) (vs : List α) (hle : o + vs.length ≤ l.length) (a k : Nat) (hsep : a + k ≤ o ∨ o + vs.length ≤ a) :
    ((l.take o ++ vs ++ l.drop (o + vs.length)).drop a).take k = (l.drop a).take k := by
  apply List.ext_getElem?
  intro i
  rw [List.getElem?_take, List.getElem?_take]
  split
  · rename_i hi
    rw [List.getElem?_drop, List.getElem?_drop, List.append_assoc, List.getElem?_append, List.length_take]
    split
    · rw [List.getElem?_take]
      rw [if_pos (by omega)]
    · rw [List.getElem?_append]
      rw [if_neg (by omega), List.getElem?_drop]
      congr 1
      omega
  · rfl

theorem over_window {α : Type} (l us : List α) (a o k : Nat) (h1 : a + k ≤ l.length) (h2 : o + us.length ≤ k) :
    ((l.take (a + o) ++ us ++ l.drop (a + o + us.length)).drop a).take k = ((l.drop a).take k).take o ++ us ++ ((l.drop a).take k).drop (o + us.length) := by
  apply List.ext_getElem?
  intro i
  simp only [List.getElem?_take, List.getElem?_drop, List.append_assoc, List.getElem?_append, List.length_take, List.length_drop]
  by_cases c1 : i < o
  · rw [if_pos (by omega), if_pos (by omega), if_pos (by omega), if_pos (by omega), if_pos (by omega), if_pos (by omega)]
  · by_cases c2 : i < o + us.length
    · rw [if_pos (by omega), if_neg (by omega), if_pos (by omega), if_neg (by omega), if_pos (by omega)]
      congr 1
      omega
    · by_cases c3 : i < k
      · rw [if_pos c3, if_neg (by omega), if_neg (by omega), if_neg (by omega), if_neg (by omega), if_pos (by omega)]
        congr 1
        omega
      · rw [if_neg c3, if_neg (by omega), if_neg (by omega), if_neg (by omega)]

/-- New cells inside a row of a block: the row turns, no other one. -/
theorem BR.over {L : Loc} {t : TypeId} {rs : List (List AV)} (hb : BR P F φ w L (.rows t rs)) {r o : Nat} {row ys : List AV} {us : List Value} (hrow : rs[r]? = some row)
    (hle : o + ys.length ≤ row.length) (hv : VRL F φ ys us) (h1 : ∀ u ∈ us, u.oneCell' = true) :
    ∃ w', (storeCells ⟨L.B, L.base + r * L.size + o, none⟩ us).run P w = .ok () w' ∧ (w'.heap.size = w.heap.size ∧ Out w w') ∧ (∀ B, B ≠ L.B → w'.heap[B]? = w.heap[B]?) ∧
      BR P F φ w' L (.rows t (rs.set r (Ab.over row o ys))) := by
  have hrl : r < rs.length := (List.getElem?_eq_some_iff.1 hrow).1
  obtain ⟨hR, hlen⟩ := rowAt_of_rows hb hrow
  obtain ⟨cs, g1, g2, g3, g3', g4, g5⟩ := hb
  have hul := hv.length
  have hmul : L.base + r * L.size + L.size ≤ cs.size := by
    have : (r + 1) * L.size ≤ L.tot * L.size := Nat.mul_le_mul_right _ (by omega)
    rw [Nat.add_mul, Nat.one_mul] at this
    omega
  have hst := run_storeCells_at (P := P) L.B (L.base + r * L.size + o) t us 0 cs w g1 (by omega) h1
  refine ⟨_, hst, ⟨setRow_size _ _ _, rfl, rfl, rfl⟩, fun B hB => setRow_other _ _ _ _ hB, ?_⟩
  refine ⟨_, setRow_heap _ _ _ _ _ _ g1, g2, by simpa using g3, g3', ?_, ?_⟩
  · simp only [Nat.add_zero, List.size_toArray, List.length_append, List.length_take, List.length_drop, Array.length_toList]
    omega
  · intro r' row' hr'
    simp only [Nat.add_zero]
    rw [List.getElem?_set] at hr'
    split at hr'
    · rename_i he
      subst he
      cases hr'
      have key := (g5 r row hrow).over hv o
      have := over_window cs.toList us (L.base + r * L.size) o L.size (by simp; omega) (by omega)
      rw [this]
      exact key
    · rename_i hne
      have hr'' : r' < rs.length := (List.getElem?_eq_some_iff.1 hr').1
      rw [set_drop_take cs.toList _ us (by simp; omega) _ _ ?_]
      · exact g5 r' row' hr'
      · rcases Nat.lt_or_gt_of_ne hne with hlt | hgt
        · right
          have : (r + 1) * L.size ≤ r' * L.size := Nat.mul_le_mul_right _ (by omega)
          rw [Nat.add_mul, Nat.one_mul] at this
          omega
        · left
          have : (r' + 1) * L.size ≤ r * L.size := Nat.mul_le_mul_right _ (by omega)
          rw [Nat.add_mul, Nat.one_mul] at this
          omega
end

end Go.Ab

/- One operation, third part: stores, built values, slices, append. -/
namespace Go.Ab
open Go

section
variable {P : Program} {F : Terr} {φ : Phi} {n : Nat} {h : Nat → Option ABlk} {w : World}

theorem storeA_sound (hr : HR P F φ n h w) {t : TypeId} {a x : AV} {c v : Value} {ups : List (Nat × Option ABlk)} (ha : VR F φ a c) (hv : VR F φ x v) (hs : storeA P h t a x = some ups) :
    ∃ w', (Instr.storeAt t c v).run P w = .ok () w' ∧ HR P F φ n (hups h ups) w' ∧ Ext F φ n h w F φ n w' := by
  unfold storeA at hs
  split at hs
  · rename_i b r o
    split at hs
    · rename_i e rs size hb hsz
      split at hs
      · rename_i row hrow
        split at hs
        · rename_i hc
          obtain ⟨h1, h2, h3⟩ := hc
          cases hs
          obtain ⟨hcl, hone⟩ := hv.cells h3
          obtain ⟨L, g1, g2, g3⟩ := hr.blk b _ hb
          cases ha with
          | ptr hL =>
            rw [g1] at hL
            cases hL
            obtain ⟨w', k1, k2, k3, k4⟩ := g3.over (r := r) (o := o) hrow (by omega) hcl hone
            obtain ⟨k5, k6⟩ := hr.turn hb g1 k2.1 k3 _ k4 k2.2
            refine ⟨w', ?_, k5, k6⟩
            have hsize : v.cells.size = size := by have := hcl.length; simp at this; omega
            simp [Instr.storeAt, Instr.sureAddr, storeVar, r_sizeOf hsz, hsize, k1]
        · cases hs
      · cases hs
    · cases hs
  · cases hs

/-! ### Built values -/
theorem foldl_zipIdx_set (off : Nat) : ∀ (l : List Value) (k : Nat) (cells : Array Value), off + k + l.length ≤ cells.size →
    ((l.zipIdx k).foldl (fun (cs : Array Value) (x : Value × Nat) => cs.setIfInBounds (off + x.2) x.1) cells).toList = cells.toList.take (off + k) ++ l ++ cells.toList.drop (off + k + l.length)
  | [], k, cells, _ => by simp
  | v :: l, k, cells, hl => by
    rw [List.zipIdx_cons, List.foldl_cons, foldl_zipIdx_set off l (k + 1) _ (by simp at hl ⊢; omega)]
    simp only [Array.toList_setIfInBounds, List.length_cons]
    rw [List.take_set, List.drop_set_of_lt (by omega), show off + (k + 1) = off + k + 1 from by omega, List.take_add_one]
    simp at hl
    have hi : off + k < cells.toList.length := by simp; omega
    rw [List.getElem?_eq_getElem hi]
    simp only [Option.toList_some]
    have : ((cells.toList.take (off + k) ++ [cells.toList[off + k]]).set (off + k) v) = cells.toList.take (off + k) ++ [v] := by
      rw [List.set_append_right _ _ (by simp; omega)]
      simp [Nat.min_eq_left (show off + k ≤ cells.size by simpa using Nat.le_of_lt hi)]
    rw [this]
    simp only [List.append_assoc, List.singleton_append]
    rw [show off + k + 1 + l.length = off + k + (l.length + 1) from by omega]

theorem fill_sound {place : Nat → Option (Nat × Nat)} : ∀ {parts : List (Nat × AV)} {vparts : List (Nat × Value)} {cells cells' : List AV} {vcells : Array Value},
    fillA place cells parts = some cells' → parts.map (·.1) = vparts.map (·.1) → VRL F φ (parts.map (·.2)) (vparts.map (·.2)) → VRL F φ cells vcells.toList →
    ∃ vcells', Instr.fill place vcells vparts = some vcells' ∧ VRL F φ cells' vcells'.toList
  | [], [], cells, cells', vcells, hf, _, _, hc => by
    simp only [fillA, Option.some.injEq] at hf
    subst hf
    exact ⟨vcells, rfl, hc⟩
  | [], _ :: _, _, _, _, _, h1, _, _ => by simp at h1
  | _ :: _, [], _, _, _, _, h1, _, _ => by simp at h1
  | (i, x) :: parts, (j, v) :: vparts, cells, cells', vcells, hf, h1, h2, hc => by
    simp only [List.map_cons, List.cons.injEq] at h1
    obtain ⟨rfl, h1⟩ := h1
    simp only [fillA] at hf
    cases hp : place i with
    | none => simp [hp] at hf
    | some q =>
      obtain ⟨off, size⟩ := q
      simp only [hp] at hf
      split at hf
      · rename_i hle
        obtain ⟨e1, e2, e3⟩ := hle
        obtain ⟨hcl, _⟩ := h2.1.cells e3
        have hl1 := hcl.length
        have hl2 := hc.length
        simp only [Array.length_toList] at hl1 hl2
        have hnew : VRL F φ (over cells off x.cells) ((v.cells.zipIdx.foldl (fun cs (c, j) => cs.setIfInBounds (off + j) c) vcells).toList) := by
          have hle : off + v.cells.size ≤ vcells.size := by omega
          have := foldl_zipIdx_set off v.cells.toList 0 vcells (by simpa using hle)
          rw [← Array.foldl_toList, Array.toList_zipIdx]
          rw [this]
          exact hc.over hcl off
        obtain ⟨vcells', k1, k2⟩ := fill_sound hf h1 h2.2 hnew
        refine ⟨vcells', ?_, k2⟩
        have hle : off + v.cells.size ≤ vcells.size := by omega
        have hsz : v.cells.size = size := by omega
        simp only [Instr.fill, hp]
        rw [if_neg (by simp [hsz]; omega)]
        exact k1
      · cases hf
theorem madeCells_rows (z : Array Value) : ∀ len : Nat, (madeCells z (len * z.size)).toList = (List.replicate len z.toList).flatten := by
  intro len
  unfold madeCells
  simp only [Array.toList_map, Array.toList_range]
  induction len with
  | zero => simp
  | succ len ih =>
    rw [Nat.add_mul, Nat.one_mul, List.range_add, List.map_append, ih, List.replicate_succ', List.flatten_append, List.map_map]
    congr 1
    simp only [List.flatten_cons, List.flatten_nil, List.append_nil]
    apply List.ext_getElem
    · simp
    · intro i h1 h2
      simp at h1 h2
      simp [Nat.mod_eq_of_lt h2, h2]

theorem flatten_set {s : Nat} : ∀ {rs : List (List AV)} {i : Nat} {r : List AV}, (∀ row ∈ rs, row.length = s) → r.length = s → i < rs.length → (rs.set i r).flatten = over rs.flatten (i * s) r
  | [], i, r, _, _, hi => by simp at hi
  | r0 :: rs, 0, r, hu, hr, _ => by
    have h0 := hu r0 (by simp)
    simp [over, hr, ← h0]
  | r0 :: rs, i + 1, r, hu, hr, hi => by
    have h0 := hu r0 (by simp)
    have ih := flatten_set (rs := rs) (i := i) (r := r) (fun row hrow => hu row (by simp [hrow])) hr (by simpa using hi)
    rw [List.set_cons_succ, List.flatten_cons, List.flatten_cons, ih]
    unfold over
    rw [Nat.add_mul, Nat.one_mul, Nat.add_comm (i * s) s, List.take_append, List.drop_append]
    simp only [h0]
    rw [List.take_of_length_le (l := r0) (by omega), List.drop_of_length_le (l := r0) (by omega), show s + i * s - s = i * s from by omega, show s + i * s + r.length - s = i * s + r.length from by omega]
    simp

theorem putRows_len {s : Nat} : ∀ {parts : List (Nat × AV)} {rs rs' : List (List AV)}, putRows s parts rs = some rs' → rs'.length = rs.length
  | [], rs, rs', h => by simp [putRows] at h; rw [h]
  | (i, x) :: parts, rs, rs', h => by
    simp only [putRows] at h
    split at h
    · rw [putRows_len h]; simp
    · cases h

theorem putRows_fill {s : Nat} : ∀ {parts : List (Nat × AV)} {rs rs' : List (List AV)}, putRows s parts rs = some rs' → (∀ row ∈ rs, row.length = s) → (∀ x ∈ parts, x.2.cells.all AV.one = true) →
    fillA (fun i => some (i * s, s)) rs.flatten parts = some rs'.flatten
  | [], rs, rs', h, _, _ => by simp [putRows] at h; simp [fillA, h]
  | (i, x) :: parts, rs, rs', h, hu, h1 => by
    simp only [putRows] at h
    split at h
    · rename_i hc
      obtain ⟨e1, e2⟩ := hc
      have hle : i * s + s ≤ rs.length * s := by
        have : (i + 1) * s ≤ rs.length * s := Nat.mul_le_mul_right _ (by omega)
        rwa [Nat.add_mul, Nat.one_mul] at this
      have ih := putRows_fill h (fun row hrow => by
        rcases List.mem_or_eq_of_mem_set hrow with h' | h'
        · exact hu row h'
        · rw [h']; exact e1) (fun y hy => h1 y (by simp [hy]))
      simp only [fillA]
      rw [if_pos ⟨e1, by rw [flatten_len hu]; exact hle, h1 (i, x) (by simp)⟩, ← flatten_set hu e1 e2]
      exact ih
    · cases h

theorem buildSlice_soundAt (hr : HR P F φ n h w) (n0 b0 n' : Nat) (hn0 : φ b0 = none) (hm : n0 ≤ n ∧ n0 ≤ b0) (hn1 : n ≤ n') (hn2 : b0 < n') {t e : TypeId} {s len : Nat} {z : AV} {parts : List (Nat × AV)} {vparts : Array (Nat × Value)} {rs : List (List AV)}
    (he : elemT P t = some e) (hs : sizeT P e = some s) (hz : zeroT P e = some z) (hlen : len * s ≤ 2 ^ 24) (hzl : z.cells.length = s) (hs0 : s ≠ 0)
    (hp : putRows s parts (List.replicate len z.cells) = some rs) (hu : uniform s rs = true) (h1 : parts.map (·.1) = vparts.toList.map (·.1)) (h2 : VRL F φ (parts.map (·.2)) (vparts.toList.map (·.2)))
    (h3 : ∀ x ∈ parts, x.2.cells.all AV.one = true) (hz1 : z.cells.all AV.one = true) :
    ∃ u w' φ', (Instr.buildSlice t len vparts).run P w = .ok u w' ∧ HR P F φ' n' (hset h b0 (some (.rows e rs))) w' ∧ Ext F φ n0 h w F φ' n' w' ∧ VR F φ' (.sl b0 0 len (some len)) u ∧ ∀ j, j ≠ b0 → φ' j = φ j := by
  obtain ⟨v, k1, k2⟩ := r_zeroValue (w := w) (F := F) (φ := φ) hz
  obtain ⟨k3, _⟩ := k2.cells hz1
  have hvs : v.cells.size = s := by have := k3.length; simp at this; omega
  have hrl : ∀ row ∈ List.replicate len z.cells, row.length = s := fun row hrow => by rw [(List.mem_replicate.1 hrow).2]; exact hzl
  have hmade : VRL F φ (List.replicate len z.cells).flatten ((Array.range (len * s)).map (v.cells[· % v.cells.size]!)).toList := by
    have := madeCells_rows v.cells len
    unfold madeCells at this
    rw [hvs] at this
    rw [hvs, this]
    exact k3.replicate len
  have hfill := putRows_fill hp hrl h3
  obtain ⟨vc, k4, k5⟩ := fill_sound (place := fun i => some (i * s, s)) (vcells := if len * s = 0 then #[] else (Array.range (len * s)).map (v.cells[· % v.cells.size]!)) hfill h1 h2 (by
    split
    · rename_i h0
      have : len = 0 := by
        rcases Nat.mul_eq_zero.1 h0 with h | h
        · exact h
        · exact absurd h hs0
      subst this
      trivial
    · exact hmade)
  have hrs : rs.length = len := by rw [putRows_len hp]; simp
  have hlen5 := k5.length
  rw [flatten_len (uniform_len hu), hrs] at hlen5
  simp only [Array.length_toList] at hlen5
  obtain ⟨g1, g2⟩ := hr.newRowsAt n0 b0 n' hn0 hm hn1 hn2 (w' := { w with heap := w.heap.push (.cells vc e) }) (t := e) (s := s) (rs := rs) (cs := vc) (tot := rs.length) rfl hs (uniform_len hu) (Nat.le_refl _) (by rw [hrs]; omega)
    (by rw [List.take_of_length_le (by rw [hrs]; simp; omega)]; exact k5)
  refine ⟨.slice (some ⟨w.heap.size, 0, none⟩) len len, _, _, ?_, g1, g2, ?_, fun j hj => by simp [pset, hj]⟩
  · have hle : ¬ (len * s > 2 ^ 24) := by omega
    by_cases h0 : len * s = 0
    · rw [if_pos h0] at k4
      simp only [Instr.buildSlice, Sem.run_bind, r_underlying (elemT_underlying he), Result.andThen_ok, r_sizeOf hs, hle, if_false, h0, if_true, Sem.run_pure, Array.range_zero', Array.map_empty, k4, r_newRow, reduceIte]
      simp [k4, r_newRow]
    · rw [if_neg h0] at k4
      simp only [Instr.buildSlice, Sem.run_bind, r_underlying (elemT_underlying he), Result.andThen_ok, r_sizeOf hs, hle, if_false, h0, Sem.run_pure, k1, k4, r_newRow]
  · exact .sl (L := ⟨w.heap.size, 0, s, rs.length, rs.length⟩) (by simp [pset]) (Nat.le_refl _) (fun k hk => by cases hk; rfl) (fun hk => by cases hk) (by simp [hrs]) (fun _ => by simp)
theorem buildSlice_sound (hr : HR P F φ n h w) {t e : TypeId} {s len : Nat} {z : AV} {parts : List (Nat × AV)} {vparts : Array (Nat × Value)} {rs : List (List AV)}
    (he : elemT P t = some e) (hs : sizeT P e = some s) (hz : zeroT P e = some z) (hlen : len * s ≤ 2 ^ 24) (hzl : z.cells.length = s) (hs0 : s ≠ 0)
    (hp : putRows s parts (List.replicate len z.cells) = some rs) (hu : uniform s rs = true) (h1 : parts.map (·.1) = vparts.toList.map (·.1)) (h2 : VRL F φ (parts.map (·.2)) (vparts.toList.map (·.2)))
    (h3 : ∀ x ∈ parts, x.2.cells.all AV.one = true) (hz1 : z.cells.all AV.one = true) :
    ∃ u w' φ', (Instr.buildSlice t len vparts).run P w = .ok u w' ∧ HR P F φ' (n + 1) (hset h n (some (.rows e rs))) w' ∧ Ext F φ n h w F φ' (n + 1) w' ∧ VR F φ' (.sl n 0 len (some len)) u :=
  have ⟨u, w', φ', k1, k2, k3, k4, _⟩ := buildSlice_soundAt hr n n (n + 1) (hr.fresh n (Nat.le_refl n)) ⟨Nat.le_refl n, Nat.le_refl n⟩ (Nat.le_succ n) (Nat.lt_succ_self n) he hs hz hlen hzl hs0 hp hu h1 h2 h3 hz1
  ⟨u, w', φ', k1, k2, k3, k4⟩

end

end Go.Ab

/- One operation, fourth part: what a slice shows; append, clear. -/
namespace Go.Ab
open Go

section
variable {P : Program} {F : Terr} {φ : Phi} {n : Nat} {h : Nat → Option ABlk} {w : World}

theorem cell_heap {w w' : World} (hw : w'.heap = w.heap) (a : Addr) : w'.cell? a = w.cell? a := by simp [World.cell?, hw]

theorem drop_take_drop {α : Type} (l : List α) (a b k m : Nat) (h : b + k ≤ m) : ((((l.drop a).take m).drop b).take k) = (l.drop (a + b)).take k := by
  rw [List.drop_take, List.take_take, List.drop_drop, Nat.min_eq_left (by omega)]

theorem VR.sl_inv {b s m k cap : Nat} {c : Option Nat} {base : Option Addr} (hv : VR F φ (.sl b s m c) (.slice base k cap)) :
    ∃ L a, base = some a ∧ k = m ∧ φ b = some L ∧ m ≤ cap ∧ (∀ j, c = some j → cap = j) ∧ (c = none → L.room ≤ s + cap) ∧ s + cap ≤ L.tot ∧ (0 < cap → a = ⟨L.B, L.base + s * L.size, none⟩) := by
  cases hv with
  | sl h hn hc hr ht ha => exact ⟨_, _, rfl, rfl, h, hn, hc, hr, ht, ha⟩

/-- The cells that a slice shows. -/
theorem slice_cells (hr : HR P F φ n h w) {x : AV} {v : Value} {rows : List (List AV)} {size : Nat} (hx : VR F φ x v) (hrows : rowsOf h x = some rows) (hu : ∀ row ∈ rows, row.length = size) :
    ∃ base cap, v = .slice base rows.length cap ∧ rows.length ≤ cap ∧ ∃ cells : List Value, VRL F φ rows.flatten cells ∧
      ∀ w' : World, w'.heap = w.heap → (Builtin.firstCells size rows.length v).run P w' = .ok cells.toArray w' := by
  cases hx with
  | @roe a cap tight ht =>
    simp only [rowsOf, Option.some.injEq] at hrows
    subst hrows
    refine ⟨_, _, rfl, Nat.zero_le _, [], trivial, fun w' _ => ?_⟩
    cases a with
    | none => simp [run_firstCells_none]
    | some a => exact run_firstCells_some (P := P) w' size 0 a 0 cap [] (by simp) (fun j v hj => by simp at hj)
  | @ro rows' tight a nn cap sz cs t fr g hn hF hs hcap ht hsz hc hv =>
    simp only [rowsOf, Option.some.injEq] at hrows
    obtain rfl := hrows.symm
    refine ⟨_, _, by rw [hn], by omega, ?_⟩
    by_cases h0 : rows = []
    · subst h0
      exact ⟨[], trivial, fun w' _ => run_firstCells_some (P := P) w' size 0 a _ cap [] (by simp) (fun j v hj => by simp at hj)⟩
    · obtain ⟨r0, rest, rfl⟩ := List.exists_cons_of_ne_nil h0
      have e0 : sz = size := by rw [← hsz 0 r0 rfl]; exact hu r0 (by simp)
      subst e0
      have hcell : ∀ i j row x, (r0 :: rest)[i]? = some row → row[j]? = some x → w.cell? (a.add (i * sz + j)) = some (g i j) := by
        intro i j row x h1 h2
        have h3 := hc i j row x h1 h2
        have h4 := hr.terr _ _ hF
        have ha : a = ⟨a.block, a.off, none⟩ := by cases a; simp_all
        rw [ha, addr_add]
        simp only [World.cell?, h4]
        rw [← Nat.add_assoc]
        simpa using h3
      -- the cells, row by row
      have key : ∀ (rs : List (List AV)) (k : Nat), (∀ i row, rs[i]? = some row → (r0 :: rest)[k + i]? = some row) →
          ∃ cells : List Value, VRL F φ rs.flatten cells ∧ ∀ j u, cells[j]? = some u → w.cell? (a.add (k * sz + j)) = some u := by
        intro rs
        induction rs with
        | nil => intro k _; exact ⟨[], trivial, fun j u hj => by simp at hj⟩
        | cons r rs ih =>
          intro k hk
          obtain ⟨cells, k1, k2⟩ := ih (k + 1) (fun i row hi => by
            have := hk (i + 1) row (by simpa using hi)
            rwa [show k + 1 + i = k + (i + 1) from by omega])
          have hrk := hk 0 r rfl
          rw [Nat.add_zero] at hrk
          have hlen : r.length = sz := hsz k r hrk
          refine ⟨(List.range r.length).map (g k) ++ cells, ?_, ?_⟩
          · rw [List.flatten_cons]
            refine VRL.append (VRL.mk (by simp) fun i x v h1 h2 => ?_) k1
            have hi := (List.getElem?_eq_some_iff.1 h1).1
            simp [hi] at h2
            subst h2
            exact hv k i r x hrk h1
          · intro j u hj
            rw [List.getElem?_append] at hj
            simp only [List.length_map, List.length_range] at hj
            split at hj
            · rename_i hlt
              simp [hlt] at hj
              subst hj
              exact hcell k j r r[j] hrk (by simp [hlt])
            · rename_i hge
              have := k2 _ u hj
              rw [Nat.add_mul, Nat.one_mul] at this
              rw [show k * sz + j = k * sz + sz + (j - r.length) from by omega]
              exact this
      obtain ⟨cells, k1, k2⟩ := key (r0 :: rest) 0 (fun i row hi => by rw [Nat.zero_add]; exact hi)
      refine ⟨cells, k1, fun w' hw => run_firstCells_some (P := P) w' sz _ a _ cap cells ?_ fun j u hj => ?_⟩
      · rw [← k1.length, flatten_len hu]
      · rw [cell_heap hw]
        have := k2 j u hj
        rwa [Nat.zero_mul, Nat.zero_add] at this
  | @sl b s nn cap c L a hL hn hc hrm htt ha =>
    simp only [rowsOf] at hrows
    split at hrows
    · rename_i h0
      cases hrows
      subst h0
      exact ⟨_, _, rfl, Nat.zero_le _, [], trivial, fun w' _ => run_firstCells_some (P := P) w' size 0 a 0 cap [] (by simp) (fun j v hj => by simp at hj)⟩
    · rename_i h0
      split at hrows
      · rename_i t rs hb
        split at hrows
        · rename_i hle
          cases hrows
          have hrl : ((rs.drop s).take nn).length = nn := by simp; omega
          refine ⟨_, _, by rw [hrl], by omega, ?_⟩
          obtain ⟨L0, g1, g2, g3⟩ := hr.blk b _ hb
          rw [hL] at g1
          cases g1
          have hrow0 : rs[s]? = some rs[s] := by simp
          have e0 : L.size = size := by
            rw [← (rowAt_of_rows g3 hrow0).2]
            exact hu _ (List.mem_of_getElem? (i := 0) (by rw [List.getElem?_take, if_pos (by omega), List.getElem?_drop, Nat.add_zero]; exact hrow0))
          subst e0
          obtain ⟨cs, q1, q2, q3, q3', q4, q5⟩ := g3
          have hfit : L.base + (s + nn) * L.size ≤ cs.size := by
            have : (s + nn) * L.size ≤ L.tot * L.size := Nat.mul_le_mul_right _ (by omega)
            omega
          rw [Nat.add_mul] at hfit
          have hfl := flatten_of_rows (F := F) (φ := φ) (s := L.size) (rs := (rs.drop s).take nn) (vs := cs.toList.drop (L.base + s * L.size)) hu (by rw [hrl]; simp; omega) (fun r row hrow => by
            rw [List.getElem?_take] at hrow
            split at hrow
            · rw [List.getElem?_drop] at hrow
              have := q5 _ _ hrow
              rw [Nat.add_mul, ← Nat.add_assoc] at this
              rw [List.drop_drop]
              exact this
            · cases hrow)
          rw [hrl] at hfl
          refine ⟨_, hfl, fun w' hw => ?_⟩
          rw [hrl]
          have haa := ha (by omega)
          subst haa
          refine run_firstCells_some (P := P) w' L.size nn _ nn cap _ (by simp; omega) fun j u hj => ?_
          rw [List.getElem?_take] at hj
          split at hj
          · rw [List.getElem?_drop] at hj
            rw [addr_add]
            simp only [World.cell?, hw, q1]
            simpa using hj
          · cases hj
        · cases hrows
      · cases hrows
  | _ => simp [rowsOf] at hrows

/-- append where there is room. -/
theorem run_append_room {st xt e : TypeId} {ats : Array TypeId} {ty : TypeId} {size : Nat} (h0 : ats[0]? = some st) (h1 : ats[1]? = some xt) (hst : P.underlying st = some (.slice e))
    {e' : TypeId} (hxt : P.underlying xt = some (.slice e')) (hs : sizeT P e = some size) {base xb : Option Addr} {sl sc m xc : Nat} (hroom : sl + m ≤ sc) {news : Array Value} (hf : (Builtin.firstCells size m (.slice xb m xc)).run P w = .ok news w) :
    (Builtin.append_ ats ty #[.slice base sl sc, .slice xb m xc]).run P w =
      ((match base with | some a => storeCells (a.add (sl * size)) news.toList | none => pure () : Sem Unit).run P w).andThen fun _ w' => .ok (.slice base (sl + m) sc) w' := by
  have hs' := r_sizeOf (w := w) hs
  simp only [Builtin.append_, h0, h1, List.getElem?_toArray, List.getElem?_cons_zero, List.getElem?_cons_succ, Sem.run_bind, r_underlying hst, r_underlying hxt, Result.andThen_ok, hs', Sem.run_pure, Bool.false_eq_true, if_false, Builtin.lenOf, Bool.not_false, if_true, hroom, hf]
  cases base <;> simp

/-- append where there is none. -/
theorem run_append_move {st xt e : TypeId} {ats : Array TypeId} {ty : TypeId} {i : TypeInfo} {z : Value} (h0 : ats[0]? = some st) (h1 : ats[1]? = some xt) (hst : P.underlying st = some (.slice e))
    {e' : TypeId} (hxt : P.underlying xt = some (.slice e')) (hi : P.info? e = some i) (hz : i.zero = some z) {base xb : Option Addr} {sl sc m xc : Nat} (hroom : sc < sl + m) {olds news : Array Value}
    (hf : (Builtin.firstCells i.size m (.slice xb m xc)).run P w.drew = .ok news w.drew) (hfo : (Builtin.firstCells i.size sl (.slice base sl sc)).run P w.drew = .ok olds w.drew)
    (h63 : ((sl + m : Nat) : Int) ≤ 9223372036854775807) (hfit : Builtin.nextslicecap (sl + m) sc * i.bytes ≤ 281474976710656) :
    (Builtin.append_ ats ty #[.slice base sl sc, .slice xb m xc]).run P w =
      .ok (.slice (some ⟨w.heap.size, 0, none⟩) (sl + m) (grownCap w (sl + m) sc e)) (w.drew.alloc (.cells (olds ++ news ++ Builtin.zeroCells z.cells (grownCap w (sl + m) sc e - (sl + m))) e)) := by
  have hn : ¬ (sl + m ≤ sc) := by omega
  have h63' : ¬ (9223372036854775807 < ((sl : Int) + (m : Int))) := by omega
  have h48' : ¬ (281474976710656 < Builtin.nextslicecap (sl + m) sc * i.bytes) := by omega
  simp [Builtin.append_, h0, h1, r_underlying hst, r_underlying hxt, sizeOf, typeInfo, zeroValue, hi, hz, Builtin.lenOf, hn, h63', h48', Question.forced, hf, hfo, newRow, grownCap]

theorem HR.heap {w' : World} (hr : HR P F φ n h w) (hw : w'.heap = w.heap) : HR P F φ n h w' :=
  ⟨fun B o hB => by rw [hw]; exact hr.terr B o hB, fun b x hb => by
    obtain ⟨L, h1, h2, h3⟩ := hr.blk b x hb
    exact ⟨L, h1, h2, h3.mono (fun _ _ h => h) (fun _ _ h => h) (by rw [hw])⟩, hr.inj, hr.fresh, fun b L hL => by rw [hw]; exact hr.below b L hL⟩

theorem Ext.heap {w' : World} (hw : w'.heap = w.heap) (ho : Out w w' := by exact ⟨rfl, rfl, rfl⟩) : Ext F φ n h w F φ n w' :=
  ⟨fun _ _ h => h, fun _ _ h => h, Nat.le_refl _, by rw [hw]; exact Nat.le_refl _, fun _ _ _ => by rw [hw], fun _ h => .inl h, fun _ _ h => .inl h, fun _ _ h _ => h, ho⟩

theorem Ext.more {h1 : Nat → Option ABlk} {F' : Terr} {φ' : Phi} {n' : Nat} {w' : World} (hsub : ∀ b x, h1 b = some x → ∃ y, h b = some y) (e : Ext F φ n h1 w F' φ' n' w') : Ext F φ n h w F' φ' n' w' := by
  refine ⟨e.terr, e.phi, e.nle, e.size, fun B hB hne => e.keep B hB fun b x L hb hL => ?_, fun B hB => ?_, fun b L hL => ?_, e.newN, e.out⟩
  · obtain ⟨y, hy⟩ := hsub b x hb
    exact hne b y L hy hL
  · rcases e.newF B hB with h0 | h0 | ⟨b, x, L, hb, hL, he⟩
    · exact .inl h0
    · exact .inr (.inl h0)
    · obtain ⟨y, hy⟩ := hsub b x hb
      exact .inr (.inr ⟨b, y, L, hy, hL, he⟩)
  · rcases e.newP b L hL with h0 | h1' | ⟨b0, x, L0, hb, hL0, he⟩
    · exact .inl h0
    · exact .inr (.inl h1')
    · obtain ⟨y, hy⟩ := hsub b0 x hb
      exact .inr (.inr ⟨b0, y, L0, hy, hL0, he⟩)

theorem BR.flat {L : Loc} {t : TypeId} {rs : List (List AV)} (hb : BR P F φ w L (.rows t rs)) :
    ∃ cs : Array Value, w.heap[L.B]? = some (.cells cs t (0, 0)) ∧ sizeT P t = some L.size ∧ rs.length ≤ L.room ∧ L.room ≤ L.tot ∧ L.base + L.tot * L.size ≤ cs.size ∧
      (∀ row ∈ rs, row.length = L.size) ∧ VRL F φ rs.flatten ((cs.toList.drop L.base).take (rs.length * L.size)) := by
  have hlen : ∀ row ∈ rs, row.length = L.size := fun row hrow => by
    obtain ⟨i, hi⟩ := List.getElem?_of_mem hrow
    exact (rowAt_of_rows hb hi).2
  obtain ⟨cs, h1, h2, h3, h3', h4, h5⟩ := hb
  have hle : rs.length * L.size ≤ L.tot * L.size := Nat.mul_le_mul_right _ (by omega)
  refine ⟨cs, h1, h2, h3, h3', h4, hlen, flatten_of_rows hlen (by simp; omega) fun r row hrow => ?_⟩
  rw [List.drop_drop]
  exact h5 r row hrow

theorem BR.of_flat {L : Loc} {t : TypeId} {rs : List (List AV)} {cs : Array Value} (h1 : w.heap[L.B]? = some (.cells cs t (0, 0))) (h2 : sizeT P t = some L.size) (h3 : rs.length ≤ L.room) (h3' : L.room ≤ L.tot)
    (h4 : L.base + L.tot * L.size ≤ cs.size) (hlen : ∀ row ∈ rs, row.length = L.size) (h5 : VRL F φ rs.flatten ((cs.toList.drop L.base).take (rs.length * L.size))) : BR P F φ w L (.rows t rs) := by
  refine ⟨cs, h1, h2, h3, h3', h4, fun r row hrow => ?_⟩
  have key := rows_of_flatten hlen h5 r row hrow
  have hr' : r < rs.length := (List.getElem?_eq_some_iff.1 hrow).1
  have hle : r * L.size + L.size ≤ rs.length * L.size := by
    have : (r + 1) * L.size ≤ rs.length * L.size := Nat.mul_le_mul_right _ (by omega)
    rwa [Nat.add_mul, Nat.one_mul] at this
  rwa [drop_take_drop _ _ _ _ _ hle] at key

theorem flatten_over {s : Nat} {rs ys : List (List AV)} {k : Nat} (hu : ∀ row ∈ rs, row.length = s) (hy : ∀ row ∈ ys, row.length = s) (hk : k + ys.length ≤ rs.length) :
    (rs.take k ++ ys ++ rs.drop (k + ys.length)).flatten = over rs.flatten (k * s) ys.flatten := by
  have hsplit : rs = rs.take k ++ (rs.drop k).take ys.length ++ rs.drop (k + ys.length) := by
    rw [List.append_assoc, ← List.drop_drop, List.take_append_drop, List.take_append_drop]
  have l1 : (rs.take k).flatten.length = k * s := by
    rw [flatten_len (s := s) (fun row hrow => hu row (List.mem_of_mem_take hrow)), List.length_take, Nat.min_eq_left (by omega)]
  have l2 : ((rs.drop k).take ys.length).flatten.length = ys.length * s := by
    rw [flatten_len (s := s) (fun row hrow => hu row (List.mem_of_mem_drop (List.mem_of_mem_take hrow))), List.length_take, List.length_drop, Nat.min_eq_left (by omega)]
  have l3 : ys.flatten.length = ys.length * s := flatten_len hy
  have hf : rs.flatten = (rs.take k).flatten ++ ((rs.drop k).take ys.length).flatten ++ (rs.drop (k + ys.length)).flatten := by
    rw [← List.flatten_append, ← List.flatten_append, ← hsplit]
  unfold over
  rw [hf, List.flatten_append, List.flatten_append]
  have t1 : (((rs.take k).flatten ++ ((rs.drop k).take ys.length).flatten ++ (rs.drop (k + ys.length)).flatten).take (k * s)) = (rs.take k).flatten := by
    rw [List.append_assoc, List.take_append, l1, Nat.sub_self, List.take_zero, List.append_nil, List.take_of_length_le (by omega)]
  have t2 : (((rs.take k).flatten ++ ((rs.drop k).take ys.length).flatten ++ (rs.drop (k + ys.length)).flatten).drop (k * s + ys.flatten.length)) = (rs.drop (k + ys.length)).flatten := by
    rw [List.drop_append, List.length_append, l1, l2, l3, Nat.sub_self, List.drop_zero, List.drop_of_length_le (by rw [List.length_append]; omega), List.nil_append]
  rw [t1, t2]

theorem grownCap_ge (w : World) (need old : Nat) (e : TypeId) : need ≤ grownCap w need old e := by
  simp [grownCap, Question.cut]
end

end Go.Ab

/- One operation, fifth part: append. -/
namespace Go.Ab
open Go

section
variable {P : Program} {F : Terr} {φ : Phi} {n : Nat} {h : Nat → Option ABlk} {w : World}

theorem uniform_mem {s : Nat} {rs : List (List AV)} (hu : uniform s rs = true) : rs.flatten.all AV.one = true := by
  rw [List.all_eq_true]
  intro x hx
  obtain ⟨row, h1, h2⟩ := List.mem_flatten.1 hx
  exact List.all_eq_true.1 (uniform_one hu row h1) x h2

/-- A slice grown into a new block of its own. -/
theorem append_new (hr : HR P F φ n h w) {st xt e e' : TypeId} {ats : Array TypeId} {ty : TypeId} {size bytes : Nat} {vx vy : Value} {xs ys : List (List AV)} (h0 : ats[0]? = some st) (h1 : ats[1]? = some xt)
    (hst : P.underlying st = some (.slice e)) (hxt : P.underlying xt = some (.slice e')) (hs : sizeT P e = some size) (hb : (P.info? e).map (·.bytes) = some bytes) (hz : ∃ z, zeroT P e = some z ∧ z.cells.all AV.one = true ∧ z.cells.length = size)
    (hfit : (2 * (xs.length + ys.length) + 1000) * bytes ≤ 2 ^ 47) (hbig : xs.length + ys.length ≤ 2 ^ 47) (hux : ∀ row ∈ xs, row.length = size) (huy : ∀ row ∈ ys, row.length = size) {base xb : Option Addr} {cap xc : Nat} (hvx : vx = .slice base xs.length cap) (hvy : vy = .slice xb ys.length xc)
    (hcap : cap < xs.length + ys.length) {cx cy : List Value} (hcx : VRL F φ xs.flatten cx) (hcy : VRL F φ ys.flatten cy)
    (hfx : ∀ w' : World, w'.heap = w.heap → (Builtin.firstCells size xs.length vx).run P w' = .ok cx.toArray w') (hfy : ∀ w' : World, w'.heap = w.heap → (Builtin.firstCells size ys.length vy).run P w' = .ok cy.toArray w') :
    ∃ u w' φ', (Builtin.append_ ats ty #[vx, vy]).run P w = .ok u w' ∧ HR P F φ' (n + 1) (hset h n (some (.rows e (xs ++ ys)))) w' ∧ Ext F φ n h w F φ' (n + 1) w' ∧ VR F φ' (.sl n 0 (xs.length + ys.length) none) u := by
  subst hvx hvy
  obtain ⟨i, hi, hisz⟩ := sizeT_info hs
  have hib : i.bytes = bytes := by rw [hi] at hb; simpa using hb
  obtain ⟨z, hz0, hz1, hz2⟩ := hz
  have hzi : ∃ zv, i.zero = some zv ∧ z = ofConst zv := by
    unfold zeroT at hz0
    rw [hi] at hz0
    simp only [Option.bind_some] at hz0
    cases hq : i.zero with
    | none => rw [hq] at hz0; simp at hz0
    | some zv => rw [hq] at hz0; exact ⟨zv, rfl, by simpa using hz0.symm⟩
  obtain ⟨zv, hzv, rfl⟩ := hzi
  have hzc := ((ofConst_VR (F := F) (φ := φ) zv).cells hz1).1.length
  subst hisz
  have hdr : w.drew.heap = w.heap := rfl
  have hgs : (xs.length + ys.length) * bytes ≤ 140737488355328 := by
    have : (xs.length + ys.length) * bytes ≤ (2 * (xs.length + ys.length) + 1000) * bytes := Nat.mul_le_mul_right _ (by omega)
    omega
  have hrun := run_append_move (P := P) (w := w) (ty := ty) h0 h1 hst hxt hi hzv hcap (hfy w.drew hdr) (hfx w.drew hdr) (by omega) (by rw [hib]; exact growslice_fits hcap hgs)
  have hge := grownCap_ge w (xs.length + ys.length) cap e
  have hlx := hcx.length
  have hly := hcy.length
  rw [flatten_len hux] at hlx
  rw [flatten_len huy] at hly
  have huxy : ∀ row ∈ xs ++ ys, row.length = i.size := fun row hrow => by
    rcases List.mem_append.1 hrow with h | h
    · exact hux row h
    · exact huy row h
  have hszall : (cx.toArray ++ cy.toArray ++ Builtin.zeroCells zv.cells (grownCap w (xs.length + ys.length) cap e - (xs.length + ys.length))).size = grownCap w (xs.length + ys.length) cap e * i.size := by
    have hzs : zv.cells.size = i.size := by simp at hzc; omega
    simp only [Array.size_append, List.size_toArray, Builtin.zeroCells, Array.size_map, Array.size_range, hzs, ← hlx, ← hly]
    rw [← Nat.add_mul, ← Nat.add_mul]
    congr 1
    omega
  obtain ⟨g1, g2⟩ := hr.newRows (w' := w.drew.alloc (.cells (cx.toArray ++ cy.toArray ++ Builtin.zeroCells zv.cells (grownCap w (xs.length + ys.length) cap e - (xs.length + ys.length))) e)) (t := e) (s := i.size) (rs := xs ++ ys)
    (tot := grownCap w (xs.length + ys.length) cap e) rfl hs huxy (by rw [List.length_append]; exact hge) (by rw [hszall]; exact Nat.le_refl _) (by
      rw [List.flatten_append, Array.toList_append, Array.toList_append]
      rw [List.take_append_of_le_length (by simp [List.length_append, Nat.add_mul]; omega), List.take_of_length_le (by simp [List.length_append, Nat.add_mul]; omega)]
      exact hcx.append hcy)
  refine ⟨_, _, _, hrun, g1, g2, ?_⟩
  exact .sl (L := ⟨w.heap.size, 0, i.size, (xs ++ ys).length, grownCap w (xs.length + ys.length) cap e⟩) (by simp [pset]) hge (fun k hk => by cases hk) (fun _ => by simpa using hge) (by simp) (fun _ => by simp)

theorem appendA_sound (hr : HR P F φ n h w) {st xt e' : TypeId} {ats : Array TypeId} {ty : TypeId} {x y : AV} {vx vy : Value} {nx : ANext} (hx : VR F φ x vx) (hy : VR F φ y vy)
    (h0 : ats[0]? = some st) (h1 : ats[1]? = some xt) (hxt : P.underlying xt = some (.slice e')) (ha : appendA P h n st x y = some nx) :
    ∃ v ups n', nx = .val v ups n' ∧ ∃ u w' φ', (Builtin.append_ ats ty #[vx, vy]).run P w = .ok u w' ∧ HR P F φ' n' (hups h ups) w' ∧ Ext F φ n h w F φ' n' w' ∧ VR F φ' v u := by
  unfold appendA at ha
  split at ha
  · cases ha
  · rename_i e he
    have hst := elemT_underlying he
    split at ha
    · rename_i xs ys size bytes hxs hys hs hb
      split at ha
      · cases ha
      · rename_i hun
        simp only [Bool.not_eq_true, Bool.not_eq_false', Bool.and_eq_true] at hun
        obtain ⟨⟨hux, huy⟩, hzz⟩ := hun
        split at ha
        · cases ha
        · rename_i hfit
          obtain ⟨base, cap, rfl, hxcap, cx, hcx, hfx⟩ := slice_cells hr hx hxs (uniform_len hux)
          obtain ⟨xb, xc, rfl, hycap, cy, hcy, hfy⟩ := slice_cells hr hy hys (uniform_len huy)
          have hz := zFine_spec hzz
          have hfit' : (2 * (xs.length + ys.length) + 1000) * bytes ≤ 2 ^ 47 ∧ xs.length + ys.length ≤ 2 ^ 47 := by omega
          split at ha
          · -- nothing comes
            rename_i hem
            cases ha
            refine ⟨_, _, _, rfl, _, w, φ, ?_, hr, Ext.refl .., hx⟩
            have hy0 : ys = [] := by simpa using hem
            subst hy0
            have hcy0 : cy = [] := by
              have := hcy.length
              simpa using this.symm
            subst hcy0
            rw [run_append_room (P := P) (w := w) (ty := ty) h0 h1 hst hxt hs (by simpa using hxcap) (hfy w rfl)]
            cases base <;> simp [storeCells]
          · rename_i hem
            have hypos : 0 < ys.length := by
              cases ys with
              | nil => simp at hem
              | cons _ _ => simp
            split at ha
            · -- a read-only slice without room
              rename_i rows
              cases ha
              refine ⟨_, _, _, rfl, ?_⟩
              have hcl : cap = xs.length := by
                simp only [rowsOf, Option.some.injEq] at hxs
                subst hxs
                cases hx with
                | roe ht => exact ht rfl
                | ro g hn hF hs' hcap ht hsz hc hv => exact ht rfl
              exact append_new hr h0 h1 hst hxt hs hb hz hfit'.1 hfit'.2 (uniform_len hux) (uniform_len huy) rfl rfl (by omega) hcx hcy hfx hfy
            · -- a slice of an abstract block
              rename_i b s m c
              split at ha
              · rename_i t rs hblk
                split at ha
                · cases ha
                · rename_i hfine
                  simp only [not_or, Decidable.not_not, Nat.not_lt] at hfine
                  obtain ⟨hts, hsm⟩ := hfine
                  have hxseq : xs = (rs.drop s).take m := by
                    simp only [rowsOf] at hxs
                    split at hxs
                    · rename_i h00
                      cases hxs
                      simp [h00]
                    · rw [hblk] at hxs
                      simp only [if_pos hsm, Option.some.injEq] at hxs
                      exact hxs.symm
                  have hm : m = xs.length := by rw [hxseq]; simp; omega
                  obtain ⟨L, hL, hFL, hBR⟩ := hr.blk b _ hblk
                  obtain ⟨cs, q1, q2, q3, q3', q4, q5, q6⟩ := hBR.flat
                  have hLs : L.size = size := by rw [hts] at q2; exact (Option.some.inj q2).symm
                  obtain ⟨L', a, rfl, _, hL', hn, hc, hrm, htt, haa⟩ := hx.sl_inv
                  rw [hL] at hL'
                  cases hL'
                  -- the cells stored, where there is room
                  have store : xs.length + ys.length ≤ cap → ∃ w', (Builtin.append_ ats ty #[.slice (some a) xs.length cap, .slice xb ys.length xc]).run P w = .ok (.slice (some a) (xs.length + ys.length) cap) w' ∧ (w'.heap.size = w.heap.size ∧ Out w w') ∧
                      (∀ B, B ≠ L.B → w'.heap[B]? = w.heap[B]?) ∧ w'.heap[L.B]? = some (.cells (cs.toList.take (L.base + (s + m) * L.size) ++ cy ++ cs.toList.drop (L.base + (s + m) * L.size + cy.length)).toArray t (0, 0)) := by
                    intro hroom
                    have hae := haa (by omega)
                    subst hae
                    have hfitc : L.base + (s + m) * L.size + cy.length ≤ cs.size := by
                      have hl := hcy.length
                      rw [flatten_len (uniform_len huy)] at hl
                      have : (s + m + ys.length) * L.size ≤ L.tot * L.size := Nat.mul_le_mul_right _ (by omega)
                      rw [Nat.add_mul, hLs] at this
                      rw [hLs] at q4
                      rw [hLs]
                      omega
                    have hst' := run_storeCells_at (P := P) L.B (L.base + (s + m) * L.size) t cy 0 cs w q1 (by simpa using hfitc) (hcy.one (uniform_mem huy))
                    refine ⟨w.setRow L.B (cs.toList.take (L.base + (s + m) * L.size) ++ cy ++ cs.toList.drop (L.base + (s + m) * L.size + cy.length)).toArray, ?_, ⟨setRow_size _ _ _, rfl, rfl, rfl⟩, fun B hB => setRow_other _ _ _ _ hB, setRow_heap _ _ _ _ _ _ q1⟩
                    rw [run_append_room (P := P) (w := w) (ty := ty) h0 h1 hst hxt hs hroom (hfy w rfl)]
                    simp only [addr_add]
                    rw [show L.base + s * L.size + xs.length * size = L.base + (s + m) * L.size from by rw [hm, hLs, Nat.add_mul]; omega]
                    simp only [Nat.add_zero] at hst'
                    rw [hst']
                    simp
                  by_cases hin : s + (m + ys.length) ≤ rs.length ∧ (m + ys.length) ≤ c.getD (m + ys.length)
                  · -- in place
                    rw [if_pos hin] at ha
                    obtain ⟨hin1, hin2⟩ := hin
                    cases ha
                    refine ⟨_, _, _, rfl, ?_⟩
                    have hroom : xs.length + ys.length ≤ cap := by
                      cases c with
                      | none => have := hrm rfl; omega
                      | some k => have := hc k rfl; simp at hin2; omega
                    obtain ⟨w', k1, k2, k3, k4⟩ := store hroom
                    have hnew : BR P F φ w' L (.rows t (rs.take (s + m) ++ ys ++ rs.drop (s + (m + ys.length)))) := by
                      have hlen' : (rs.take (s + m) ++ ys ++ rs.drop (s + (m + ys.length))).length = rs.length := by simp; omega
                      refine .of_flat k4 q2 (by rw [hlen']; exact q3) q3' ?_ ?_ ?_
                      · have hl := hcy.length
                        simp only [List.size_toArray, List.length_append, List.length_take, List.length_drop, Array.length_toList]
                        omega
                      · intro row hrow
                        rw [hLs]
                        rcases List.mem_append.1 hrow with h' | h'
                        · rcases List.mem_append.1 h' with h'' | h''
                          · rw [← hLs]; exact q5 row (List.mem_of_mem_take h'')
                          · exact uniform_len huy row h''
                        · rw [← hLs]; exact q5 row (List.mem_of_mem_drop h')
                      · rw [hlen', show s + (m + ys.length) = s + m + ys.length from by omega, flatten_over (s := L.size) q5 (by rw [hLs]; exact uniform_len huy) (by omega)]
                        have hl := hcy.length
                        rw [flatten_len (uniform_len huy)] at hl
                        have hle : (s + m) * L.size + cy.length ≤ rs.length * L.size := by
                          have : (s + m + ys.length) * L.size ≤ rs.length * L.size := Nat.mul_le_mul_right _ (by omega)
                          rw [Nat.add_mul] at this
                          rw [← hl, ← hLs]
                          exact this
                        have hle2 : rs.length * L.size ≤ L.tot * L.size := Nat.mul_le_mul_right _ (by omega)
                        simp only [List.toList_toArray]
                        rw [over_window cs.toList cy L.base ((s + m) * L.size) (rs.length * L.size) (by simp; omega) hle]
                        exact q6.over hcy _
                    obtain ⟨k5, k6⟩ := hr.turn hblk hL k2.1 k3 _ hnew k2.2
                    refine ⟨_, w', φ, k1, k5, k6, ?_⟩
                    rw [← hm]
                    exact .sl hL (by omega) hc hrm htt haa
                  · rw [if_neg hin] at ha
                    split at ha
                    · -- a known capacity, too small
                      rename_i k
                      split at ha
                      · cases ha
                      · cases ha
                        refine ⟨_, _, _, rfl, ?_⟩
                        have hck := hc k rfl
                        rw [hm]
                        exact append_new hr h0 h1 hst hxt hs hb hz hfit'.1 hfit'.2 (uniform_len hux) (uniform_len huy) rfl rfl (by omega) hcx hcy hfx hfy
                    · -- the block is spent
                      split at ha
                      · rename_i hte
                        subst hte
                        cases ha
                        refine ⟨_, _, _, rfl, ?_⟩
                        rw [hm]
                        by_cases hroom : xs.length + ys.length ≤ cap
                        · obtain ⟨w', k1, k2, k3, k4⟩ := store hroom
                          have hae := haa (by omega)
                          have hl := hcy.length
                          rw [flatten_len (uniform_len huy)] at hl
                          have hlx := hcx.length
                          rw [flatten_len (uniform_len hux)] at hlx
                          obtain ⟨k5, k6⟩ := hr.move (ho := k2.2) hblk hL k2.1 k3 (.rows t (xs ++ ys)) ⟨L.B, L.base + s * L.size, L.size, xs.length + ys.length, cap⟩ rfl (by
                            have huxy : ∀ row ∈ xs ++ ys, row.length = L.size := fun row hrow => by
                              rw [hLs]
                              rcases List.mem_append.1 hrow with h | h
                              · exact uniform_len hux row h
                              · exact uniform_len huy row h
                            have htot : L.base + s * L.size + cap * L.size ≤ cs.size := by
                              have : (s + cap) * L.size ≤ L.tot * L.size := Nat.mul_le_mul_right _ (by omega)
                              rw [Nat.add_mul] at this
                              omega
                            have hroom' : (xs.length + ys.length) * L.size ≤ cap * L.size := Nat.mul_le_mul_right _ hroom
                            rw [Nat.add_mul] at hroom'
                            refine BR.of_flat (cs := _) k4 q2 (by simp) (by simpa using hroom) ?_ huxy ?_
                            · simp only [List.size_toArray, List.length_append, List.length_take, List.length_drop, Array.length_toList]
                              rw [Nat.add_mul, hLs] at *
                              omega
                            · refine VRL.mono (fun _ _ h => h) (pset_mono _ (hr.fresh n (Nat.le_refl n))) ?_
                              simp only [List.toList_toArray, List.length_append]
                              rw [show L.base + (s + m) * L.size = L.base + s * L.size + m * L.size from by rw [Nat.add_mul]; omega]
                              rw [over_window cs.toList cy (L.base + s * L.size) (m * L.size) ((xs.length + ys.length) * L.size) (by rw [Nat.add_mul]; simp; omega) (by rw [Nat.add_mul, hm, ← hl, hLs]; omega)]
                              have hz0 : ((cs.toList.drop (L.base + s * L.size)).take ((xs.length + ys.length) * L.size)).drop (m * L.size + cy.length) = [] :=
                                List.drop_of_length_le (by rw [List.length_take, Nat.add_mul, hm, ← hl, hLs]; omega)
                              rw [List.flatten_append, hz0, List.append_nil, List.take_take, hm, Nat.add_mul, Nat.min_eq_left (by omega)]
                              refine VRL.append ?_ hcy
                              have := (q6.drop (s * L.size)).take (m * L.size)
                              have hsub : rs.flatten.drop (s * L.size) = (rs.drop s).flatten := by
                                have e1 : rs.flatten = (rs.take s).flatten ++ (rs.drop s).flatten := by rw [← List.flatten_append, List.take_append_drop]
                                have e2 : (rs.take s).flatten.length = s * L.size := by rw [flatten_len (s := L.size) (fun row hrow => q5 row (List.mem_of_mem_take hrow)), List.length_take, Nat.min_eq_left (by omega)]
                                rw [e1, List.drop_append, e2, Nat.sub_self, List.drop_zero, List.drop_of_length_le (by omega), List.nil_append]
                              have hsub2 : (rs.drop s).flatten.take (m * L.size) = xs.flatten := by
                                have e1 : (rs.drop s).flatten = xs.flatten ++ ((rs.drop s).drop m).flatten := by rw [hxseq, ← List.flatten_append, List.take_append_drop]
                                have e2 : xs.flatten.length = m * L.size := by rw [flatten_len (uniform_len hux), hm, hLs]
                                rw [e1, List.take_append_of_le_length (by omega), List.take_of_length_le (by omega)]
                              rw [hsub, hsub2, List.drop_take, List.drop_drop, List.take_take, Nat.min_eq_left (by
                                have : (s + m) * L.size ≤ rs.length * L.size := Nat.mul_le_mul_right _ hsm
                                rw [Nat.add_mul] at this
                                omega)] at this
                              rw [← hm]
                              exact this)
                          refine ⟨_, w', _, k1, k5, k6, ?_⟩
                          exact .sl (L := ⟨L.B, L.base + s * L.size, L.size, xs.length + ys.length, cap⟩) (by simp [pset]) hroom (fun k hk => by cases hk) (fun _ => by simpa using hroom) (by simp) (fun _ => by simpa using hae)
                        · obtain ⟨u, w', φ', k1, k2, k3, k4⟩ := append_new (hr.kill b) h0 h1 hst hxt hs hb hz hfit'.1 hfit'.2 (uniform_len hux) (uniform_len huy) rfl rfl (by omega) hcx hcy hfx hfy
                          refine ⟨u, w', φ', k1, k2, k3.more fun b' x' hb' => ?_, k4⟩
                          by_cases hbb : b' = b
                          · simp [hset, hbb] at hb'
                          · simp [hset, hbb] at hb'; exact ⟨x', hb'⟩
                      · cases ha
              · cases ha
            · cases ha
    · cases ha
end

end Go.Ab

/- One operation, sixth part: rows stored, make, clear, slices of slices. -/
namespace Go.Ab
open Go

section
variable {P : Program} {F : Terr} {φ : Phi} {n : Nat} {h : Nat → Option ABlk} {w : World}

/-- New rows in a block. -/
theorem BR.put {L : Loc} {t : TypeId} {rs ys : List (List AV)} {k : Nat} {cy : List Value} (hb : BR P F φ w L (.rows t rs)) (hk : k + ys.length ≤ rs.length) (hy : ∀ row ∈ ys, row.length = L.size)
    (hcy : VRL F φ ys.flatten cy) (h1 : ys.flatten.all AV.one = true) :
    ∃ w', (storeCells ⟨L.B, L.base + k * L.size, none⟩ cy).run P w = .ok () w' ∧ (w'.heap.size = w.heap.size ∧ Out w w') ∧ (∀ B, B ≠ L.B → w'.heap[B]? = w.heap[B]?) ∧
      BR P F φ w' L (.rows t (rs.take k ++ ys ++ rs.drop (k + ys.length))) := by
  obtain ⟨cs, q1, q2, q3, q3', q4, q5, q6⟩ := hb.flat
  have hl := hcy.length
  rw [flatten_len hy] at hl
  have hle : k * L.size + cy.length ≤ rs.length * L.size := by
    have : (k + ys.length) * L.size ≤ rs.length * L.size := Nat.mul_le_mul_right _ hk
    rw [Nat.add_mul] at this
    omega
  have hle2 : rs.length * L.size ≤ L.tot * L.size := Nat.mul_le_mul_right _ (by omega)
  have hst := run_storeCells_at (P := P) L.B (L.base + k * L.size) t cy 0 cs w q1 (by omega) (hcy.one h1)
  simp only [Nat.add_zero] at hst
  have hlen' : (rs.take k ++ ys ++ rs.drop (k + ys.length)).length = rs.length := by simp; omega
  refine ⟨_, hst, ⟨setRow_size _ _ _, rfl, rfl, rfl⟩, fun B hB => setRow_other _ _ _ _ hB, .of_flat (setRow_heap _ _ _ _ _ _ q1) q2 (by rw [hlen']; exact q3) q3' ?_ ?_ ?_⟩
  · simp only [List.size_toArray, List.length_append, List.length_take, List.length_drop, Array.length_toList]
    omega
  · intro row hrow
    rcases List.mem_append.1 hrow with h' | h'
    · rcases List.mem_append.1 h' with h'' | h''
      · exact q5 row (List.mem_of_mem_take h'')
      · exact hy row h''
    · exact q5 row (List.mem_of_mem_drop h')
  · rw [hlen', flatten_over (s := L.size) q5 hy hk]
    simp only [List.toList_toArray]
    rw [over_window cs.toList cy L.base (k * L.size) (rs.length * L.size) (by simp; omega) hle]
    exact q6.over hcy _

theorem zero_rows {z : AV} {v : Value} (hz : VR F φ z v) (h1 : z.cells.all AV.one = true) (m : Nat) : VRL F φ (List.replicate m z.cells).flatten (madeCells v.cells (m * v.cells.size)).toList := by
  rw [madeCells_rows]
  exact (hz.cells h1).1.replicate m

theorem replicate_one {z : List AV} (h1 : z.all AV.one = true) (m : Nat) : (List.replicate m z).flatten.all AV.one = true := by
  rw [List.all_eq_true]
  intro x hx
  obtain ⟨row, h2, h3⟩ := List.mem_flatten.1 hx
  rw [(List.mem_replicate.1 h2).2] at h3
  exact List.all_eq_true.1 h1 x h3

theorem makeSlice_soundAt (hr : HR P F φ n h w) (n0 b0 n' : Nat) (hn0 : φ b0 = none) (hm : n0 ≤ n ∧ n0 ≤ b0) (hn1 : n ≤ n') (hn2 : b0 < n') {t e : TypeId} {s bytes : Nat} {z : AV} {l c : Int} (he : elemT P t = some e) (hs : sizeT P e = some s) (hz : zeroT P e = some z) (hb : (P.info? e).map (·.bytes) = some bytes)
    (h0 : 0 ≤ l) (hlc : l ≤ c) (hbytes : bytes * c ≤ 2 ^ 47) (hc : c ≤ 2 ^ 47) (hf : zFine P e s = true) :
    ∃ u w' φ', (Instr.makeSlice t (.int .i64 l) (.int .i64 c)).run P w = .ok u w' ∧ HR P F φ' n' (hset h b0 (some (.rows e (List.replicate c.toNat z.cells)))) w' ∧ Ext F φ n0 h w F φ' n' w' ∧
      VR F φ' (.sl b0 0 l.toNat (some c.toNat)) u ∧ ∀ j, j ≠ b0 → φ' j = φ j := by
  obtain ⟨z', hz', hz1, hz2⟩ := zFine_spec hf
  obtain rfl : z' = z := by rw [hz] at hz'; exact (Option.some.inj hz').symm
  obtain ⟨i, hi, rfl⟩ := sizeT_info hs
  have hib : i.bytes = bytes := by rw [hi] at hb; simpa using hb
  unfold zeroT at hz
  rw [hi] at hz
  simp only [Option.bind_some] at hz
  cases hq : i.zero with
  | none => rw [hq] at hz; simp at hz
  | some zv =>
    rw [hq] at hz
    simp only [Option.map_some, Option.some.injEq] at hz
    subst hz
    have hv := ofConst_VR (F := F) (φ := φ) zv
    have hvs : zv.cells.size = i.size := by have := (hv.cells hz1).1.length; simp at this; omega
    have hrun := run_make (P := P) w t e i zv (elemT_underlying he) hi hq .i64 .i64 l c h0 hlc (by rw [hib]; omega) (by omega)
    have hcells := zero_rows hv hz1 c.toNat
    rw [hvs] at hcells
    obtain ⟨g1, g2⟩ := hr.newRowsAt n0 b0 n' hn0 hm hn1 hn2 (w' := w.alloc (.cells (madeCells zv.cells (c.toNat * i.size)) e)) (t := e) (s := i.size) (rs := List.replicate c.toNat (ofConst zv).cells) (tot := c.toNat) rfl hs
      (fun row hrow => by rw [(List.mem_replicate.1 hrow).2]; exact hz2) (by simp) (by rw [size_madeCells]; exact Nat.le_refl _) (by
        rw [List.take_of_length_le (by simp [size_madeCells])]
        exact hcells)
    refine ⟨_, _, _, hrun, g1, g2, ?_, fun j hj => by simp [pset, hj]⟩
    exact .sl (L := ⟨w.heap.size, 0, i.size, (List.replicate c.toNat (ofConst zv).cells).length, c.toNat⟩) (by simp [pset]) (by omega) (fun k hk => by cases hk; rfl) (fun hk => by cases hk) (by simp) (fun _ => by simp)

theorem makeSlice_sound (hr : HR P F φ n h w) {t e : TypeId} {s bytes : Nat} {z : AV} {l c : Int} (he : elemT P t = some e) (hs : sizeT P e = some s) (hz : zeroT P e = some z) (hb : (P.info? e).map (·.bytes) = some bytes)
    (h0 : 0 ≤ l) (hlc : l ≤ c) (hbytes : bytes * c ≤ 2 ^ 47) (hc : c ≤ 2 ^ 47) (hf : zFine P e s = true) :
    ∃ u w' φ', (Instr.makeSlice t (.int .i64 l) (.int .i64 c)).run P w = .ok u w' ∧ HR P F φ' (n + 1) (hset h n (some (.rows e (List.replicate c.toNat z.cells)))) w' ∧ Ext F φ n h w F φ' (n + 1) w' ∧
      VR F φ' (.sl n 0 l.toNat (some c.toNat)) u :=
  have ⟨u, w', φ', k1, k2, k3, k4, _⟩ := makeSlice_soundAt hr n n (n + 1) (hr.fresh n (Nat.le_refl n)) ⟨Nat.le_refl n, Nat.le_refl n⟩ (Nat.le_succ n) (Nat.lt_succ_self n) he hs hz hb h0 hlc hbytes hc hf
  ⟨u, w', φ', k1, k2, k3, k4⟩

theorem clearA_sound (hr : HR P F φ n h w) {t : TypeId} {ats : Array TypeId} {ty : TypeId} {x : AV} {vx : Value} {nx : ANext} (h0 : ats[0]? = some t) (hx : VR F φ x vx) (hc : clearA P h n t x = some nx) :
    ∃ v ups n', nx = .val v ups n' ∧ ∃ u w', (Builtin.clear_ ats ty #[vx]).run P w = .ok u w' ∧ HR P F φ n' (hups h ups) w' ∧ Ext F φ n h w F φ n' w' ∧ VR F φ v u := by
  unfold clearA at hc
  have htup : VR F φ (.tup []) (.tuple #[]) := .tup rfl fun i x v hi => by simp at hi
  split at hc
  · rename_i e he
    cases hc
    refine ⟨_, _, _, rfl, .tuple #[], w, ?_, hr, Ext.refl .., htup⟩
    cases hx with
    | @roe a cap tight ht => cases a <;> simp [Builtin.clear_, h0, r_underlying (elemT_underlying he)]
    | ro g hn hF hs hcap ht hsz hcc hv =>
      simp at hn
      subst hn
      simp [Builtin.clear_, h0, r_underlying (elemT_underlying he)]
  · rename_i e b s m c he
    split at hc
    · rename_i hm
      cases hc
      subst hm
      refine ⟨_, _, _, rfl, .tuple #[], w, ?_, hr, Ext.refl .., htup⟩
      cases hx with
      | sl h hn hcc hrm ht ha => simp [Builtin.clear_, h0, r_underlying (elemT_underlying he)]
    · rename_i hm
      split at hc
      · rename_i t' rs size z hb hs hz
        split at hc
        · rename_i hcond
          obtain ⟨c1, c2, c3⟩ := hcond
          cases hc
          obtain ⟨z', hz', hz1, hz2⟩ := zFine_spec c3
          obtain rfl : z' = z := by rw [hz] at hz'; exact (Option.some.inj hz').symm
          obtain ⟨L, g1, g2, g3⟩ := hr.blk b _ hb
          have hLs : L.size = size := by
            obtain ⟨cs, _, q2, _⟩ := g3.flat
            rw [c2] at q2
            exact (Option.some.inj q2).symm
          obtain ⟨zv, k1, k2⟩ := r_zeroValue (w := w) (F := F) (φ := φ) hz
          have hcells := zero_rows k2 hz1 m
          cases hx with
          | @sl _ _ _ cap _ L' a hL' hn hcc hrm htt haa =>
            rw [g1] at hL'
            cases hL'
            have hae := haa (by omega)
            subst hae
            obtain ⟨w', p1, p2, p3, p4⟩ := g3.put (k := s) (ys := List.replicate m z'.cells) (by simpa using c1) (fun row hrow => by rw [(List.mem_replicate.1 hrow).2, hLs]; exact hz2) hcells (replicate_one hz1 m)
            obtain ⟨p5, p6⟩ := hr.turn hb g1 p2.1 p3 _ p4 p2.2
            simp only [List.length_replicate] at p5
            refine ⟨_, _, _, rfl, .tuple #[], w', ?_, p5, p6, htup⟩
            obtain ⟨m', rfl⟩ : ∃ m', m = m' + 1 := ⟨m - 1, by omega⟩
            simp only [Builtin.clear_, h0, List.getElem?_toArray, List.getElem?_cons_zero, Sem.run_bind, r_underlying (elemT_underlying he), Result.andThen_ok, k1]
            unfold madeCells at p1
            unfold Builtin.zeroCells
            rw [p1]
            rfl
        · cases hc
      · cases hc
  · cases hc
end

end Go.Ab
