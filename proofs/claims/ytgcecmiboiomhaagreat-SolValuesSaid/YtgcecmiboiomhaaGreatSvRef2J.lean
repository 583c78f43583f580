/- What the document's functions on expressions answer: formed ones, and values. -/
import Derived.Test.YtgcecmiboiomhaaGreatSvRef
namespace Go.Ab
open Go

theorem len2 {α : Type} {l : List α} (h : l.length = 2) : ∃ a b, l = [a, b] := by
  match l, h with
  | [a, b], _ => exact ⟨a, b, rfl⟩

theorem c96 (e : Ex) (size : Int) : ClosedCall SP 96 [.agg e.row, .int .i64 size] (.ret (.bool (e.formed size))) := by
  induction e using Ex.ind with
  | h op nn kids tt ih =>
    refine ClosedCall.of_tree (asks := noAsk) fit (by kernel_rfl) (by kernel_rfl) (Clo.bool _) ?_
    have hlen := rowsE_length kids
    refine T.on_br (op == 1) (by kernel_rfl) (by kernel_rfl) (fun h1 => ?_) (fun h1 => ?_)
    · simp only [beq_iff_eq] at h1
      refine T.on_br (((rowsE kids).length : Int) == 0) (by kernel_rfl) (by kernel_rfl) (fun h2 => ?_) (fun h2 => ?_)
      · refine T.on_br (decide (nn ≥ -1000000000)) (by kernel_rfl) (by kernel_rfl) (fun h3 => ?_) (fun h3 => ?_)
        · refine T.at_end (.ret (.bool (decide (nn ≤ 1000000000)))) (by kernel_rfl) (by kernel_rfl) ?_
          simp [hlen] at h2 h3
          simp [Ex.formed, h1, h2, h3]
        · refine T.at_end (.ret (.bool false)) (by kernel_rfl) (by kernel_rfl) ?_
          simp at h3
          simp [Ex.formed, h1]
          intro _ _; omega
      · refine T.at_end (.ret (.bool false)) (by kernel_rfl) (by kernel_rfl) ?_
        simp [hlen] at h2
        simp [Ex.formed, h1, h2]
    · simp only [beq_eq_false_iff_ne, ne_eq] at h1
      refine T.on_br (op == 2) (by kernel_rfl) (by kernel_rfl) (fun h4 => ?_) (fun h4 => ?_)
      · simp only [beq_iff_eq] at h4
        refine T.on_br (((rowsE kids).length : Int) == 0) (by kernel_rfl) (by kernel_rfl) (fun h2 => ?_) (fun h2 => ?_)
        · refine T.on_br (decide (nn ≥ 0)) (by kernel_rfl) (by kernel_rfl) (fun h3 => ?_) (fun h3 => ?_)
          · refine T.at_end (.ret (.bool (decide (nn < size)))) (by kernel_rfl) (by kernel_rfl) ?_
            simp [hlen] at h2 h3
            simp [Ex.formed, h4, h2, h3]
          · refine T.at_end (.ret (.bool false)) (by kernel_rfl) (by kernel_rfl) ?_
            simp at h3
            simp [Ex.formed, h4]
            intro _ _; omega
        · refine T.at_end (.ret (.bool false)) (by kernel_rfl) (by kernel_rfl) ?_
          simp [hlen] at h2
          simp [Ex.formed, h4, h2]
      · simp only [beq_eq_false_iff_ne, ne_eq] at h4
        refine T.on_br (decide (op < 3)) (by kernel_rfl) (by kernel_rfl) (fun h2 => ?_) (fun h2 => ?_)
        · refine T.at_end (.ret (.bool false)) (by kernel_rfl) (by kernel_rfl) ?_
          simp at h2
          simp [Ex.formed, h1, h4]
          omega
        simp at h2
        refine T.on_br (decide (op > 7)) (by kernel_rfl) (by kernel_rfl) (fun h3 => ?_) (fun h3 => ?_)
        · refine T.at_end (.ret (.bool false)) (by kernel_rfl) (by kernel_rfl) ?_
          simp at h3
          simp [Ex.formed, h1, h4]
          omega
        simp at h3
        refine T.on_br (((rowsE kids).length : Int) != 2) (by kernel_rfl) (by kernel_rfl) (fun h5 => ?_) (fun h5 => ?_)
        · refine T.at_end (.ret (.bool false)) (by kernel_rfl) (by kernel_rfl) ?_
          simp [hlen] at h5
          have : ¬ kids.length = 2 := by omega
          simp [Ex.formed, h1, h4, this]
        have h5' : kids.length = 2 := by simp [hlen] at h5; omega
        obtain ⟨a, b, rfl⟩ := len2 h5'
        refine T.on_br (nn != 0) (by kernel_rfl) (by kernel_rfl) (fun h6 => ?_) (fun h6 => ?_)
        · refine T.at_end (.ret (.bool false)) (by kernel_rfl) (by kernel_rfl) ?_
          simp at h6
          simp [Ex.formed, h1, h4, h6]
        simp at h6
        have hform : (Ex.mk op nn [a, b] tt).formed size = (a.formed size && b.formed size) := by
          simp [Ex.formed, formedL, h1, h4, h6, h2, h3]
        rw [hform]
        obtain ⟨oa, na, ka, ta⟩ := a
        obtain ⟨ob, nb, kb, tb⟩ := b
        refine T.on_idx (rows := [(Ex.mk oa na ka ta).row, (Ex.mk ob nb kb tb).row]) (i := 0) (by kernel_rfl) (by kernel_rfl) (by kernel_rfl) (Ex.mk oa na ka ta).row (by omega) rfl (by kernel_rfl) ?_
        refine T.at_closed (f := 96) (args := [.agg (Ex.mk oa na ka ta).row, .int .i64 size]) (by kernel_rfl) (.ret (.bool ((Ex.mk oa na ka ta).formed size))) (by kernel_rfl) (by kernel_rfl)
          (ih _ (by simp)) (Clo.args2 (Clo.agg (Ex.clo _)) (Clo.int _ _)) (Clo.bool _) ?_
        refine T.on_br ((Ex.mk oa na ka ta).formed size) (by kernel_rfl) (by kernel_rfl) (fun h7 => ?_) (fun h7 => ?_)
        · refine T.on_idx (rows := [(Ex.mk oa na ka ta).row, (Ex.mk ob nb kb tb).row]) (i := 1) (by kernel_rfl) (by kernel_rfl) (by kernel_rfl) (Ex.mk ob nb kb tb).row (by omega) rfl (by kernel_rfl) ?_
          refine T.at_closed (f := 96) (args := [.agg (Ex.mk ob nb kb tb).row, .int .i64 size]) (by kernel_rfl) (.ret (.bool ((Ex.mk ob nb kb tb).formed size))) (by kernel_rfl) (by kernel_rfl)
            (ih _ (by simp)) (Clo.args2 (Clo.agg (Ex.clo _)) (Clo.int _ _)) (Clo.bool _) ?_
          exact T.at_end (.ret (.bool ((Ex.mk ob nb kb tb).formed size))) (by kernel_rfl) (by kernel_rfl) (by rw [h7]; rfl)
        · exact T.at_end (.ret (.bool false)) (by kernel_rfl) (by kernel_rfl) (by rw [h7]; rfl)

def Ex.ok (e : Ex) (size : Int) : Bool := decide (e.nodes 60 ≤ 60) && decide (e.depth ≤ 12) && e.formed size

theorem c56 (e : Ex) (size : Int) : ClosedCall SP 56 [.agg e.row, .int .i64 size] (.ret (.bool (e.ok size))) := by
  obtain ⟨op, nn, kids, tt⟩ := e
  refine ClosedCall.of_tree (asks := noAsk) fit (by kernel_rfl) (by kernel_rfl) (Clo.bool _) ?_
  refine T.at_closed (f := 94) (args := [.agg (Ex.mk op nn kids tt).row, .int .i64 60]) (by kernel_rfl) (.ret (.int .i64 ((Ex.mk op nn kids tt).nodes 60))) (by kernel_rfl) (by kernel_rfl)
    (c94 _ 60 (by omega) (by omega)) (Clo.args2 (Clo.agg (Ex.clo _)) (Clo.int _ _)) (Clo.int _ _) ?_
  refine T.on_br (decide ((Ex.mk op nn kids tt).nodes 60 ≤ 60)) (by kernel_rfl) (by kernel_rfl) (fun h1 => ?_) (fun h1 => ?_)
  · refine T.at_closed (f := 95) (args := [.agg (Ex.mk op nn kids tt).row]) (by kernel_rfl) (.ret (.int .i64 (Ex.mk op nn kids tt).depth)) (by kernel_rfl) (by kernel_rfl)
      (c95 _ ((Ex.nodes_le _ _).1 (of_decide_eq_true h1))) (Clo.args1 (Clo.agg (Ex.clo _))) (Clo.int _ _) ?_
    refine T.on_br (decide ((Ex.mk op nn kids tt).depth ≤ 12)) (by kernel_rfl) (by kernel_rfl) (fun h2 => ?_) (fun h2 => ?_)
    · refine T.at_closed (f := 96) (args := [.agg (Ex.mk op nn kids tt).row, .int .i64 size]) (by kernel_rfl) (.ret (.bool ((Ex.mk op nn kids tt).formed size))) (by kernel_rfl) (by kernel_rfl)
        (c96 _ _) (Clo.args2 (Clo.agg (Ex.clo _)) (Clo.int _ _)) (Clo.bool _) ?_
      exact T.at_end (.ret (.bool ((Ex.mk op nn kids tt).formed size))) (by kernel_rfl) (by kernel_rfl) (by simp only [Ex.ok, h1, h2]; rfl)
    · exact T.at_end (.ret (.bool false)) (by kernel_rfl) (by kernel_rfl) (by simp only [Ex.ok, h2]; simp)
  · exact T.at_end (.ret (.bool false)) (by kernel_rfl) (by kernel_rfl) (by simp only [Ex.ok, h1]; simp)
end Go.Ab

/- What the document's functions on expressions answer: values. -/
namespace Go.Ab
open Go

def rowsV (l : List Vl) : List (List AV) := l.map Vl.row

theorem rowsV_clo (l : List Vl) (t : Bool) : Clo (.ro (rowsV l) t) := Clo.ro fun r hr x hx => by
  unfold rowsV at hr
  rw [List.mem_map] at hr
  obtain ⟨v, _, rfl⟩ := hr
  exact v.clo x hx

theorem Vl.agg_clo (v : Vl) : Clo (.agg v.row) := Clo.agg v.clo
theorem Ex.agg_clo (e : Ex) : Clo (.agg e.row) := Clo.agg e.clo

theorem arith_wrap {op a b : Int} (ha : -1000000000 ≤ a ∧ a ≤ 1000000000) (hb : -1000000000 ≤ b ∧ b ≤ 1000000000) :
    IntKind.i64.wrap (a + b) = a + b ∧ IntKind.i64.wrap (a - b) = a - b ∧ IntKind.i64.wrap (a * b) = a * b := by
  refine ⟨wrap_id (by omega) (by omega), wrap_id (by omega) (by omega), wrap_id ?_ ?_⟩
  · have h1 : -(1000000000 * 1000000000) ≤ a * b := by
      rcases Int.le_total 0 a with h | h <;> rcases Int.le_total 0 b with h' | h'
      · have := Int.mul_nonneg h h'; omega
      · have := Int.mul_le_mul_of_nonneg_left hb.1 h
        have := Int.mul_le_mul_of_nonneg_right ha.2 (show (0 : Int) ≤ 1000000000 by omega)
        omega
      · have := Int.mul_le_mul_of_nonneg_right ha.1 h'
        have := Int.mul_le_mul_of_nonneg_left hb.2 (show (0 : Int) ≤ 1000000000 by omega)
        omega
      · have := Int.mul_nonneg_of_nonpos_of_nonpos h h'; omega
    omega
  · have h1 : a * b ≤ 1000000000 * 1000000000 := by
      rcases Int.le_total 0 a with h | h <;> rcases Int.le_total 0 b with h' | h'
      · have := Int.mul_le_mul_of_nonneg_left hb.2 h
        have := Int.mul_le_mul_of_nonneg_right ha.2 (show (0 : Int) ≤ 1000000000 by omega)
        omega
      · have := Int.mul_nonpos_of_nonneg_of_nonpos h h'; omega
      · have := Int.mul_nonpos_of_nonpos_of_nonneg h h'; omega
      · have h2 := Int.mul_le_mul (show -a ≤ 1000000000 by omega) (show -b ≤ 1000000000 by omega) (show 0 ≤ -b by omega) (by omega)
        rw [Int.neg_mul_neg] at h2
        omega
    omega

theorem c58 (e : Ex) (env : List Vl) (te : Bool) (hf : e.formed env.length = true) (he : ∀ v ∈ env, v.fine = true) : ClosedCall SP 58 [.agg e.row, .ro (rowsV env) te] (.ret (.agg (e.value env).row)) := by
  induction e using Ex.ind with
  | h op nn kids tt ih =>
    refine ClosedCall.of_tree (asks := noAsk) fit (by kernel_rfl) (by kernel_rfl) (Vl.agg_clo _) ?_
    have hf' := hf
    unfold Ex.formed at hf'
    refine T.on_br (op == 1) (by kernel_rfl) (by kernel_rfl) (fun h1 => ?_) (fun h1 => ?_)
    · simp only [beq_iff_eq] at h1
      refine T.at_end (.ret (.agg (Vl.mk 1 nn).row)) (by kernel_rfl) (by kernel_rfl) ?_
      simp [Ex.value, h1]
    simp only [beq_eq_false_iff_ne, ne_eq] at h1
    rw [if_neg h1] at hf'
    refine T.on_br (op == 2) (by kernel_rfl) (by kernel_rfl) (fun h2 => ?_) (fun h2 => ?_)
    · simp only [beq_iff_eq] at h2
      rw [if_pos h2] at hf'
      simp only [Bool.and_eq_true, decide_eq_true_eq] at hf'
      have hlt : nn.toNat < env.length := by omega
      refine T.on_idx (rows := rowsV env) (i := nn) (by kernel_rfl) (by kernel_rfl) (by kernel_rfl) (env.getD nn.toNat ⟨0, 0⟩).row (by omega) (by unfold rowsV; rw [List.getElem?_map, List.getElem?_eq_getElem hlt, List.getD_eq_getElem?_getD, List.getElem?_eq_getElem hlt]; rfl) (by kernel_rfl) ?_
      refine T.at_end (.ret (.agg (env.getD nn.toNat ⟨0, 0⟩).row)) (by kernel_rfl) (by kernel_rfl) ?_
      simp [Ex.value, h2]
    simp only [beq_eq_false_iff_ne, ne_eq] at h2
    rw [if_neg h2] at hf'
    simp only [Bool.and_eq_true, decide_eq_true_eq] at hf'
    obtain ⟨⟨⟨⟨h3, h4⟩, h5⟩, h6⟩, h7⟩ := hf'
    obtain ⟨a, b, rfl⟩ := len2 h5
    simp only [formedL, Bool.and_eq_true] at h7
    have va := value_num h7.1 he
    have vb := value_num h7.2.1 he
    have iha := ih a (by simp) h7.1
    have ihb := ih b (by simp) h7.2.1
    have hval : (Ex.mk op nn [a, b] tt).value env = ⟨1, clampI (arith op (a.value env).num (b.value env).num)⟩ := by
      simp [Ex.value, h1, h2, valuesL]
    rw [hval]
    generalize ha : a.value env = xa at *
    generalize hb : b.value env = xb at *
    obtain ⟨oa, na, ka, ta⟩ := a
    obtain ⟨ob, nb, kb, tb⟩ := b
    refine T.on_idx (rows := [(Ex.mk oa na ka ta).row, (Ex.mk ob nb kb tb).row]) (i := 0) (by kernel_rfl) (by kernel_rfl) (by kernel_rfl) (Ex.mk oa na ka ta).row (by omega) rfl (by kernel_rfl) ?_
    refine T.at_pcall (f := 58) (args := [.agg (Ex.mk oa na ka ta).row, .ro (rowsV env) te]) (by kernel_rfl) (.agg xa.row) (by kernel_rfl) (by kernel_rfl) iha (Clo.args2 (Ex.agg_clo _) (rowsV_clo _ _)) (Vl.agg_clo _) ?_
    refine T.at_pcall (f := 97) (args := [.agg xa.row]) (by kernel_rfl) (.int .i64 xa.num) (by kernel_rfl) (by kernel_rfl) (c97 xa) (Clo.args1 (Vl.agg_clo _)) (Clo.int _ _) ?_
    refine T.on_idx (rows := [(Ex.mk oa na ka ta).row, (Ex.mk ob nb kb tb).row]) (i := 1) (by kernel_rfl) (by kernel_rfl) (by kernel_rfl) (Ex.mk ob nb kb tb).row (by omega) rfl (by kernel_rfl) ?_
    refine T.at_pcall (f := 58) (args := [.agg (Ex.mk ob nb kb tb).row, .ro (rowsV env) te]) (by kernel_rfl) (.agg xb.row) (by kernel_rfl) (by kernel_rfl) ihb (Clo.args2 (Ex.agg_clo _) (rowsV_clo _ _)) (Vl.agg_clo _) ?_
    refine T.at_pcall (f := 97) (args := [.agg xb.row]) (by kernel_rfl) (.int .i64 xb.num) (by kernel_rfl) (by kernel_rfl) (c97 xb) (Clo.args1 (Vl.agg_clo _)) (Clo.int _ _) ?_
    obtain ⟨w1, w2, w3⟩ := arith_wrap (op := op) va vb
    have fin : ∀ (t : T) (x : Int), t.tag = 5 → t.fid = 57 → t.args = [.int .i64 x] → (t.aft (.ret (.int .i64 (clampI x))) t.hp).tag = 0 →
        (endA SP (theFn SP 58) (t.aft (.ret (.int .i64 (clampI x))) t.hp).exit (t.aft (.ret (.int .i64 (clampI x))) t.hp).st).map Prod.fst = some (.ret (.agg (Vl.mk 1 (clampI x)).row)) →
        x = arith op xa.num xb.num → t.Fine SP 0 false (EndIs SP (theFn SP 58) (.ret (.agg (Vl.mk 1 (clampI (arith op xa.num xb.num))).row))) := by
      intro t x g1 g2 g3 g4 g5 g6
      refine T.at_closed (f := 57) (args := [.int .i64 x]) g1 (.ret (.int .i64 (clampI x))) g2 g3 (c57 x) (Clo.args1 (Clo.int _ _)) (Clo.int _ _) ?_
      exact T.at_end _ g4 g5 (by rw [g6])
    refine T.on_br (op == 3) (by kernel_rfl) (by kernel_rfl) (fun g => ?_) (fun g => ?_)
    · simp only [beq_iff_eq] at g
      exact fin _ (xa.num + xb.num) (by kernel_rfl) (by kernel_rfl) (by rw [← w1]; kernel_rfl) (by kernel_rfl) (by kernel_rfl) (by simp [arith, g])
    simp only [beq_eq_false_iff_ne, ne_eq] at g
    refine T.on_br (op == 4) (by kernel_rfl) (by kernel_rfl) (fun g4 => ?_) (fun g4 => ?_)
    · simp only [beq_iff_eq] at g4
      exact fin _ (xa.num - xb.num) (by kernel_rfl) (by kernel_rfl) (by rw [← w2]; kernel_rfl) (by kernel_rfl) (by kernel_rfl) (by simp [arith, g4])
    simp only [beq_eq_false_iff_ne, ne_eq] at g4
    refine T.on_br (op == 5) (by kernel_rfl) (by kernel_rfl) (fun g5 => ?_) (fun g5 => ?_)
    · simp only [beq_iff_eq] at g5
      exact fin _ (xa.num * xb.num) (by kernel_rfl) (by kernel_rfl) (by rw [← w3]; kernel_rfl) (by kernel_rfl) (by kernel_rfl) (by simp [arith, g5])
    simp only [beq_eq_false_iff_ne, ne_eq] at g5
    refine T.on_br (op == 6) (by kernel_rfl) (by kernel_rfl) (fun g6 => ?_) (fun g6 => ?_)
    · simp only [beq_iff_eq] at g6
      refine T.on_br (decide (xa.num < xb.num)) (by kernel_rfl) (by kernel_rfl) (fun q => ?_) (fun q => ?_)
      · exact fin _ 1 (by kernel_rfl) (by kernel_rfl) (by kernel_rfl) (by kernel_rfl) (by kernel_rfl) (by simp at q; simp [arith, g6, q])
      · exact fin _ 0 (by kernel_rfl) (by kernel_rfl) (by kernel_rfl) (by kernel_rfl) (by kernel_rfl) (by simp at q; simp [arith, g6]; omega)
    simp only [beq_eq_false_iff_ne, ne_eq] at g6
    refine T.on_br (op == 7) (by kernel_rfl) (by kernel_rfl) (fun g7 => ?_) (fun g7 => ?_)
    · simp only [beq_iff_eq] at g7
      refine T.on_br (xa.num == xb.num) (by kernel_rfl) (by kernel_rfl) (fun q => ?_) (fun q => ?_)
      · exact fin _ 1 (by kernel_rfl) (by kernel_rfl) (by kernel_rfl) (by kernel_rfl) (by kernel_rfl) (by simp at q; simp [arith, g7, q])
      · exact fin _ 0 (by kernel_rfl) (by kernel_rfl) (by kernel_rfl) (by kernel_rfl) (by kernel_rfl) (by simp at q; simp [arith, g7, q])
    simp only [beq_eq_false_iff_ne, ne_eq] at g7
    omega
end Go.Ab

/- What the document's Value answers. -/
namespace Go.Ab
open Go

def valueR (e : Ex) (env : List Vl) : Vl × Int := if e.ok env.length && env.all Vl.fine then (e.value env, 0) else (⟨0, 0⟩, 2)
def resV (r : Vl × Int) : AV := .tup [.agg r.1.row, .int .i64 r.2]

theorem resV_clo (r : Vl × Int) : Clo (resV r) := Clo.tup (Clo.args2 (Vl.agg_clo _) (Clo.int _ _))

theorem getElem_midV (pre : List Vl) (x : Vl) (suf : List Vl) : (rowsV (pre ++ x :: suf))[((pre.length : Nat) : Int).toNat]? = some x.row := getElem_mid _ _ _ _

theorem c28 (e : Ex) (env : List Vl) (te : Bool) (hlen : env.length ≤ 60) : ClosedCall SP 28 [.agg e.row, .ro (rowsV env) te] (.ret (resV (valueR e env))) := by
  obtain ⟨op, nn, kids, tt⟩ := e
  refine ClosedCall.of_tree (asks := noAsk) fit (by kernel_rfl) (by kernel_rfl) (resV_clo _) ?_
  have hl' : (rowsV env).length = env.length := by simp [rowsV]
  refine T.at_closed (f := 56) (args := [.agg (Ex.mk op nn kids tt).row, .int .i64 env.length]) (by kernel_rfl) (.ret (.bool ((Ex.mk op nn kids tt).ok env.length))) (by kernel_rfl) (by rw [← hl']; kernel_rfl)
    (c56 _ _) (Clo.args2 (Ex.agg_clo _) (Clo.int _ _)) (Clo.bool _) ?_
  refine T.on_br (!(Ex.mk op nn kids tt).ok env.length) (by kernel_rfl) (by kernel_rfl) (fun h => ?_) (fun h => ?_)
  · refine T.at_end (.ret (resV (⟨0, 0⟩, 2))) (by kernel_rfl) (by kernel_rfl) ?_
    simp at h
    simp [valueR, h]
  have hok : (Ex.mk op nn kids tt).ok env.length = true := by simpa using h
  refine T.at_loop (by kernel_rfl) ?_
  let l : Int → List (Nat × AV) := fun i => [(0, .agg (Ex.mk op nn kids tt).row), (1, .ro (rowsV env) te), (2, .ptr 0 0 0), (4, .ptr 1 0 0), (6, .int .i64 i)]
  let hl : List (Nat × ABlk) := [(0, .rows 64 [(Ex.mk op nn kids tt).row]), (1, .rows 68 [(Vl.mk 0 0).row])]
  have anew : ∀ (s : ES) (i : Int) (R : AExit → ASt → Prop) (c : Code), decide (0 ≤ 2 ∧ 2 ≤ s.hp.n) = true → s.nt = 59 → s.d = [] → s.u = none → s.t 0 = .agg (Ex.mk op nn kids tt).row → s.t 1 = .ro (rowsV env) te → s.t 2 = .ptr 0 0 0 → s.t 4 = .ptr 1 0 0 → s.t 6 = .int .i64 i →
      s.hp.tr.get 0 = some (.rows 64 [(Ex.mk op nn kids tt).row]) → s.hp.tr.get 1 = some (.rows 68 [(Vl.mk 0 0).row]) → LoopW SP 0 false c (mkES (l i) hl 2 59 []).den R → LoopW SP 0 false c s.den R := fun s i R c h1 h2 h3 h4 g0 g1 g2 g5 g6 b0 b1 h =>
    ItemsW.tell h1 h2 h3 lowD_nil h4 (.cons (by decide) g0 ((Ex.agg_clo _).low 2) (.cons (by decide) g1 ((rowsV_clo _ _).low 2) (.cons (by decide) g2 (.ptr (by decide)) (.cons (by decide) g5 (.ptr (by decide)) (.cons (by decide) g6 ((Clo.int _ _).low 2) .nil)))))
      (.cons (by decide) b0 (LowB.row1 (Ex.clo _)) (.cons (by decide) b1 (LowB.row1 (Vl.clo _)) .nil)) h
  have key : ∀ (suf pre : List Vl), env = pre ++ suf → (∀ v ∈ pre, v.fine = true) →
      LoopW SP 0 false ((tr 28 [.agg (Ex.mk op nn kids tt).row, .ro (rowsV env) te]).aft (.ret (.bool ((Ex.mk op nn kids tt).ok env.length))) (tr 28 [.agg (Ex.mk op nn kids tt).row, .ro (rowsV env) te]).hp).no.code (mkES (l pre.length) hl 2 59 []).den
        (To 28 ((tr 28 [.agg (Ex.mk op nn kids tt).row, .ro (rowsV env) te]).aft (.ret (.bool ((Ex.mk op nn kids tt).ok env.length))) (tr 28 [.agg (Ex.mk op nn kids tt).row, .ro (rowsV env) te]).hp).no (.ret (resV (valueR (Ex.mk op nn kids tt) env)))) := by
    intro suf
    induction suf with
    | nil =>
      intro pre hk hpre
      refine LoopW.tree (asks := noAsk) fit (by kernel_rfl) ?_
      have hle : (rowsV env).length = pre.length := by rw [hl', hk]; simp
      have hall : ∀ v ∈ env, v.fine = true := by rw [hk]; simpa using hpre
      refine T.on_br (decide ((pre.length : Int) < ((rowsV env).length : Int))) (by kernel_rfl) (by kernel_rfl) (fun h => ?_) (fun h => ?_)
      · simp [hle] at h
      · refine T.on_out (.exit 0) (by kernel_rfl) (by kernel_rfl) rfl (by kernel_rfl) ?_
        have hf : (Ex.mk op nn kids tt).formed env.length = true := by
          simp only [Ex.ok, Bool.and_eq_true] at hok; exact hok.2
        refine T.at_closed (f := 58) (args := [.agg (Ex.mk op nn kids tt).row, .ro (rowsV env) te]) (by kernel_rfl) (.ret (.agg ((Ex.mk op nn kids tt).value env).row)) (by kernel_rfl) (by kernel_rfl)
          (c58 _ _ _ hf hall) (Clo.args2 (Ex.agg_clo _) (rowsV_clo _ _)) (Vl.agg_clo _) ?_
        refine T.at_end (.ret (resV ((Ex.mk op nn kids tt).value env, 0))) (by kernel_rfl) (by kernel_rfl) ?_
        have : env.all Vl.fine = true := List.all_eq_true.2 hall
        simp [valueR, hok, this]
    | cons x suf ihs =>
      intro pre hk hpre
      refine LoopW.tree (asks := noAsk) fit (by kernel_rfl) ?_
      have hle : (rowsV env).length = pre.length + (suf.length + 1) := by rw [hl', hk]; simp
      have hle' : env.length = pre.length + (suf.length + 1) := by rw [← hl', hle]
      have hx : (rowsV env)[((pre.length : Nat) : Int).toNat]? = some x.row := by rw [hk]; exact getElem_midV _ _ _
      have bad : x.fine = false → resV (⟨0, 0⟩, 2) = resV (valueR (Ex.mk op nn kids tt) env) := by
        intro hb
        have : env.all Vl.fine = false := by rw [hk]; simp [hb]
        simp [valueR, this]
      have next : x.fine = true → LoopW SP 0 false ((tr 28 [.agg (Ex.mk op nn kids tt).row, .ro (rowsV env) te]).aft (.ret (.bool ((Ex.mk op nn kids tt).ok env.length))) (tr 28 [.agg (Ex.mk op nn kids tt).row, .ro (rowsV env) te]).hp).no.code (mkES (l ((pre ++ [x]).length : Int)) hl 2 59 []).den
          (To 28 ((tr 28 [.agg (Ex.mk op nn kids tt).row, .ro (rowsV env) te]).aft (.ret (.bool ((Ex.mk op nn kids tt).ok env.length))) (tr 28 [.agg (Ex.mk op nn kids tt).row, .ro (rowsV env) te]).hp).no (.ret (resV (valueR (Ex.mk op nn kids tt) env)))) :=
        fun hb => ihs (pre ++ [x]) (by rw [hk]; simp) (by
          intro v hv
          rcases List.mem_append.1 hv with h0 | h0
          · exact hpre v h0
          · rw [List.mem_singleton] at h0; rw [h0]; exact hb)
      have hw3 : IntKind.i64.wrap ((pre.length : Int) + 1) = ((pre ++ [x]).length : Int) := by rw [wrap_id (by omega) (by omega)]; simp
      refine T.on_br (decide ((pre.length : Int) < ((rowsV env).length : Int))) (by kernel_rfl) (by kernel_rfl) (fun h => ?_) (fun h => ?_)
      · refine T.on_idx (rows := rowsV env) (i := pre.length) (by kernel_rfl) (by kernel_rfl) (by kernel_rfl) x.row (by omega) hx (by kernel_rfl) ?_
        refine T.on_br (decide (x.k < 1)) (by kernel_rfl) (by kernel_rfl) (fun q => ?_) (fun q => ?_)
        · refine T.on_out .ret (by kernel_rfl) (by kernel_rfl) rfl (by kernel_rfl) ?_
          exact T.at_end (.ret (resV (⟨0, 0⟩, 2))) (by kernel_rfl) (by kernel_rfl) (congrArg _ (bad (by simp at q; simp [Vl.fine]; omega)))
        simp at q
        refine T.on_idx (rows := rowsV env) (i := pre.length) (by kernel_rfl) (by kernel_rfl) (by kernel_rfl) x.row (by omega) hx (by kernel_rfl) ?_
        refine T.on_br (decide (x.k > 4)) (by kernel_rfl) (by kernel_rfl) (fun q2 => ?_) (fun q2 => ?_)
        · refine T.on_out .ret (by kernel_rfl) (by kernel_rfl) rfl (by kernel_rfl) ?_
          exact T.at_end (.ret (resV (⟨0, 0⟩, 2))) (by kernel_rfl) (by kernel_rfl) (congrArg _ (bad (by simp at q2; simp [Vl.fine]; omega)))
        simp at q2
        refine T.on_idx (rows := rowsV env) (i := pre.length) (by kernel_rfl) (by kernel_rfl) (by kernel_rfl) x.row (by omega) hx (by kernel_rfl) ?_
        refine T.on_br (x.k == 1) (by kernel_rfl) (by kernel_rfl) (fun q3 => ?_) (fun q3 => ?_)
        · simp only [beq_iff_eq] at q3
          refine T.on_idx (rows := rowsV env) (i := pre.length) (by kernel_rfl) (by kernel_rfl) (by kernel_rfl) x.row (by omega) hx (by kernel_rfl) ?_
          refine T.on_idx (rows := rowsV env) (i := pre.length) (by kernel_rfl) (by kernel_rfl) (by kernel_rfl) x.row (by omega) hx (by kernel_rfl) ?_
          refine T.at_pcall (f := 57) (args := [.int .i64 x.n]) (by kernel_rfl) (.int .i64 (clampI x.n)) (by kernel_rfl) (by kernel_rfl) (c57 _) (Clo.args1 (Clo.int _ _)) (Clo.int _ _) ?_
          refine T.on_br (x.n != clampI x.n) (by kernel_rfl) (by kernel_rfl) (fun q4 => ?_) (fun q4 => ?_)
          · refine T.on_out .ret (by kernel_rfl) (by kernel_rfl) rfl (by kernel_rfl) ?_
            refine T.at_end (.ret (resV (⟨0, 0⟩, 2))) (by kernel_rfl) (by kernel_rfl) (congrArg _ (bad ?_))
            simp [clampI_id] at q4
            simp [Vl.fine, q3]
            omega
          · simp only [bne_eq_false_iff_eq, clampI_id] at q4
            refine T.on_next (by kernel_rfl) (by kernel_rfl) ?_
            exact anew _ ((pre ++ [x]).length : Int) _ _ (by kernel_rfl) (by kernel_rfl) (by kernel_rfl) (by kernel_rfl) (by kernel_rfl) (by kernel_rfl) (by kernel_rfl) (by kernel_rfl) (by rw [← hw3]; kernel_rfl) (by kernel_rfl) (by kernel_rfl)
              (next (by simp [Vl.fine]; omega))
        · simp only [beq_eq_false_iff_ne, ne_eq] at q3
          refine T.on_next (by kernel_rfl) (by kernel_rfl) ?_
          exact anew _ ((pre ++ [x]).length : Int) _ _ (by kernel_rfl) (by kernel_rfl) (by kernel_rfl) (by kernel_rfl) (by kernel_rfl) (by kernel_rfl) (by kernel_rfl) (by kernel_rfl) (by rw [← hw3]; kernel_rfl) (by kernel_rfl) (by kernel_rfl)
            (next (by simp [Vl.fine]; omega))
      · simp [hle] at h
        omega
  exact anew _ 0 _ _ (by kernel_rfl) (by kernel_rfl) (by kernel_rfl) (by kernel_rfl) (by kernel_rfl) (by kernel_rfl) (by kernel_rfl) (by kernel_rfl) (by kernel_rfl) (by kernel_rfl) (by kernel_rfl) (key env [] rfl (by simp))
end Go.Ab

/- What the program's functions on expressions answer. -/
namespace Go.Ab
open Go

theorem c98 (v : Vl) : ClosedCall SP 98 [.agg v.row] (.ret (.int .i64 v.num)) := by
  refine ClosedCall.of_tree (asks := noAsk) fit (by kernel_rfl) (by kernel_rfl) (Clo.int _ _) ?_
  refine T.on_br (v.k == 1) (by kernel_rfl) (by kernel_rfl) (fun h => ?_) (fun h => ?_)
  · exact T.at_end (.ret (.int .i64 v.n)) (by kernel_rfl) (by kernel_rfl) (by simp at h; simp [Vl.num, h])
  · exact T.at_end (.ret (.int .i64 0)) (by kernel_rfl) (by kernel_rfl) (by simp at h; simp [Vl.num, h])

theorem c99 (b : Bool) : ClosedCall SP 99 [.bool b] (.ret (.int .i64 (if b then 1 else 0))) := by
  refine ClosedCall.of_tree (asks := noAsk) fit (by kernel_rfl) (by kernel_rfl) (Clo.int _ _) ?_
  refine T.on_br b (by kernel_rfl) (by kernel_rfl) (fun h => ?_) (fun h => ?_)
  · exact T.at_end (.ret (.int .i64 1)) (by kernel_rfl) (by kernel_rfl) (by simp [h])
  · exact T.at_end (.ret (.int .i64 0)) (by kernel_rfl) (by kernel_rfl) (by simp [h])

/-- What is given up with. -/
def flawA : AV := .ifc 128 (.agg [.int .i64 2])

theorem Clo.ifc {t : TypeId} {v : AV} (h : Clo v) : Clo (.ifc t v) := fun _ _ _ _ hv => by
  cases hv with
  | ifc h1 => exact .ifc (h _ _ _ _ h1)

theorem flawA_clo : Clo flawA := Clo.ifc (Clo.agg (Clo.args1 (Clo.int _ _)))
theorem unit_clo : Clo (.tup []) := Clo.tup fun _ h => by cases h

theorem c81 : ClosedCall SP 81 [.int .i64 2] (.pan flawA) := by
  refine ClosedCall.of_tree (asks := noAsk) fit (by kernel_rfl) (by kernel_rfl) flawA_clo ?_
  exact T.at_end (.pan flawA) (by kernel_rfl) (by kernel_rfl) rfl

def wantE (b : Bool) : AEnd := if b then .ret (.tup []) else .pan flawA
theorem wantE_clo (b : Bool) : (wantE b).clo := by
  unfold wantE; cases b
  · exact flawA_clo
  · exact unit_clo

theorem c46 (b : Bool) : ClosedCall SP 46 [.bool b] (wantE b) := by
  refine ClosedCall.of_tree (asks := noAsk) fit (by kernel_rfl) (by kernel_rfl) (wantE_clo b) ?_
  refine T.on_br (!b) (by kernel_rfl) (by kernel_rfl) (fun h => ?_) (fun h => ?_)
  · simp at h
    refine T.at_closed (f := 81) (args := [.int .i64 2]) (by kernel_rfl) (.pan flawA) (by kernel_rfl) (by kernel_rfl) c81 (Clo.args1 (Clo.int _ _)) flawA_clo ?_
    exact T.at_end (.pan flawA) (by kernel_rfl) (by kernel_rfl) (by subst h; rfl)
  · simp at h
    exact T.at_end (.ret (.tup [])) (by kernel_rfl) (by kernel_rfl) (by subst h; rfl)

/-! ### expression -/
mutual
def Ex.expr : Ex → Int → Int → Int → Option Int
  | .mk op n kids _, size, depth, left =>
    if left - 1 < 0 ∨ 12 < depth then none
    else if op = 1 then (if kids.length = 0 ∧ -1000000000 ≤ n ∧ n ≤ 1000000000 then some (left - 1) else none)
    else if op = 2 then (if kids.length = 0 ∧ 0 ≤ n ∧ n < size then some (left - 1) else none)
    else if 3 ≤ op ∧ op ≤ 7 ∧ n = 0 ∧ kids.length = 2 then exprL kids size (depth + 1) (left - 1) else none
def exprL : List Ex → Int → Int → Int → Option Int
  | [], _, _, left => some left
  | e :: es, size, depth, left => match e.expr size depth left with | some l => exprL es size depth l | none => none
end

mutual
theorem Ex.expr_le : ∀ (e : Ex) {size depth left l : Int}, e.expr size depth left = some l → 0 ≤ l ∧ l ≤ left - 1
  | .mk op n kids _, size, depth, left, l, h => by
    unfold Ex.expr at h
    split at h
    · cases h
    · rename_i h0
      split at h
      · split at h
        · cases h; omega
        · cases h
      · split at h
        · split at h
          · cases h; omega
          · cases h
        · split at h
          · have := exprL_le kids h (by omega)
            omega
          · cases h
theorem exprL_le : ∀ (es : List Ex) {size depth left l : Int}, exprL es size depth left = some l → 0 ≤ left → 0 ≤ l ∧ l ≤ left
  | [], size, depth, left, l, h, h0 => by
    simp only [exprL, Option.some.injEq] at h; omega
  | e :: es, size, depth, left, l, h, h0 => by
    unfold exprL at h
    split at h
    · rename_i l1 h1
      have := e.expr_le h1
      have := exprL_le es h this.1
      omega
    · cases h
end

def leftB (left : Int) : ABlk := .rows 3 [[.int .i64 left]]
def hpL (left : Int) : HP := ⟨trOf [(0, leftB left)], 1⟩

/-- What 'expression' does with the counter. -/
def Expr59 (e : Ex) (size depth left : Int) : Prop :=
  CallOk SP 59 [.agg e.row, .int .i64 size, .int .i64 depth, .ptr 0 0 0] (hpL left).tr.get 1 fun ae h n =>
    ae = (match e.expr size depth left with | some _ => AEnd.ret (.tup []) | none => .pan flawA) ∧ h = (match e.expr size depth left with | some l => (hpL l).tr.get | none => (trOf []).get) ∧ n = 1

theorem hpL_get {left : Int} {b : Nat} {x : ABlk} (h : (hpL left).tr.get b = some x) : b = 0 ∧ x = leftB left := by
  rcases trOf_get [(0, leftB left)] .leaf b x (by intro y hy; rw [List.mem_singleton] at hy; subst hy; show (0 : Nat) < 2 ^ 24; decide) h with k | k
  · rw [List.mem_singleton] at k; cases k; exact ⟨rfl, rfl⟩
  · rw [show (Tr.leaf : Tr ABlk).get b = none from Tr.getD_leaf _ _] at k; cases k

theorem tr0_get {b : Nat} {x : ABlk} (h : (trOf ([] : List (Nat × ABlk))).get b = some x) : False := by
  rw [show (trOf ([] : List (Nat × ABlk))).get b = none from Tr.getD_leaf _ _] at h; cases h

/-- Beside other memory. -/
theorem Expr59.at {e : Ex} {size depth left : Int} (h : Expr59 e size depth left) {hp hp' : HP} {b : Nat} {ae : AEnd} (hb : hp.tr.get b = some (leftB left)) (hbn : decide (b < hp.n) = true) (hn : hp'.n = hp.n)
    (hae : ae = match e.expr size depth left with | some _ => AEnd.ret (.tup []) | none => .pan flawA)
    (hh : ∀ b' x, hp'.tr.get b' = some x → (b' = b ∧ ∃ l, e.expr size depth left = some l ∧ x = leftB l) ∨ (b' ≠ b ∧ b' < hp.n ∧ hp.tr.get b' = some x)) :
    CallOk SP 59 [.agg e.row, .int .i64 size, .int .i64 depth, .ptr b 0 0] hp.tr.get hp.n fun ae1 h n => ae1 = ae ∧ h = hp'.tr.get ∧ n = hp'.n := by
  have hbn' : b < hp.n := of_decide_eq_true hbn
  let ρ : Nat → Nat := fun i => if i < 1 then b else hp.n + (i - 1)
  have := CallOk.frame (ae := ae) (h := hp.tr.get) (h' := hp'.tr.get) (n := hp.n) (args := [.agg e.row, .int .i64 size, .int .i64 depth, .ptr b 0 0]) ρ h
    (fun i hi => by simp only [ρ, if_pos hi]; exact hbn') (fun i hi => by simp only [ρ]; rw [if_neg (by omega)]) (fun i j hi hj _ => by omega)
    (fun i x hx => by rw [(hpL_get hx).1]; omega) (fun i x0 hx => by
      obtain ⟨rfl, rfl⟩ := hpL_get hx
      exact ⟨leftB left, by simpa [ρ] using hb, RenB.clo fun r hr x hx => by rw [List.mem_singleton] at hr; subst hr; exact Clo.args1 (Clo.int _ _) x hx⟩)
    ⟨.clo (Ex.agg_clo _), .clo (Clo.int _ _), .clo (Clo.int _ _), (by have := RenV.ptr (k := 1) (ρ := ρ) (i := 0) (r := 0) (o := 0) (by omega); simpa [ρ] using this), trivial⟩
    (by
      rw [hae]
      cases e.expr size depth left with
      | some l => exact RenV.clo unit_clo
      | none => exact RenV.clo flawA_clo)
    (fun b' x hx => by
      rcases hh b' x hx with ⟨rfl, l, h1, rfl⟩ | ⟨h1, h2, h3⟩
      · refine .inl ⟨0, leftB l, by omega, .inr (by rw [show (hpL left).tr.get 0 = some (leftB left) from rfl]; simp), by simp [ρ], by rw [h1]; rfl, RenB.clo fun r hr x hx => by rw [List.mem_singleton] at hr; subst hr; exact Clo.args1 (Clo.int _ _) x hx⟩
      · exact .inr ⟨h2, h3, fun i hi _ => by simp only [ρ, if_pos hi]; exact fun h => h1 h.symm⟩)
  refine this.mono ?_
  rintro ae1 h1 n1 ⟨rfl, rfl, rfl⟩
  exact ⟨rfl, rfl, by rw [hn]; omega⟩
end Go.Ab

/- What the program's check of an expression does. -/
namespace Go.Ab
open Go

/-- The raw end of 'expression': the counter at block 0. -/
def Raw59 (r : Option Int) (ae : AEnd) (hp : HP) : Prop :=
  match r with
  | some l => ae = .ret (.tup []) ∧ hp.tr.get 0 = some (leftB l) ∧ decide (1 ≤ hp.n) = true
  | none => ae = .pan flawA ∧ decide (1 ≤ hp.n) = true

theorem Expr59.of_raw {e : Ex} {size depth left : Int}
    (h : CallOk SP 59 [.agg e.row, .int .i64 size, .int .i64 depth, .ptr 0 0 0] (hpL left).tr.get 1 fun ae h n => ∃ hp', Raw59 (e.expr size depth left) ae hp' ∧ h = hp'.tr.get ∧ n = hp'.n) : Expr59 e size depth left := by
  refine CallOk.low h ?_
  rintro ae h1 n1 ⟨hp', hr, rfl, rfl⟩
  unfold Raw59 at hr
  cases hq : e.expr size depth left with
  | some l =>
    rw [hq] at hr
    obtain ⟨rfl, h2, h3⟩ := hr
    refine ⟨(hpL l).tr.get, 1, Nat.le_refl _, of_decide_eq_true h3, ⟨rfl, rfl, rfl⟩, unit_clo.low 1, fun b x hx => ?_⟩
    obtain ⟨rfl, rfl⟩ := hpL_get hx
    exact ⟨by omega, h2, LowB.row1 (Clo.args1 (Clo.int _ _))⟩
  | none =>
    rw [hq] at hr
    obtain ⟨rfl, h3⟩ := hr
    exact ⟨(trOf []).get, 1, Nat.le_refl _, of_decide_eq_true h3, ⟨rfl, rfl, rfl⟩, flawA_clo.low 1, fun b x hx => (tr0_get hx).elim⟩

/-- Memory in the midst of 'expression'. -/
def hpM (l : Int) (row : List AV) : HP := ⟨trOf [(0, leftB l), (1, .rows 64 [row])], 2⟩
def hpN : HP := ⟨trOf [], 2⟩

theorem hpM_get {l : Int} {row : List AV} {b : Nat} {x : ABlk} (h : (hpM l row).tr.get b = some x) : (b = 0 ∧ x = leftB l) ∨ (b = 1 ∧ x = .rows 64 [row]) := by
  rcases trOf_get [(0, leftB l), (1, .rows 64 [row])] .leaf b x (by
    intro y hy
    simp only [List.mem_cons, List.not_mem_nil, or_false] at hy
    rcases hy with rfl | rfl
    · show (0 : Nat) < 2 ^ 24; decide
    · show (1 : Nat) < 2 ^ 24; decide) h with k | k
  · simp only [List.mem_cons, List.not_mem_nil, or_false, Prod.mk.injEq] at k
    exact k
  · rw [show (Tr.leaf : Tr ABlk).get b = none from Tr.getD_leaf _ _] at k; cases k

/-- A call within, of a part. -/
theorem Expr59.sub {e : Ex} {size depth left : Int} {Q : AExit → ES → Prop} {t : T} {row : List AV} (h : Expr59 e size depth left) (ht : t.tag = 5) (hf : t.fid = 59) (ha : t.args = [.agg e.row, .int .i64 size, .int .i64 depth, .ptr 0 0 0])
    (h0 : t.hp.tr.get 0 = some (leftB left)) (h1 : t.hp.tr.get 1 = some (.rows 64 [row])) (hn : t.hp.n = 2)
    (hs : ∀ l, e.expr size depth left = some l → (t.aft (.ret (.tup [])) (hpM l row)).Fine SP 1 false Q) (hp : e.expr size depth left = none → (t.aft (.pan flawA) hpN).Fine SP 1 false Q) : t.Fine SP 1 false Q := by
  cases hq : e.expr size depth left with
  | some l =>
    refine T.on_call ht (.ret (.tup [])) (hpM l row) hf ha (h.at h0 (by rw [hn]; rfl) (by rw [hn]; rfl) (by rw [hq]) fun b' x hx => ?_) (hs l hq)
    rcases hpM_get hx with ⟨rfl, rfl⟩ | ⟨rfl, rfl⟩
    · exact .inl ⟨rfl, l, hq, rfl⟩
    · exact .inr ⟨by omega, by rw [hn]; omega, h1⟩
  | none =>
    exact T.on_call ht (.pan flawA) hpN hf ha (h.at h0 (by rw [hn]; rfl) (by rw [hn]; rfl) (by rw [hq]) fun b' x hx => (tr0_get hx).elim) (hp hq)

/-- A call of 'want'. -/
theorem T.at_want {t : T} {n0 : Nat} {Q : AExit → ES → Prop} (b : Bool) (ht : t.tag = 5) (hf : t.fid = 46) (ha : t.args = [.bool b]) (h1 : b = true → (t.aft (.ret (.tup [])) t.hp).Fine SP n0 false Q) (h2 : b = false → (t.aft (.pan flawA) t.hp).Fine SP n0 false Q) : t.Fine SP n0 false Q := by
  refine T.at_closed ht (wantE b) hf ha (c46 b) (Clo.args1 (Clo.bool _)) (wantE_clo b) ?_
  cases b with
  | true => exact h1 rfl
  | false => exact h2 rfl

theorem c59 (e : Ex) : ∀ size depth left : Int, -10 ≤ left → left ≤ 1000 → -10 ≤ depth → depth ≤ 1000 → Expr59 e size depth left := by
  induction e using Ex.ind with
  | h op nn kids tt ih =>
    intro size depth left hl1 hl2 hd1 hd2
    refine Expr59.of_raw (CallOk.of_tree (asks := noAsk) (hp := hpL left) fit (by kernel_rfl) (of_decide_eq_true (by kernel_rfl)) ?_)
    have hlen := rowsE_length kids
    have hw : IntKind.i64.wrap (left - 1) = left - 1 := wrap_id (by omega) (by omega)
    have hw2 : IntKind.i64.wrap (depth + 1) = depth + 1 := wrap_id (by omega) (by omega)
    -- ends
    have bad : ∀ t : T, (Ex.mk op nn kids tt).expr size depth left = none → t.tag = 0 → (endA SP (theFn SP 59) t.exit t.st).map Prod.fst = some (.pan flawA) → decide (1 ≤ (endHP SP (theFn SP 59) t).n) = true →
        t.Fine SP 1 false (EndR SP (theFn SP 59) (Raw59 ((Ex.mk op nn kids tt).expr size depth left))) := by
      intro t h1 h2 h3 h4
      exact T.at_endR (.pan flawA) h2 h3 (by rw [h1]; exact ⟨rfl, h4⟩)
    have good : ∀ (t : T) (l : Int), (Ex.mk op nn kids tt).expr size depth left = some l → t.tag = 0 → (endA SP (theFn SP 59) t.exit t.st).map Prod.fst = some (.ret (.tup [])) → (endHP SP (theFn SP 59) t).tr.get 0 = some (leftB l) → decide (1 ≤ (endHP SP (theFn SP 59) t).n) = true →
        t.Fine SP 1 false (EndR SP (theFn SP 59) (Raw59 ((Ex.mk op nn kids tt).expr size depth left))) := by
      intro t l h1 h2 h3 h4 h5
      exact T.at_endR (.ret (.tup [])) h2 h3 (by rw [h1]; exact ⟨rfl, h4, h5⟩)
    refine T.on_br (decide (IntKind.i64.wrap (left - 1) ≥ 0)) (by kernel_rfl) (by kernel_rfl) (fun g0 => ?_) (fun g0 => ?_)
    rotate_left
    · rw [hw] at g0
      simp at g0
      refine T.at_want false (by kernel_rfl) (by kernel_rfl) (by kernel_rfl) (fun h => by cases h) (fun _ => ?_)
      exact bad _ (by unfold Ex.expr; rw [if_pos (by omega)]) (by kernel_rfl) (by kernel_rfl) (by kernel_rfl)
    rw [hw] at g0
    simp at g0
    refine T.at_want (decide (depth ≤ 12)) (by kernel_rfl) (by kernel_rfl) (by kernel_rfl) (fun g1 => ?_) (fun g1 => ?_)
    rotate_left
    · simp at g1
      exact bad _ (by unfold Ex.expr; rw [if_pos (by omega)]) (by kernel_rfl) (by kernel_rfl) (by kernel_rfl)
    simp at g1
    have hex : (Ex.mk op nn kids tt).expr size depth left = if op = 1 then (if kids.length = 0 ∧ -1000000000 ≤ nn ∧ nn ≤ 1000000000 then some (left - 1) else none)
        else if op = 2 then (if kids.length = 0 ∧ 0 ≤ nn ∧ nn < size then some (left - 1) else none)
        else if 3 ≤ op ∧ op ≤ 7 ∧ nn = 0 ∧ kids.length = 2 then exprL kids size (depth + 1) (left - 1) else none := by
      conv => lhs; unfold Ex.expr
      rw [if_neg (by omega)]
    refine T.on_br (op == 1) (by kernel_rfl) (by kernel_rfl) (fun g2 => ?_) (fun g2 => ?_)
    · simp only [beq_iff_eq] at g2
      rw [if_pos g2] at hex
      refine T.on_br (decide (nn ≥ -1000000000)) (by kernel_rfl) (by kernel_rfl) (fun g3 => ?_) (fun g3 => ?_)
      · simp at g3
        refine T.on_br (decide (nn ≤ 1000000000)) (by kernel_rfl) (by kernel_rfl) (fun g4 => ?_) (fun g4 => ?_)
        · simp at g4
          refine T.at_want (((rowsE kids).length : Int) == 0) (by kernel_rfl) (by kernel_rfl) (by kernel_rfl) (fun g5 => ?_) (fun g5 => ?_)
          · rw [hlen] at g5
            simp only [beq_iff_eq] at g5
            exact good _ (left - 1) (by rw [hex, if_pos ⟨by omega, by omega, by omega⟩]) (by kernel_rfl) (by kernel_rfl) (by rw [← hw]; kernel_rfl) (by kernel_rfl)
          · rw [hlen] at g5
            simp only [beq_eq_false_iff_ne, ne_eq] at g5
            exact bad _ (by rw [hex, if_neg (by omega)]) (by kernel_rfl) (by kernel_rfl) (by kernel_rfl)
        · simp at g4
          refine T.at_want false (by kernel_rfl) (by kernel_rfl) (by kernel_rfl) (fun h => by cases h) (fun _ => ?_)
          exact bad _ (by rw [hex, if_neg (by omega)]) (by kernel_rfl) (by kernel_rfl) (by kernel_rfl)
      · simp at g3
        refine T.at_want false (by kernel_rfl) (by kernel_rfl) (by kernel_rfl) (fun h => by cases h) (fun _ => ?_)
        exact bad _ (by rw [hex, if_neg (by omega)]) (by kernel_rfl) (by kernel_rfl) (by kernel_rfl)
    simp only [beq_eq_false_iff_ne, ne_eq] at g2
    rw [if_neg g2] at hex
    refine T.on_br (op == 2) (by kernel_rfl) (by kernel_rfl) (fun g3 => ?_) (fun g3 => ?_)
    · simp only [beq_iff_eq] at g3
      rw [if_pos g3] at hex
      refine T.on_br (decide (nn ≥ 0)) (by kernel_rfl) (by kernel_rfl) (fun g4 => ?_) (fun g4 => ?_)
      · simp at g4
        refine T.on_br (decide (nn < size)) (by kernel_rfl) (by kernel_rfl) (fun g5 => ?_) (fun g5 => ?_)
        · simp at g5
          refine T.at_want (((rowsE kids).length : Int) == 0) (by kernel_rfl) (by kernel_rfl) (by kernel_rfl) (fun g6 => ?_) (fun g6 => ?_)
          · rw [hlen] at g6
            simp only [beq_iff_eq] at g6
            exact good _ (left - 1) (by rw [hex, if_pos ⟨by omega, by omega, by omega⟩]) (by kernel_rfl) (by kernel_rfl) (by rw [← hw]; kernel_rfl) (by kernel_rfl)
          · rw [hlen] at g6
            simp only [beq_eq_false_iff_ne, ne_eq] at g6
            exact bad _ (by rw [hex, if_neg (by omega)]) (by kernel_rfl) (by kernel_rfl) (by kernel_rfl)
        · simp at g5
          refine T.at_want false (by kernel_rfl) (by kernel_rfl) (by kernel_rfl) (fun h => by cases h) (fun _ => ?_)
          exact bad _ (by rw [hex, if_neg (by omega)]) (by kernel_rfl) (by kernel_rfl) (by kernel_rfl)
      · simp at g4
        refine T.at_want false (by kernel_rfl) (by kernel_rfl) (by kernel_rfl) (fun h => by cases h) (fun _ => ?_)
        exact bad _ (by rw [hex, if_neg (by omega)]) (by kernel_rfl) (by kernel_rfl) (by kernel_rfl)
    simp only [beq_eq_false_iff_ne, ne_eq] at g3
    rw [if_neg g3] at hex
    -- the two parts, once known that there are two
    have parts : 3 ≤ op → op ≤ 7 → nn = 0 → ∀ a b : Ex, kids = [a, b] → ∀ t : T,
        t.tag = 2 → t.rows = [a.row, b.row] → t.num = 0 → t.size = some 3 → (t.at' a.row).tag = 5 → (t.at' a.row).fid = 59 → (t.at' a.row).args = [.agg a.row, .int .i64 size, .int .i64 (depth + 1), .ptr 0 0 0] →
        (t.at' a.row).hp.tr.get 0 = some (leftB (left - 1)) → (t.at' a.row).hp.tr.get 1 = some (.rows 64 [(Ex.mk op nn kids tt).row]) → (t.at' a.row).hp.n = 2 →
        (∀ l, ((t.at' a.row).aft (.ret (.tup [])) (hpM l (Ex.mk op nn kids tt).row)).tag = 2 ∧ ((t.at' a.row).aft (.ret (.tup [])) (hpM l (Ex.mk op nn kids tt).row)).rows = [a.row, b.row] ∧ ((t.at' a.row).aft (.ret (.tup [])) (hpM l (Ex.mk op nn kids tt).row)).num = 1 ∧
          ((t.at' a.row).aft (.ret (.tup [])) (hpM l (Ex.mk op nn kids tt).row)).size = some 3 ∧
          (((t.at' a.row).aft (.ret (.tup [])) (hpM l (Ex.mk op nn kids tt).row)).at' b.row).tag = 5 ∧ (((t.at' a.row).aft (.ret (.tup [])) (hpM l (Ex.mk op nn kids tt).row)).at' b.row).fid = 59 ∧
          (((t.at' a.row).aft (.ret (.tup [])) (hpM l (Ex.mk op nn kids tt).row)).at' b.row).args = [.agg b.row, .int .i64 size, .int .i64 (depth + 1), .ptr 0 0 0] ∧
          (((t.at' a.row).aft (.ret (.tup [])) (hpM l (Ex.mk op nn kids tt).row)).at' b.row).hp = hpM l (Ex.mk op nn kids tt).row ∧
          (∀ l', ((((t.at' a.row).aft (.ret (.tup [])) (hpM l (Ex.mk op nn kids tt).row)).at' b.row).aft (.ret (.tup [])) (hpM l' (Ex.mk op nn kids tt).row)).tag = 0 ∧
            (endA SP (theFn SP 59) ((((t.at' a.row).aft (.ret (.tup [])) (hpM l (Ex.mk op nn kids tt).row)).at' b.row).aft (.ret (.tup [])) (hpM l' (Ex.mk op nn kids tt).row)).exit ((((t.at' a.row).aft (.ret (.tup [])) (hpM l (Ex.mk op nn kids tt).row)).at' b.row).aft (.ret (.tup [])) (hpM l' (Ex.mk op nn kids tt).row)).st) = some (.ret (.tup []), hpM l' (Ex.mk op nn kids tt).row)) ∧
          ((((t.at' a.row).aft (.ret (.tup [])) (hpM l (Ex.mk op nn kids tt).row)).at' b.row).aft (.pan flawA) hpN).tag = 0 ∧
          (endA SP (theFn SP 59) ((((t.at' a.row).aft (.ret (.tup [])) (hpM l (Ex.mk op nn kids tt).row)).at' b.row).aft (.pan flawA) hpN).exit ((((t.at' a.row).aft (.ret (.tup [])) (hpM l (Ex.mk op nn kids tt).row)).at' b.row).aft (.pan flawA) hpN).st) = some (.pan flawA, hpN)) →
        ((t.at' a.row).aft (.pan flawA) hpN).tag = 0 → (endA SP (theFn SP 59) ((t.at' a.row).aft (.pan flawA) hpN).exit ((t.at' a.row).aft (.pan flawA) hpN).st) = some (.pan flawA, hpN) →
        t.Fine SP 1 false (EndR SP (theFn SP 59) (Raw59 ((Ex.mk op nn kids tt).expr size depth left))) := by
      intro q1 q2 q3 a b hk t a1 a2 a3 a4 a5 a6 a7 a8 a9 a10 hnext a11 a12
      have hex2 : (Ex.mk op nn kids tt).expr size depth left = exprL [a, b] size (depth + 1) (left - 1) := by
        rw [hex, hk, if_pos ⟨q1, q2, q3, rfl⟩]
      have ra : a.row.length = 3 := by cases a; rfl
      have rb : b.row.length = 3 := by cases b; rfl
      refine T.on_idx a1 a2 a3 a.row (by omega) rfl (by rw [a4, ra]) ?_
      refine Expr59.sub (ih a (by rw [hk]; simp) size (depth + 1) (left - 1) (by omega) (by omega) (by omega) (by omega)) a5 a6 a7 a8 a9 a10 (fun l hl => ?_) (fun hl => ?_)
      · obtain ⟨b1, b2, b3, b4, b5, b6, b7, b8, b9, b10, b11⟩ := hnext l
        refine T.on_idx b1 b2 b3 b.row (by omega) rfl (by rw [b4, rb]) ?_
        have hbl : -10 ≤ l ∧ l ≤ 1000 := by
          have := a.expr_le hl
          omega
        refine Expr59.sub (row := (Ex.mk op nn kids tt).row) (ih b (by rw [hk]; simp) size (depth + 1) l (by omega) (by omega) (by omega) (by omega)) b5 b6 b7 (by rw [b8]; rfl) (by rw [b8]; rfl) (by rw [b8]; rfl) (fun l' hl' => ?_) (fun hl' => ?_)
        · obtain ⟨c1, c2⟩ := b9 l'
          refine T.at_ok c1 ⟨_, _, c2, ?_⟩
          rw [hex2]
          simp only [exprL, hl, hl']
          exact ⟨rfl, rfl, rfl⟩
        · refine T.at_ok b10 ⟨_, _, b11, ?_⟩
          rw [hex2]
          simp only [exprL, hl, hl']
          exact ⟨rfl, rfl⟩
      · refine T.at_ok a11 ⟨_, _, a12, ?_⟩
        rw [hex2]
        simp only [exprL, hl]
        exact ⟨rfl, rfl⟩
    refine T.on_br (op == 3) (by kernel_rfl) (by kernel_rfl) (fun q3 => ?_) (fun q3 => ?_)
    · simp only [beq_iff_eq] at q3
      refine T.on_br (nn == 0) (by kernel_rfl) (by kernel_rfl) (fun g5 => ?_) (fun g5 => ?_)
      · simp only [beq_iff_eq] at g5
        refine T.at_want (((rowsE kids).length : Int) == 2) (by kernel_rfl) (by kernel_rfl) (by kernel_rfl) (fun g6 => ?_) (fun g6 => ?_)
        · rw [hlen] at g6
          simp only [beq_iff_eq] at g6
          obtain ⟨a, b, rfl⟩ := len2 (show kids.length = 2 by omega)
          obtain ⟨oa, na, ka, ta⟩ := a
          obtain ⟨ob, nb, kb, tb⟩ := b
          exact parts (by omega) (by omega) g5 _ _ rfl _ (by kernel_rfl) (by kernel_rfl) (by kernel_rfl) (by kernel_rfl) (by kernel_rfl) (by kernel_rfl) (by rw [← hw2]; kernel_rfl) (by rw [← hw]; kernel_rfl) (by kernel_rfl) (by kernel_rfl)
            (fun l => ⟨by kernel_rfl, by kernel_rfl, by kernel_rfl, by kernel_rfl, by kernel_rfl, by kernel_rfl, by rw [← hw2]; kernel_rfl, by kernel_rfl, fun l' => ⟨by kernel_rfl, by kernel_rfl⟩, by kernel_rfl, by kernel_rfl⟩) (by kernel_rfl) (by kernel_rfl)
        · rw [hlen] at g6
          simp only [beq_eq_false_iff_ne, ne_eq] at g6
          exact bad _ (by rw [hex, if_neg (by omega)]) (by kernel_rfl) (by kernel_rfl) (by kernel_rfl)
      · simp only [beq_eq_false_iff_ne, ne_eq] at g5
        refine T.at_want false (by kernel_rfl) (by kernel_rfl) (by kernel_rfl) (fun h => by cases h) (fun _ => ?_)
        exact bad _ (by rw [hex, if_neg (by omega)]) (by kernel_rfl) (by kernel_rfl) (by kernel_rfl)
    simp only [beq_eq_false_iff_ne, ne_eq] at q3
    refine T.on_br (op == 4) (by kernel_rfl) (by kernel_rfl) (fun q4 => ?_) (fun q4 => ?_)
    · simp only [beq_iff_eq] at q4
      refine T.on_br (nn == 0) (by kernel_rfl) (by kernel_rfl) (fun g5 => ?_) (fun g5 => ?_)
      · simp only [beq_iff_eq] at g5
        refine T.at_want (((rowsE kids).length : Int) == 2) (by kernel_rfl) (by kernel_rfl) (by kernel_rfl) (fun g6 => ?_) (fun g6 => ?_)
        · rw [hlen] at g6
          simp only [beq_iff_eq] at g6
          obtain ⟨a, b, rfl⟩ := len2 (show kids.length = 2 by omega)
          obtain ⟨oa, na, ka, ta⟩ := a
          obtain ⟨ob, nb, kb, tb⟩ := b
          exact parts (by omega) (by omega) g5 _ _ rfl _ (by kernel_rfl) (by kernel_rfl) (by kernel_rfl) (by kernel_rfl) (by kernel_rfl) (by kernel_rfl) (by rw [← hw2]; kernel_rfl) (by rw [← hw]; kernel_rfl) (by kernel_rfl) (by kernel_rfl)
            (fun l => ⟨by kernel_rfl, by kernel_rfl, by kernel_rfl, by kernel_rfl, by kernel_rfl, by kernel_rfl, by rw [← hw2]; kernel_rfl, by kernel_rfl, fun l' => ⟨by kernel_rfl, by kernel_rfl⟩, by kernel_rfl, by kernel_rfl⟩) (by kernel_rfl) (by kernel_rfl)
        · rw [hlen] at g6
          simp only [beq_eq_false_iff_ne, ne_eq] at g6
          exact bad _ (by rw [hex, if_neg (by omega)]) (by kernel_rfl) (by kernel_rfl) (by kernel_rfl)
      · simp only [beq_eq_false_iff_ne, ne_eq] at g5
        refine T.at_want false (by kernel_rfl) (by kernel_rfl) (by kernel_rfl) (fun h => by cases h) (fun _ => ?_)
        exact bad _ (by rw [hex, if_neg (by omega)]) (by kernel_rfl) (by kernel_rfl) (by kernel_rfl)
    simp only [beq_eq_false_iff_ne, ne_eq] at q4
    refine T.on_br (op == 5) (by kernel_rfl) (by kernel_rfl) (fun q5 => ?_) (fun q5 => ?_)
    · simp only [beq_iff_eq] at q5
      refine T.on_br (nn == 0) (by kernel_rfl) (by kernel_rfl) (fun g5 => ?_) (fun g5 => ?_)
      · simp only [beq_iff_eq] at g5
        refine T.at_want (((rowsE kids).length : Int) == 2) (by kernel_rfl) (by kernel_rfl) (by kernel_rfl) (fun g6 => ?_) (fun g6 => ?_)
        · rw [hlen] at g6
          simp only [beq_iff_eq] at g6
          obtain ⟨a, b, rfl⟩ := len2 (show kids.length = 2 by omega)
          obtain ⟨oa, na, ka, ta⟩ := a
          obtain ⟨ob, nb, kb, tb⟩ := b
          exact parts (by omega) (by omega) g5 _ _ rfl _ (by kernel_rfl) (by kernel_rfl) (by kernel_rfl) (by kernel_rfl) (by kernel_rfl) (by kernel_rfl) (by rw [← hw2]; kernel_rfl) (by rw [← hw]; kernel_rfl) (by kernel_rfl) (by kernel_rfl)
            (fun l => ⟨by kernel_rfl, by kernel_rfl, by kernel_rfl, by kernel_rfl, by kernel_rfl, by kernel_rfl, by rw [← hw2]; kernel_rfl, by kernel_rfl, fun l' => ⟨by kernel_rfl, by kernel_rfl⟩, by kernel_rfl, by kernel_rfl⟩) (by kernel_rfl) (by kernel_rfl)
        · rw [hlen] at g6
          simp only [beq_eq_false_iff_ne, ne_eq] at g6
          exact bad _ (by rw [hex, if_neg (by omega)]) (by kernel_rfl) (by kernel_rfl) (by kernel_rfl)
      · simp only [beq_eq_false_iff_ne, ne_eq] at g5
        refine T.at_want false (by kernel_rfl) (by kernel_rfl) (by kernel_rfl) (fun h => by cases h) (fun _ => ?_)
        exact bad _ (by rw [hex, if_neg (by omega)]) (by kernel_rfl) (by kernel_rfl) (by kernel_rfl)
    simp only [beq_eq_false_iff_ne, ne_eq] at q5
    refine T.on_br (op == 6) (by kernel_rfl) (by kernel_rfl) (fun q6 => ?_) (fun q6 => ?_)
    · simp only [beq_iff_eq] at q6
      refine T.on_br (nn == 0) (by kernel_rfl) (by kernel_rfl) (fun g5 => ?_) (fun g5 => ?_)
      · simp only [beq_iff_eq] at g5
        refine T.at_want (((rowsE kids).length : Int) == 2) (by kernel_rfl) (by kernel_rfl) (by kernel_rfl) (fun g6 => ?_) (fun g6 => ?_)
        · rw [hlen] at g6
          simp only [beq_iff_eq] at g6
          obtain ⟨a, b, rfl⟩ := len2 (show kids.length = 2 by omega)
          obtain ⟨oa, na, ka, ta⟩ := a
          obtain ⟨ob, nb, kb, tb⟩ := b
          exact parts (by omega) (by omega) g5 _ _ rfl _ (by kernel_rfl) (by kernel_rfl) (by kernel_rfl) (by kernel_rfl) (by kernel_rfl) (by kernel_rfl) (by rw [← hw2]; kernel_rfl) (by rw [← hw]; kernel_rfl) (by kernel_rfl) (by kernel_rfl)
            (fun l => ⟨by kernel_rfl, by kernel_rfl, by kernel_rfl, by kernel_rfl, by kernel_rfl, by kernel_rfl, by rw [← hw2]; kernel_rfl, by kernel_rfl, fun l' => ⟨by kernel_rfl, by kernel_rfl⟩, by kernel_rfl, by kernel_rfl⟩) (by kernel_rfl) (by kernel_rfl)
        · rw [hlen] at g6
          simp only [beq_eq_false_iff_ne, ne_eq] at g6
          exact bad _ (by rw [hex, if_neg (by omega)]) (by kernel_rfl) (by kernel_rfl) (by kernel_rfl)
      · simp only [beq_eq_false_iff_ne, ne_eq] at g5
        refine T.at_want false (by kernel_rfl) (by kernel_rfl) (by kernel_rfl) (fun h => by cases h) (fun _ => ?_)
        exact bad _ (by rw [hex, if_neg (by omega)]) (by kernel_rfl) (by kernel_rfl) (by kernel_rfl)
    simp only [beq_eq_false_iff_ne, ne_eq] at q6
    refine T.on_br (op == 7) (by kernel_rfl) (by kernel_rfl) (fun q7 => ?_) (fun q7 => ?_)
    · simp only [beq_iff_eq] at q7
      refine T.on_br (nn == 0) (by kernel_rfl) (by kernel_rfl) (fun g5 => ?_) (fun g5 => ?_)
      · simp only [beq_iff_eq] at g5
        refine T.at_want (((rowsE kids).length : Int) == 2) (by kernel_rfl) (by kernel_rfl) (by kernel_rfl) (fun g6 => ?_) (fun g6 => ?_)
        · rw [hlen] at g6
          simp only [beq_iff_eq] at g6
          obtain ⟨a, b, rfl⟩ := len2 (show kids.length = 2 by omega)
          obtain ⟨oa, na, ka, ta⟩ := a
          obtain ⟨ob, nb, kb, tb⟩ := b
          exact parts (by omega) (by omega) g5 _ _ rfl _ (by kernel_rfl) (by kernel_rfl) (by kernel_rfl) (by kernel_rfl) (by kernel_rfl) (by kernel_rfl) (by rw [← hw2]; kernel_rfl) (by rw [← hw]; kernel_rfl) (by kernel_rfl) (by kernel_rfl)
            (fun l => ⟨by kernel_rfl, by kernel_rfl, by kernel_rfl, by kernel_rfl, by kernel_rfl, by kernel_rfl, by rw [← hw2]; kernel_rfl, by kernel_rfl, fun l' => ⟨by kernel_rfl, by kernel_rfl⟩, by kernel_rfl, by kernel_rfl⟩) (by kernel_rfl) (by kernel_rfl)
        · rw [hlen] at g6
          simp only [beq_eq_false_iff_ne, ne_eq] at g6
          exact bad _ (by rw [hex, if_neg (by omega)]) (by kernel_rfl) (by kernel_rfl) (by kernel_rfl)
      · simp only [beq_eq_false_iff_ne, ne_eq] at g5
        refine T.at_want false (by kernel_rfl) (by kernel_rfl) (by kernel_rfl) (fun h => by cases h) (fun _ => ?_)
        exact bad _ (by rw [hex, if_neg (by omega)]) (by kernel_rfl) (by kernel_rfl) (by kernel_rfl)
    simp only [beq_eq_false_iff_ne, ne_eq] at q7
    refine T.at_closed (f := 81) (args := [.int .i64 2]) (by kernel_rfl) (.pan flawA) (by kernel_rfl) (by kernel_rfl) c81 (Clo.args1 (Clo.int _ _)) flawA_clo ?_
    exact bad _ (by rw [hex, if_neg (by omega)]) (by kernel_rfl) (by kernel_rfl) (by kernel_rfl)
end Go.Ab

/- What the program's value of an expression is. -/
namespace Go.Ab
open Go

theorem clampI_if (x : Int) : (if (1000000000 : Int) < (if (-1000000000 : Int) > x then -1000000000 else x) then 1000000000 else (if (-1000000000 : Int) > x then -1000000000 else x)) = clampI x := by
  unfold clampI
  split <;> split <;> omega

theorem c60 (e : Ex) (env : List Vl) (te : Bool) (hf : e.formed env.length = true) (he : ∀ v ∈ env, v.fine = true) : ClosedCall SP 60 [.agg e.row, .ro (rowsV env) te] (.ret (.agg (e.value env).row)) := by
  induction e using Ex.ind with
  | h op nn kids tt ih =>
    refine ClosedCall.of_tree (asks := noAsk) fit (by kernel_rfl) (by kernel_rfl) (Vl.agg_clo _) ?_
    have hf' := hf
    unfold Ex.formed at hf'
    refine T.on_br (op == 1) (by kernel_rfl) (by kernel_rfl) (fun h1 => ?_) (fun h1 => ?_)
    · simp only [beq_iff_eq] at h1
      refine T.at_end (.ret (.agg (Vl.mk 1 nn).row)) (by kernel_rfl) (by kernel_rfl) ?_
      simp [Ex.value, h1]
    simp only [beq_eq_false_iff_ne, ne_eq] at h1
    rw [if_neg h1] at hf'
    refine T.on_br (op == 2) (by kernel_rfl) (by kernel_rfl) (fun h2 => ?_) (fun h2 => ?_)
    · simp only [beq_iff_eq] at h2
      rw [if_pos h2] at hf'
      simp only [Bool.and_eq_true, decide_eq_true_eq] at hf'
      have hlt : nn.toNat < env.length := by omega
      refine T.on_idx (rows := rowsV env) (i := nn) (by kernel_rfl) (by kernel_rfl) (by kernel_rfl) (env.getD nn.toNat ⟨0, 0⟩).row (by omega) (by unfold rowsV; rw [List.getElem?_map, List.getElem?_eq_getElem hlt, List.getD_eq_getElem?_getD, List.getElem?_eq_getElem hlt]; rfl) (by kernel_rfl) ?_
      refine T.at_end (.ret (.agg (env.getD nn.toNat ⟨0, 0⟩).row)) (by kernel_rfl) (by kernel_rfl) ?_
      simp [Ex.value, h2]
    simp only [beq_eq_false_iff_ne, ne_eq] at h2
    rw [if_neg h2] at hf'
    simp only [Bool.and_eq_true, decide_eq_true_eq] at hf'
    obtain ⟨⟨⟨⟨h3, h4⟩, h5⟩, h6⟩, h7⟩ := hf'
    obtain ⟨a, b, rfl⟩ := len2 h5
    simp only [formedL, Bool.and_eq_true] at h7
    have va := value_num h7.1 he
    have vb := value_num h7.2.1 he
    have iha := ih a (by simp) h7.1
    have ihb := ih b (by simp) h7.2.1
    have hval : (Ex.mk op nn [a, b] tt).value env = ⟨1, clampI (arith op (a.value env).num (b.value env).num)⟩ := by
      simp [Ex.value, h1, h2, valuesL]
    rw [hval]
    generalize ha : a.value env = xa at *
    generalize hb : b.value env = xb at *
    obtain ⟨oa, na, ka, ta⟩ := a
    obtain ⟨ob, nb, kb, tb⟩ := b
    refine T.on_idx (rows := [(Ex.mk oa na ka ta).row, (Ex.mk ob nb kb tb).row]) (i := 0) (by kernel_rfl) (by kernel_rfl) (by kernel_rfl) (Ex.mk oa na ka ta).row (by omega) rfl (by kernel_rfl) ?_
    refine T.at_pcall (f := 60) (args := [.agg (Ex.mk oa na ka ta).row, .ro (rowsV env) te]) (by kernel_rfl) (.agg xa.row) (by kernel_rfl) (by kernel_rfl) iha (Clo.args2 (Ex.agg_clo _) (rowsV_clo _ _)) (Vl.agg_clo _) ?_
    refine T.at_pcall (f := 98) (args := [.agg xa.row]) (by kernel_rfl) (.int .i64 xa.num) (by kernel_rfl) (by kernel_rfl) (c98 xa) (Clo.args1 (Vl.agg_clo _)) (Clo.int _ _) ?_
    refine T.on_idx (rows := [(Ex.mk oa na ka ta).row, (Ex.mk ob nb kb tb).row]) (i := 1) (by kernel_rfl) (by kernel_rfl) (by kernel_rfl) (Ex.mk ob nb kb tb).row (by omega) rfl (by kernel_rfl) ?_
    refine T.at_pcall (f := 60) (args := [.agg (Ex.mk ob nb kb tb).row, .ro (rowsV env) te]) (by kernel_rfl) (.agg xb.row) (by kernel_rfl) (by kernel_rfl) ihb (Clo.args2 (Ex.agg_clo _) (rowsV_clo _ _)) (Vl.agg_clo _) ?_
    refine T.at_pcall (f := 98) (args := [.agg xb.row]) (by kernel_rfl) (.int .i64 xb.num) (by kernel_rfl) (by kernel_rfl) (c98 xb) (Clo.args1 (Vl.agg_clo _)) (Clo.int _ _) ?_
    obtain ⟨w1, w2, w3⟩ := arith_wrap (op := op) va vb
    have fin : ∀ (t : T) (x y : Int), t.tag = 0 →
        (endA SP (theFn SP 60) t.exit t.st).map Prod.fst = some (.ret (.agg [.int .i64 1, .int .i64 (if (1000000000 : Int) < (if (-1000000000 : Int) > x then -1000000000 else x) then 1000000000 else (if (-1000000000 : Int) > x then -1000000000 else x))])) →
        x = y → y = arith op xa.num xb.num → t.Fine SP 0 false (EndIs SP (theFn SP 60) (.ret (.agg (Vl.mk 1 (clampI (arith op xa.num xb.num))).row))) := by
      intro t x y g1 g2 g3 g4
      exact T.at_end _ g1 g2 (by rw [clampI_if, g3, g4]; rfl)
    refine T.on_br (op == 3) (by kernel_rfl) (by kernel_rfl) (fun g => ?_) (fun g => ?_)
    · simp only [beq_iff_eq] at g
      exact fin _ (IntKind.i64.wrap (xa.num + xb.num)) _ (by kernel_rfl) (by kernel_rfl) w1 (by simp [arith, g])
    simp only [beq_eq_false_iff_ne, ne_eq] at g
    refine T.on_br (op == 4) (by kernel_rfl) (by kernel_rfl) (fun g4 => ?_) (fun g4 => ?_)
    · simp only [beq_iff_eq] at g4
      exact fin _ (IntKind.i64.wrap (xa.num - xb.num)) _ (by kernel_rfl) (by kernel_rfl) w2 (by simp [arith, g4])
    simp only [beq_eq_false_iff_ne, ne_eq] at g4
    refine T.on_br (op == 5) (by kernel_rfl) (by kernel_rfl) (fun g5 => ?_) (fun g5 => ?_)
    · simp only [beq_iff_eq] at g5
      exact fin _ (IntKind.i64.wrap (xa.num * xb.num)) _ (by kernel_rfl) (by kernel_rfl) w3 (by simp [arith, g5])
    simp only [beq_eq_false_iff_ne, ne_eq] at g5
    refine T.on_br (op == 6) (by kernel_rfl) (by kernel_rfl) (fun g6 => ?_) (fun g6 => ?_)
    · simp only [beq_iff_eq] at g6
      refine T.at_closed (f := 99) (args := [.bool (decide (xa.num < xb.num))]) (by kernel_rfl) (.ret (.int .i64 (if decide (xa.num < xb.num) then 1 else 0))) (by kernel_rfl) (by kernel_rfl) (c99 _) (Clo.args1 (Clo.bool _)) (Clo.int _ _) ?_
      exact fin _ (if decide (xa.num < xb.num) then 1 else 0) _ (by kernel_rfl) (by kernel_rfl) rfl (by simp [arith, g6])
    simp only [beq_eq_false_iff_ne, ne_eq] at g6
    refine T.on_br (op == 7) (by kernel_rfl) (by kernel_rfl) (fun g7 => ?_) (fun g7 => ?_)
    · simp only [beq_iff_eq] at g7
      refine T.at_closed (f := 99) (args := [.bool (xa.num == xb.num)]) (by kernel_rfl) (.ret (.int .i64 (if xa.num == xb.num then 1 else 0))) (by kernel_rfl) (by kernel_rfl) (c99 _) (Clo.args1 (Clo.bool _)) (Clo.int _ _) ?_
      exact fin _ (if xa.num == xb.num then 1 else 0) _ (by kernel_rfl) (by kernel_rfl) rfl (by simp [arith, g7])
    simp only [beq_eq_false_iff_ne, ne_eq] at g7
    omega

/-! ### The plain law: what is formed -/
mutual
theorem Ex.expr_tot : ∀ (e : Ex) {size depth left : Int}, e.formed size = true → e.tot ≤ left → depth + e.depth ≤ 13 → e.expr size depth left = some (left - e.tot)
  | .mk op n kids _, size, depth, left, h, h1, h2 => by
    unfold Ex.formed at h
    unfold Ex.tot at h1 ⊢
    unfold Ex.depth at h2
    have h3 := totL_nonneg kids
    have h4 := (depthL_le kids 0 (by omega)).1
    unfold Ex.expr
    rw [if_neg (by omega)]
    split at h
    · rename_i g
      rw [if_pos g]
      simp only [Bool.and_eq_true, decide_eq_true_eq, List.isEmpty_iff] at h
      obtain ⟨⟨rfl, h5⟩, h6⟩ := h
      rw [if_pos ⟨rfl, h5, h6⟩]
      simp [totL]
    · rename_i g
      rw [if_neg g]
      split at h
      · rename_i g'
        rw [if_pos g']
        simp only [Bool.and_eq_true, decide_eq_true_eq, List.isEmpty_iff] at h
        obtain ⟨⟨rfl, h5⟩, h6⟩ := h
        rw [if_pos ⟨rfl, h5, h6⟩]
        simp [totL]
      · rename_i g'
        rw [if_neg g']
        simp only [Bool.and_eq_true, decide_eq_true_eq] at h
        obtain ⟨⟨⟨⟨h5, h6⟩, h7⟩, h8⟩, h9⟩ := h
        rw [if_pos ⟨h5, h6, h8, h7⟩, exprL_tot kids h9 (by omega) 0 (by omega) (by omega)]
        congr 1
        omega
theorem exprL_tot : ∀ (es : List Ex) {size depth left : Int}, formedL es size = true → totL es ≤ left → ∀ d : Int, 0 ≤ d → depth + depthL es d ≤ 13 → exprL es size depth left = some (left - totL es)
  | [], size, depth, left, _, _, _, _, _ => by simp [exprL, totL]
  | e :: es, size, depth, left, h, h1, d, h2, h3 => by
    simp only [formedL, Bool.and_eq_true] at h
    unfold totL at h1 ⊢
    unfold depthL at h3
    have h4 := totL_nonneg es
    have h5 := e.depth_le
    have h6 : e.depth ≤ (if e.depth > d then e.depth else d) := by split <;> omega
    have h7 : 0 ≤ (if e.depth > d then e.depth else d) := by split <;> omega
    have h8 := (depthL_le es (if e.depth > d then e.depth else d) h7).1
    unfold exprL
    rw [e.expr_tot h.1 (by omega) (by omega)]
    simp only
    rw [exprL_tot es h.2 (by omega) (if e.depth > d then e.depth else d) h7 h3]
    congr 1
    omega
end

mutual
theorem Ex.tot_expr : ∀ (e : Ex) {size depth left l : Int}, e.expr size depth left = some l → e.formed size = true ∧ e.tot = left - l ∧ depth + e.depth ≤ 13
  | .mk op n kids _, size, depth, left, l, h => by
    unfold Ex.expr at h
    unfold Ex.formed Ex.tot Ex.depth
    split at h
    · cases h
    · rename_i g0
      split at h
      · rename_i g
        split at h
        · rename_i g1
          cases h
          obtain ⟨g1, g2, g3⟩ := g1
          have : kids = [] := List.eq_nil_of_length_eq_zero g1
          subst this
          rw [if_pos g]
          simp [g2, g3, totL, depthL]
          omega
        · cases h
      · rename_i g
        rw [if_neg g]
        split at h
        · rename_i g'
          rw [if_pos g']
          split at h
          · rename_i g1
            cases h
            obtain ⟨g1, g2, g3⟩ := g1
            have : kids = [] := List.eq_nil_of_length_eq_zero g1
            subst this
            simp [g2, g3, totL, depthL]
            omega
          · cases h
        · rename_i g'
          rw [if_neg g']
          split at h
          · rename_i g1
            obtain ⟨g1, g2, g3, g4⟩ := g1
            obtain ⟨k1, k2, k3⟩ := totL_expr kids h 0 (by omega) (by omega)
            simp [g1, g2, g3, g4, k1]
            omega
          · cases h
theorem totL_expr : ∀ (es : List Ex) {size depth left l : Int}, exprL es size depth left = some l → ∀ d : Int, 0 ≤ d → depth + d ≤ 13 → formedL es size = true ∧ totL es = left - l ∧ depth + depthL es d ≤ 13
  | [], size, depth, left, l, h, d, h0, h1 => by
    simp only [exprL, Option.some.injEq] at h
    simp [formedL, totL, depthL]
    omega
  | e :: es, size, depth, left, l, h, d, h0, h1 => by
    unfold exprL at h
    split at h
    · rename_i l1 h2
      obtain ⟨k1, k2, k3⟩ := e.tot_expr h2
      have k4 := e.depth_le
      obtain ⟨j1, j2, j3⟩ := totL_expr es h (if e.depth > d then e.depth else d) (by split <;> omega) (by split <;> omega)
      unfold formedL totL depthL
      simp only [k1, j1, Bool.and_self, true_and]
      exact ⟨by omega, j3⟩
    · cases h
end

/-- The two checks of an expression say the same. -/
theorem ok_expr (e : Ex) (size : Int) : e.ok size = (e.expr size 1 60).isSome := by
  cases h : e.expr size 1 60 with
  | some l =>
    obtain ⟨h1, h2, h3⟩ := e.tot_expr h
    have h4 := e.expr_le h
    simp only [Ex.ok, h1, Option.isSome_some, Bool.and_true, Bool.and_eq_true, decide_eq_true_eq]
    exact ⟨(e.nodes_le 60).2 (by omega), by omega⟩
  | none =>
    simp only [Option.isSome_none]
    cases hq : e.ok size with
    | false => rfl
    | true =>
      simp only [Ex.ok, Bool.and_eq_true, decide_eq_true_eq] at hq
      obtain ⟨⟨h1, h2⟩, h3⟩ := hq
      rw [e.expr_tot h3 ((e.nodes_le 60).1 h1) (by omega)] at h
      cases h
end Go.Ab

/- What the program's Value answers. -/
namespace Go.Ab
open Go

def hp29 (l : Int) (row : List AV) : HP := ⟨trOf [(0, .rows 64 [row]), (1, .rows 68 [[.int .i64 0, .int .i64 0]]), (2, .rows 33 [[.int .i64 0]]), (3, leftB l)], 4⟩
def hp29p : HP := ⟨trOf [(1, .rows 68 [[.int .i64 0, .int .i64 0]]), (2, .rows 33 [[.int .i64 0]])], 4⟩
def d29 : List (ADef ⊕ Nat) := [.inl ⟨.fn (.func 31) [] [], [.ptr 2 0 0]⟩]

theorem d29_low : lowD 4 d29 := by
  intro x hx
  rw [d29, List.mem_singleton] at hx
  subst hx
  refine ⟨_, rfl, ⟨31, [], [], rfl, fun _ h => (by cases h), fun _ h => (by cases h)⟩, fun v hv => ?_⟩
  rw [List.mem_singleton] at hv
  subst hv
  exact Low.ptr (by omega)

theorem trOf_mem {l : List (Nat × ABlk)} {b : Nat} {x : ABlk} (hl : (l.all fun x => decide (x.1 < 2 ^ 24)) = true) (h : (trOf l).get b = some x) : (b, x) ∈ l := by
  rcases trOf_get l .leaf b x (fun y hy => of_decide_eq_true (List.all_eq_true.1 hl y hy)) h with k | k
  · exact k
  · rw [show (Tr.leaf : Tr ABlk).get b = none from Tr.getD_leaf _ _] at k; cases k

/-- The tree behind the check of the expression. -/
noncomputable abbrev t29 (e : Ex) (env : List Vl) (te : Bool) (l : Int) : T := (tr 29 [.agg e.row, .ro (rowsV env) te]).aft (.ret (.tup [])) (hp29 l e.row)

theorem c29 (e : Ex) (env : List Vl) (te : Bool) (hlen : env.length ≤ 60) : ClosedCall SP 29 [.agg e.row, .ro (rowsV env) te] (.ret (resV (valueR e env))) := by
  obtain ⟨op, nn, kids, tt⟩ := e
  refine ClosedCall.of_tree (asks := noAsk) fit (by kernel_rfl) (by kernel_rfl) (resV_clo _) ?_
  have hl' : (rowsV env).length = env.length := by simp [rowsV]
  have hargs : (tr 29 [.agg (Ex.mk op nn kids tt).row, .ro (rowsV env) te]).args = [.agg (Ex.mk op nn kids tt).row, .int .i64 env.length, .int .i64 1, .ptr 3 0 0] := by rw [← hl']; kernel_rfl
  have h59 := c59 (Ex.mk op nn kids tt) env.length 1 60 (by omega) (by omega) (by omega) (by omega)
  have hok := ok_expr (Ex.mk op nn kids tt) env.length
  cases hq : (Ex.mk op nn kids tt).expr env.length 1 60 with
  | none =>
    rw [hq] at hok
    simp only [Option.isSome_none] at hok
    refine T.on_call (by kernel_rfl) (.pan flawA) hp29p (by kernel_rfl) hargs (h59.at (by kernel_rfl) (by kernel_rfl) (by kernel_rfl) (by rw [hq]) fun b' x hx => ?_) ?_
    · have := trOf_mem rfl hx
      simp only [List.mem_cons, List.not_mem_nil, or_false, Prod.mk.injEq] at this
      rcases this with ⟨rfl, rfl⟩ | ⟨rfl, rfl⟩
      · exact .inr ⟨by omega, of_decide_eq_true (by kernel_rfl), by kernel_rfl⟩
      · exact .inr ⟨by omega, of_decide_eq_true (by kernel_rfl), by kernel_rfl⟩
    · refine T.at_end (.ret (resV (⟨0, 0⟩, 2))) (by kernel_rfl) (by kernel_rfl) ?_
      simp [valueR, hok]
  | some l0 =>
    rw [hq] at hok
    simp only [Option.isSome_some] at hok
    refine T.on_call (by kernel_rfl) (.ret (.tup [])) (hp29 l0 (Ex.mk op nn kids tt).row) (by kernel_rfl) hargs (h59.at (by kernel_rfl) (by kernel_rfl) (by kernel_rfl) (by rw [hq]) fun b' x hx => ?_) ?_
    · have := trOf_mem rfl hx
      simp only [List.mem_cons, List.not_mem_nil, or_false, Prod.mk.injEq] at this
      rcases this with ⟨rfl, rfl⟩ | ⟨rfl, rfl⟩ | ⟨rfl, rfl⟩ | ⟨rfl, rfl⟩
      · exact .inr ⟨by omega, of_decide_eq_true (by kernel_rfl), by kernel_rfl⟩
      · exact .inr ⟨by omega, of_decide_eq_true (by kernel_rfl), by kernel_rfl⟩
      · exact .inr ⟨by omega, of_decide_eq_true (by kernel_rfl), by kernel_rfl⟩
      · exact .inl ⟨rfl, l0, hq, rfl⟩
    refine T.at_loop (by kernel_rfl) ?_
    let l : Int → List (Nat × AV) := fun i => [(0, .agg (Ex.mk op nn kids tt).row), (1, .ro (rowsV env) te), (2, .ptr 0 0 0), (4, .ptr 1 0 0), (5, .ptr 2 0 0), (13, .ro (rowsV env) te), (14, .int .i64 (rowsV env).length), (15, .int .i64 i)]
    let hl : List (Nat × ABlk) := [(0, .rows 64 [(Ex.mk op nn kids tt).row]), (1, .rows 68 [[.int .i64 0, .int .i64 0]]), (2, .rows 33 [[.int .i64 0]])]
    have anew : ∀ (s : ES) (i : Int) (R : AExit → ASt → Prop) (c : Code), decide (0 ≤ 4 ∧ 4 ≤ s.hp.n) = true → s.nt = 46 → s.d = d29 → s.u = none → s.t 0 = .agg (Ex.mk op nn kids tt).row → s.t 1 = .ro (rowsV env) te → s.t 2 = .ptr 0 0 0 → s.t 4 = .ptr 1 0 0 → s.t 5 = .ptr 2 0 0 →
        s.t 13 = .ro (rowsV env) te → s.t 14 = .int .i64 (rowsV env).length → s.t 15 = .int .i64 i →
        s.hp.tr.get 0 = some (.rows 64 [(Ex.mk op nn kids tt).row]) → s.hp.tr.get 1 = some (.rows 68 [[.int .i64 0, .int .i64 0]]) → s.hp.tr.get 2 = some (.rows 33 [[.int .i64 0]]) → LoopW SP 0 false c (mkES (l i) hl 4 46 d29).den R → LoopW SP 0 false c s.den R := fun s i R c h1 h2 h3 h4 g0 g1 g2 g4 g5 g13 g14 g15 b0 b1 b2 h =>
      ItemsW.tell h1 h2 h3 d29_low h4 (.cons (by decide) g0 ((Ex.agg_clo _).low 4) (.cons (by decide) g1 ((rowsV_clo _ _).low 4) (.cons (by decide) g2 (.ptr (by decide)) (.cons (by decide) g4 (.ptr (by decide)) (.cons (by decide) g5 (.ptr (by decide))
        (.cons (by decide) g13 ((rowsV_clo _ _).low 4) (.cons (by decide) g14 ((Clo.int _ _).low 4) (.cons (by decide) g15 ((Clo.int _ _).low 4) .nil))))))))
        (.cons (by decide) b0 (LowB.row1 (Ex.clo _)) (.cons (by decide) b1 (LowB.row1 (Clo.args2 (Clo.int _ _) (Clo.int _ _))) (.cons (by decide) b2 (LowB.row1 (Clo.args1 (Clo.int _ _))) .nil))) h
    have key : ∀ (suf pre : List Vl), env = pre ++ suf → (∀ v ∈ pre, v.fine = true) →
        LoopW SP 0 false (t29 (Ex.mk op nn kids tt) env te l0).code (mkES (l pre.length) hl 4 46 d29).den (To 29 (t29 (Ex.mk op nn kids tt) env te l0) (.ret (resV (valueR (Ex.mk op nn kids tt) env)))) := by
      intro suf
      induction suf with
      | nil =>
        intro pre hk hpre
        refine LoopW.tree (asks := noAsk) fit (by kernel_rfl) ?_
        have hle : (rowsV env).length = pre.length := by rw [hl', hk]; simp
        have hall : ∀ v ∈ env, v.fine = true := by rw [hk]; simpa using hpre
        refine T.on_br (decide ((pre.length : Int) < ((rowsV env).length : Int))) (by kernel_rfl) (by kernel_rfl) (fun h => ?_) (fun h => ?_)
        · simp [hle] at h
        · refine T.on_out (.exit 0) (by kernel_rfl) (by kernel_rfl) rfl (by kernel_rfl) ?_
          have hf : (Ex.mk op nn kids tt).formed env.length = true := by
            simp only [Ex.ok, Bool.and_eq_true] at hok; exact hok.2
          refine T.at_closed (f := 60) (args := [.agg (Ex.mk op nn kids tt).row, .ro (rowsV env) te]) (by kernel_rfl) (.ret (.agg ((Ex.mk op nn kids tt).value env).row)) (by kernel_rfl) (by kernel_rfl)
            (c60 _ _ _ hf hall) (Clo.args2 (Ex.agg_clo _) (rowsV_clo _ _)) (Vl.agg_clo _) ?_
          refine T.at_end (.ret (resV ((Ex.mk op nn kids tt).value env, 0))) (by kernel_rfl) (by kernel_rfl) ?_
          have : env.all Vl.fine = true := List.all_eq_true.2 hall
          simp [valueR, hok, this]
      | cons x suf ihs =>
        intro pre hk hpre
        refine LoopW.tree (asks := noAsk) fit (by kernel_rfl) ?_
        have hle : (rowsV env).length = pre.length + (suf.length + 1) := by rw [hl', hk]; simp
        have hle' : env.length = pre.length + (suf.length + 1) := by rw [← hl', hle]
        have hx : (rowsV env)[((pre.length : Nat) : Int).toNat]? = some x.row := by rw [hk]; exact getElem_midV _ _ _
        have hw3 : IntKind.i64.wrap ((pre.length : Int) + 1) = ((pre ++ [x]).length : Int) := by rw [wrap_id (by omega) (by omega)]; simp
        -- what is not fine is told at once
        have bad : ∀ t : T, x.fine = false → t.tag = 0 → t.exit = .panic flawA → ((t29 (Ex.mk op nn kids tt) env te l0).out (.panic flawA) t.st).tag = 0 →
            (endA SP (theFn SP 29) ((t29 (Ex.mk op nn kids tt) env te l0).out (.panic flawA) t.st).exit ((t29 (Ex.mk op nn kids tt) env te l0).out (.panic flawA) t.st).st).map Prod.fst = some (.ret (resV (⟨0, 0⟩, 2))) →
            t.Fine SP 0 false (RoundQ SP 0 false (t29 (Ex.mk op nn kids tt) env te l0).code (mkES (l pre.length) hl 4 46 d29) (To 29 (t29 (Ex.mk op nn kids tt) env te l0) (.ret (resV (valueR (Ex.mk op nn kids tt) env))))) := by
          intro t hb k1 k2 k3 k4
          refine T.on_out (.panic flawA) k1 k2 rfl (by kernel_rfl) ?_
          refine T.at_end _ k3 k4 ?_
          have : env.all Vl.fine = false := by rw [hk]; simp [hb]
          simp [valueR, this]
        have good : ∀ t : T, x.fine = true → t.tag = 0 → t.exit = .normal → decide (0 ≤ 4 ∧ 4 ≤ t.st.hp.n) = true → t.st.nt = 46 → t.st.d = d29 → t.st.u = none → t.st.t 0 = .agg (Ex.mk op nn kids tt).row → t.st.t 1 = .ro (rowsV env) te → t.st.t 2 = .ptr 0 0 0 → t.st.t 4 = .ptr 1 0 0 → t.st.t 5 = .ptr 2 0 0 →
            t.st.t 13 = .ro (rowsV env) te → t.st.t 14 = .int .i64 (rowsV env).length → t.st.t 15 = .int .i64 (IntKind.i64.wrap ((pre.length : Int) + 1)) →
            t.st.hp.tr.get 0 = some (.rows 64 [(Ex.mk op nn kids tt).row]) → t.st.hp.tr.get 1 = some (.rows 68 [[.int .i64 0, .int .i64 0]]) → t.st.hp.tr.get 2 = some (.rows 33 [[.int .i64 0]]) →
            t.Fine SP 0 false (RoundQ SP 0 false (t29 (Ex.mk op nn kids tt) env te l0).code (mkES (l pre.length) hl 4 46 d29) (To 29 (t29 (Ex.mk op nn kids tt) env te l0) (.ret (resV (valueR (Ex.mk op nn kids tt) env))))) := by
          intro t hb k1 k2 h1 h2 h3 h4 g0 g1 g2 g4 g5 g13 g14 g15 b0 b1 b2
          refine T.on_next k1 k2 ?_
          exact anew _ ((pre ++ [x]).length : Int) _ _ h1 h2 h3 h4 g0 g1 g2 g4 g5 g13 g14 (by rw [← hw3]; exact g15) b0 b1 b2 (ihs (pre ++ [x]) (by rw [hk]; simp) (by
            intro v hv
            rcases List.mem_append.1 hv with h0 | h0
            · exact hpre v h0
            · rw [List.mem_singleton] at h0; rw [h0]; exact hb))
        refine T.on_br (decide ((pre.length : Int) < ((rowsV env).length : Int))) (by kernel_rfl) (by kernel_rfl) (fun h => ?_) (fun h => ?_)
        · refine T.on_idx (rows := rowsV env) (i := pre.length) (by kernel_rfl) (by kernel_rfl) (by kernel_rfl) x.row (by omega) hx (by kernel_rfl) ?_
          refine T.on_br (decide (x.k ≥ 1)) (by kernel_rfl) (by kernel_rfl) (fun q => ?_) (fun q => ?_)
          · simp at q
            refine T.at_want (decide (x.k ≤ 4)) (by kernel_rfl) (by kernel_rfl) (by kernel_rfl) (fun q2 => ?_) (fun q2 => ?_)
            · simp at q2
              refine T.on_br (x.k != 1) (by kernel_rfl) (by kernel_rfl) (fun q3 => ?_) (fun q3 => ?_)
              · simp only [bne_iff_ne, ne_eq] at q3
                refine T.at_want true (by kernel_rfl) (by kernel_rfl) (by kernel_rfl) (fun _ => ?_) (fun q4 => by cases q4)
                exact good _ (by simp [Vl.fine]; omega) (by kernel_rfl) (by kernel_rfl) (by kernel_rfl) (by kernel_rfl) (by kernel_rfl) (by kernel_rfl) (by kernel_rfl) (by kernel_rfl) (by kernel_rfl) (by kernel_rfl) (by kernel_rfl) (by kernel_rfl) (by kernel_rfl) (by kernel_rfl) (by kernel_rfl) (by kernel_rfl) (by kernel_rfl)
              · simp only [bne_eq_false_iff_eq] at q3
                refine T.on_br (decide (x.n ≥ -1000000000)) (by kernel_rfl) (by kernel_rfl) (fun q4 => ?_) (fun q4 => ?_)
                · simp at q4
                  refine T.at_want (decide (x.n ≤ 1000000000)) (by kernel_rfl) (by kernel_rfl) (by kernel_rfl) (fun q5 => ?_) (fun q5 => ?_)
                  · simp at q5
                    exact good _ (by simp [Vl.fine]; omega) (by kernel_rfl) (by kernel_rfl) (by kernel_rfl) (by kernel_rfl) (by kernel_rfl) (by kernel_rfl) (by kernel_rfl) (by kernel_rfl) (by kernel_rfl) (by kernel_rfl) (by kernel_rfl) (by kernel_rfl) (by kernel_rfl) (by kernel_rfl) (by kernel_rfl) (by kernel_rfl) (by kernel_rfl)
                  · simp at q5
                    exact bad _ (by simp [Vl.fine, q3]; omega) (by kernel_rfl) (by kernel_rfl) (by kernel_rfl) (by kernel_rfl)
                · simp at q4
                  refine T.at_want false (by kernel_rfl) (by kernel_rfl) (by kernel_rfl) (fun q5 => by cases q5) (fun _ => ?_)
                  exact bad _ (by simp [Vl.fine, q3]; omega) (by kernel_rfl) (by kernel_rfl) (by kernel_rfl) (by kernel_rfl)
            · simp at q2
              exact bad _ (by simp [Vl.fine]; omega) (by kernel_rfl) (by kernel_rfl) (by kernel_rfl) (by kernel_rfl)
          · simp at q
            refine T.at_want false (by kernel_rfl) (by kernel_rfl) (by kernel_rfl) (fun q5 => by cases q5) (fun _ => ?_)
            exact bad _ (by simp [Vl.fine]; omega) (by kernel_rfl) (by kernel_rfl) (by kernel_rfl) (by kernel_rfl)
        · simp [hle] at h
          omega
    exact anew _ 0 _ _ (by kernel_rfl) (by kernel_rfl) (by kernel_rfl) (by kernel_rfl) (by kernel_rfl) (by kernel_rfl) (by kernel_rfl) (by kernel_rfl) (by kernel_rfl) (by kernel_rfl) (by kernel_rfl) (by kernel_rfl) (by kernel_rfl) (by kernel_rfl) (by kernel_rfl) (key env [] rfl (by simp))
end Go.Ab
