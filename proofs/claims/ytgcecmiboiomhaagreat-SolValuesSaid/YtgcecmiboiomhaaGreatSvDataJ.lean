/- Expressions and values of layer 6 as plain data, and what is asked of them. -/
import Derived.Test.YtgcecmiboiomhaaGreatAbA8
namespace Go.Ab
open Go

structure Vl where
  k : Int
  n : Int

def Vl.row (v : Vl) : List AV := [.int .i64 v.k, .int .i64 v.n]

inductive Ex where
  | mk (op n : Int) (kids : List Ex) (t : Bool)

mutual
def Ex.row : Ex → List AV
  | .mk op n kids t => [.int .i64 op, .int .i64 n, .ro (rowsE kids) t]
def rowsE : List Ex → List (List AV)
  | [] => []
  | e :: es => e.row :: rowsE es
end

theorem rowsE_map : ∀ es, rowsE es = es.map Ex.row
  | [] => rfl
  | e :: es => by simp [rowsE, rowsE_map es]

theorem rowsE_length (es : List Ex) : (rowsE es).length = es.length := by rw [rowsE_map, List.length_map]

mutual
theorem Ex.ind {p : Ex → Prop} (h : ∀ op n (kids : List Ex) t, (∀ e ∈ kids, p e) → p (.mk op n kids t)) : ∀ e, p e
  | .mk op n kids t => h op n kids t (Ex.indL h kids)
theorem Ex.indL {p : Ex → Prop} (h : ∀ op n (kids : List Ex) t, (∀ e ∈ kids, p e) → p (.mk op n kids t)) : ∀ (es : List Ex), ∀ e ∈ es, p e
  | [], _, he => by simp at he
  | x :: xs, e, he => by
    rcases List.mem_cons.1 he with h0 | h0
    · rw [h0]; exact Ex.ind h x
    · exact Ex.indL h xs e h0
end

theorem Vl.clo (v : Vl) : ∀ x ∈ v.row, Clo x := by
  intro x hx
  simp only [Vl.row, List.mem_cons, List.not_mem_nil, or_false] at hx
  rcases hx with rfl | rfl <;> exact Clo.int _ _

theorem Ex.clo (e : Ex) : ∀ x ∈ e.row, Clo x := by
  induction e using Ex.ind with
  | h op n kids t ih =>
    intro x hx
    simp only [Ex.row, List.mem_cons, List.not_mem_nil, or_false] at hx
    rcases hx with rfl | rfl | rfl
    · exact Clo.int _ _
    · exact Clo.int _ _
    · refine Clo.ro fun r hr y hy => ?_
      rw [rowsE_map, List.mem_map] at hr
      obtain ⟨e, he, rfl⟩ := hr
      exact ih e he y hy

/-! ### Sizes and depths -/
mutual
def Ex.nodes : Ex → Int → Int
  | .mk _ _ kids _, most => nodesL kids most 1
def nodesL : List Ex → Int → Int → Int
  | [], _, n => n
  | e :: es, most, n => if n ≤ most then nodesL es most (n + e.nodes (most - n)) else n
end

mutual
def Ex.tot : Ex → Int
  | .mk _ _ kids _ => totL kids + 1
def totL : List Ex → Int
  | [] => 0
  | e :: es => e.tot + totL es
end

mutual
def Ex.depth : Ex → Int
  | .mk _ _ kids _ => depthL kids 0 + 1
def depthL : List Ex → Int → Int
  | [], d => d
  | e :: es, d => depthL es (if e.depth > d then e.depth else d)
end

/-! ### Formed -/
mutual
def Ex.formed : Ex → Int → Bool
  | .mk op n kids _, size =>
    if op = 1 then kids.isEmpty && decide (-1000000000 ≤ n) && decide (n ≤ 1000000000)
    else if op = 2 then kids.isEmpty && decide (0 ≤ n) && decide (n < size)
    else decide (3 ≤ op) && decide (op ≤ 7) && decide (kids.length = 2) && decide (n = 0) && formedL kids size
def formedL : List Ex → Int → Bool
  | [], _ => true
  | e :: es, size => e.formed size && formedL es size
end

/-! ### Values -/
def clampI (n : Int) : Int := min (max n (-1000000000)) 1000000000
def Vl.num (v : Vl) : Int := if v.k = 1 then v.n else 0

def arith (op a b : Int) : Int :=
  if op = 3 then a + b else if op = 4 then a - b else if op = 5 then a * b else if op = 6 then (if a < b then 1 else 0) else if op = 7 then (if a = b then 1 else 0) else 0

mutual
def Ex.value : Ex → List Vl → Vl
  | .mk op n kids _, env =>
    if op = 1 then ⟨1, n⟩ else if op = 2 then env.getD n.toNat ⟨0, 0⟩ else
    ⟨1, clampI (arith op ((valuesL kids env).getD 0 ⟨0, 0⟩).num ((valuesL kids env).getD 1 ⟨0, 0⟩).num)⟩
def valuesL : List Ex → List Vl → List Vl
  | [], _ => []
  | e :: es, env => e.value env :: valuesL es env
end

def Vl.fine (v : Vl) : Bool := decide (1 ≤ v.k) && decide (v.k ≤ 4) && (decide (v.k ≠ 1) || (decide (-1000000000 ≤ v.n) && decide (v.n ≤ 1000000000)))

/-! ### Plain facts -/
mutual
theorem Ex.tot_pos : ∀ e : Ex, 1 ≤ e.tot
  | .mk _ _ kids _ => by unfold Ex.tot; have := totL_nonneg kids; omega
theorem totL_nonneg : ∀ es : List Ex, 0 ≤ totL es
  | [] => by simp [totL]
  | e :: es => by unfold totL; have := e.tot_pos; have := totL_nonneg es; omega
end

mutual
theorem Ex.nodes_spec : ∀ (e : Ex) (most : Int), 1 ≤ e.nodes most ∧ (0 ≤ most → e.nodes most ≤ most + 1) ∧ (e.tot ≤ most → e.nodes most = e.tot) ∧ (most < e.tot → most < e.nodes most)
  | .mk _ _ kids _, most => by
    have := nodesL_spec kids most 1 (by omega)
    unfold Ex.nodes Ex.tot
    refine ⟨by omega, fun h => this.2.1 (by omega), fun h => by rw [this.2.2.1 (by omega)]; omega, fun h => this.2.2.2 (by omega)⟩
theorem nodesL_spec : ∀ (es : List Ex) (most n : Int), 1 ≤ n → n ≤ nodesL es most n ∧ (n ≤ most + 1 → nodesL es most n ≤ most + 1) ∧ (n + totL es ≤ most → nodesL es most n = n + totL es) ∧ (most < n + totL es → most < nodesL es most n)
  | [], most, n, h => by unfold nodesL totL; omega
  | e :: es, most, n, h => by
    unfold nodesL totL
    have h1 := e.nodes_spec (most - n)
    have h2 := nodesL_spec es most (n + e.nodes (most - n)) (by omega)
    have h3 := e.tot_pos
    have h4 := totL_nonneg es
    split
    · refine ⟨by omega, fun h => h2.2.1 (by omega), fun h => ?_, fun h => ?_⟩
      · rw [h2.2.2.1 (by have := h1.2.2.1 (by omega); omega), h1.2.2.1 (by omega)]; omega
      · by_cases hc : e.tot ≤ most - n
        · exact h2.2.2.2 (by have := h1.2.2.1 hc; omega)
        · have := h1.2.2.2 (by omega)
          omega
    · refine ⟨by omega, fun h => by omega, fun h => by omega, fun h => by omega⟩
end

theorem Ex.nodes_le (e : Ex) (most : Int) : e.nodes most ≤ most ↔ e.tot ≤ most := by
  have h := e.nodes_spec most
  constructor
  · intro h1
    by_cases hc : e.tot ≤ most
    · exact hc
    · have := h.2.2.2 (by omega); omega
  · intro h1
    rw [h.2.2.1 h1]; exact h1

theorem totL_length : ∀ es : List Ex, (es.length : Int) ≤ totL es
  | [] => by simp [totL]
  | e :: es => by
    have h1 := totL_length es
    have h2 := e.tot_pos
    simp only [List.length_cons, totL]
    omega

theorem tot_mem : ∀ {es : List Ex} {e : Ex}, e ∈ es → e.tot ≤ totL es
  | x :: xs, e, h => by
    have h1 := x.tot_pos
    have h2 := totL_nonneg xs
    unfold totL
    rcases List.mem_cons.1 h with h0 | h0
    · rw [h0]; omega
    · have := tot_mem h0; omega

mutual
theorem Ex.depth_le : ∀ e : Ex, 1 ≤ e.depth ∧ e.depth ≤ e.tot
  | .mk _ _ kids _ => by
    have := depthL_le kids 0 (by omega)
    unfold Ex.depth Ex.tot
    omega
theorem depthL_le : ∀ (es : List Ex) (d : Int), 0 ≤ d → d ≤ depthL es d ∧ depthL es d ≤ d + totL es
  | [], d, h => by simp [depthL, totL]
  | e :: es, d, h => by
    have h1 := e.depth_le
    have h2 := totL_nonneg es
    unfold depthL totL
    split
    · have := depthL_le es e.depth (by omega)
      omega
    · have := depthL_le es d h
      omega
end

theorem clampI_fine (n : Int) : -1000000000 ≤ clampI n ∧ clampI n ≤ 1000000000 := by unfold clampI; omega
theorem clampI_id {n : Int} : n = clampI n ↔ -1000000000 ≤ n ∧ n ≤ 1000000000 := by unfold clampI; omega

theorem valuesL_map : ∀ (es : List Ex) (env : List Vl), valuesL es env = es.map (·.value env)
  | [], _ => rfl
  | e :: es, env => by simp [valuesL, valuesL_map es]

/-- Numbers stay in range. -/
theorem value_num {e : Ex} {env : List Vl} (hf : e.formed env.length = true) (he : ∀ v ∈ env, v.fine = true) : -1000000000 ≤ (e.value env).num ∧ (e.value env).num ≤ 1000000000 := by
  obtain ⟨op, n, kids, t⟩ := e
  unfold Ex.formed at hf
  unfold Ex.value
  split at hf
  · rename_i h1
    rw [if_pos h1]
    simp only [Bool.and_eq_true, decide_eq_true_eq] at hf
    simp only [Vl.num, if_true]
    omega
  · rename_i h1
    rw [if_neg h1]
    split at hf
    · rename_i h2
      rw [if_pos h2]
      simp only [Bool.and_eq_true, decide_eq_true_eq] at hf
      have hlt : n.toNat < env.length := by omega
      have hv := he (env.getD n.toNat ⟨0, 0⟩) (by rw [List.getD_eq_getElem?_getD, List.getElem?_eq_getElem hlt]; simp)
      simp only [Vl.fine, Bool.and_eq_true, Bool.or_eq_true, decide_eq_true_eq] at hv
      simp only [Vl.num]
      split
      · omega
      · omega
    · rename_i h2
      rw [if_neg h2]
      simp only [Vl.num, if_true]
      exact clampI_fine _

theorem wrap_id {n : Int} (h : -9223372036854775808 ≤ n) (h' : n < 9223372036854775808) : IntKind.i64.wrap n = n := by
  have : IntKind.i64.wrap n = if n % 18446744073709551616 ≥ 9223372036854775808 then n % 18446744073709551616 - 18446744073709551616 else n % 18446744073709551616 := by
    simp [IntKind.wrap, IntKind.bits, IntKind.signed]
  rw [this]
  split <;> omega

end Go.Ab

