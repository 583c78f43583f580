/- The law on values: its walk. -/
import Derived.Test.YtgcecmiboiomhaaGreatSvRef2J
import Derived.Test.YtgcecmiboiomhaaGreatSvKnown
import Derived.Test.YtgcecmiboiomhaaGreatAbA8
namespace Go.Ab
open Go

section
variable {H : Type}

theorem da68 {d : DataW H} {xs : List AV} (h : DA SP 68 d xs) : ∃ v : Vl, xs = v.row := by
  obtain ⟨rows, rfl, hr⟩ := h.struct_inv (ts := [66, 3]) (by kernel_rfl)
  match rows, hr with
  | [a, b], ⟨⟨_, h1⟩, ⟨_, h2⟩, _⟩ =>
    obtain ⟨k, rfl, _⟩ := h1.int_inv (k := .i64) (by kernel_rfl)
    obtain ⟨n, rfl, _⟩ := h2.int_inv (k := .i64) (by kernel_rfl)
    exact ⟨⟨k, n⟩, rfl⟩

theorem da65 {d : DataW H} {xs : List AV} (h : DA SP 65 d xs) : ∃ (env : List Vl) (t : Bool), xs = [.ro (rowsV env) t] := by
  obtain ⟨rows, t, rfl, _, _, hr⟩ := h.slice_inv (e := 68) (by kernel_rfl) (by kernel_rfl)
  obtain ⟨l, rfl⟩ := rows_of (f := Vl.row) fun r h => by
    obtain ⟨d', hd⟩ := hr r h
    exact da68 hd
  exact ⟨l, t, rfl⟩

theorem da64n : ∀ (n : Nat) (d : DataW H) (xs : List AV), SizeOf.sizeOf xs < n → DA SP 64 d xs → ∃ e : Ex, xs = e.row
  | 0, _, _, hn, _ => by omega
  | n + 1, d, xs, hn, h => by
    obtain ⟨rows, rfl, hr⟩ := h.struct_inv (ts := [61, 3, 62]) (by kernel_rfl)
    match rows, hr with
    | [a, b, c], ⟨⟨_, h1⟩, ⟨_, h2⟩, ⟨_, h3⟩, _⟩ =>
      obtain ⟨op, rfl, _⟩ := h1.int_inv (k := .i64) (by kernel_rfl)
      obtain ⟨m, rfl, _⟩ := h2.int_inv (k := .i64) (by kernel_rfl)
      obtain ⟨rows, t, rfl, _, _, hr⟩ := h3.slice_inv (e := 64) (by kernel_rfl) (by kernel_rfl)
      obtain ⟨l, rfl⟩ := rows_of (f := Ex.row) fun r h => by
        obtain ⟨d', hd⟩ := hr r h
        refine da64n n d' r ?_ hd
        have h4 := List.sizeOf_lt_of_mem h
        simp at hn
        omega
      exact ⟨.mk op m l t, by simp [Ex.row, rowsE_map]⟩

theorem da64 {d : DataW H} {xs : List AV} (h : DA SP 64 d xs) : ∃ e : Ex, xs = e.row := da64n _ d xs (Nat.lt_succ_self _) h
end

theorem c8 (e : Ex) (env : List Vl) (te : Bool) : ClosedCall SP 8 [.agg e.row, .ro (rowsV env) te] (.ret (.bool true)) := by
  obtain ⟨op, nn, kids, tt⟩ := e
  refine ClosedCall.of_tree (asks := noAsk) fit (by kernel_rfl) (by kernel_rfl) (Clo.bool _) ?_
  have hl' : (rowsV env).length = env.length := by simp [rowsV]
  refine T.on_br (decide (((rowsV env).length : Int) > 60)) (by kernel_rfl) (by kernel_rfl) (fun h => ?_) (fun h => ?_)
  · refine T.at_closed (f := 14) (args := []) (by kernel_rfl) (.ret (.bool true)) (by kernel_rfl) (by kernel_rfl) c14 (fun _ h => by cases h) (Clo.bool _) ?_
    exact T.at_end (.ret (.bool true)) (by kernel_rfl) (by kernel_rfl) rfl
  rw [hl'] at h
  simp at h
  replace h : env.length ≤ 60 := by omega
  generalize hr : valueR (Ex.mk op nn kids tt) env = r
  obtain ⟨⟨vk, vn⟩, er⟩ := r
  have h28 := c28 (Ex.mk op nn kids tt) env te h
  have h29 := c29 (Ex.mk op nn kids tt) env te h
  rw [hr] at h28 h29
  refine T.at_closed (f := 28) (args := [.agg (Ex.mk op nn kids tt).row, .ro (rowsV env) te]) (by kernel_rfl) (.ret (resV (⟨vk, vn⟩, er))) (by kernel_rfl) (by kernel_rfl) h28 (Clo.args2 (Ex.agg_clo _) (rowsV_clo _ _)) (resV_clo _) ?_
  refine T.at_closed (f := 29) (args := [.agg (Ex.mk op nn kids tt).row, .ro (rowsV env) te]) (by kernel_rfl) (.ret (resV (⟨vk, vn⟩, er))) (by kernel_rfl) (by kernel_rfl) h29 (Clo.args2 (Ex.agg_clo _) (rowsV_clo _ _)) (resV_clo _) ?_
  refine T.on_br (vk == vk && (vn == vn && true)) (by kernel_rfl) (by kernel_rfl) (fun h1 => ?_) (fun h1 => ?_)
  · refine T.on_br (er == er) (by kernel_rfl) (by kernel_rfl) (fun h2 => ?_) (fun h2 => ?_)
    · refine T.at_closed (f := 14) (args := []) (by kernel_rfl) (.ret (.bool true)) (by kernel_rfl) (by kernel_rfl) c14 (fun _ h => by cases h) (Clo.bool _) ?_
      exact T.at_end (.ret (.bool true)) (by kernel_rfl) (by kernel_rfl) rfl
    · simp at h2
  · simp at h1
end Go.Ab

