/- What the document's functions on expressions answer. -/
import Derived.Test.YtgcecmiboiomhaaGreatSvDataJ
import Derived.Test.YtgcecmiboiomhaaGreatChecked
import Derived.KernelRfl
namespace Go.Ab
open Go

noncomputable abbrev SP : Program := Go.Proofs.Tryz.prog

theorem fit : Fit SP where
  depth := of_decide_eq_true (show decide (20 ≤ SP.depth) = true by kernel_rfl)
  names := by
    have h : (SP.funcs.toList.all fun fn => !(fn.name == "runtime.NumGoroutine")) = true := by kernel_rfl
    intro f fn hf he
    have := List.all_eq_true.1 h fn (List.mem_iff_getElem?.2 ⟨f, by simpa using hf⟩)
    rw [he] at this
    simp at this
  mixed := by kernel_rfl

/-- The tree of a call that no block is told of. -/
noncomputable abbrev tr (f : FuncId) (args : List AV) : T := treeOf SP noAsk f args hp0
/-- Where a loop of a call ends, so that the call ends as told. -/
abbrev To (f : FuncId) (t : T) (ae : AEnd) : AExit → ASt → Prop := LoopTo SP 0 false (EndIs SP (theFn SP f) ae) t

theorem c97 (v : Vl) : ClosedCall SP 97 [.agg v.row] (.ret (.int .i64 v.num)) := by
  refine ClosedCall.of_tree (asks := noAsk) fit (by kernel_rfl) (by kernel_rfl) (Clo.int _ _) ?_
  refine T.on_br (v.k != 1) (by kernel_rfl) (by kernel_rfl) (fun h => ?_) (fun h => ?_)
  · exact T.at_end (.ret (.int .i64 0)) (by kernel_rfl) (by kernel_rfl) (by simp at h; simp [Vl.num, h])
  · exact T.at_end (.ret (.int .i64 v.n)) (by kernel_rfl) (by kernel_rfl) (by simp at h; simp [Vl.num, h])

theorem c57 (n : Int) : ClosedCall SP 57 [.int .i64 n] (.ret (.int .i64 (clampI n))) := by
  refine ClosedCall.of_tree (asks := noAsk) fit (by kernel_rfl) (by kernel_rfl) (Clo.int _ _) ?_
  refine T.at_end (.ret (.int .i64 (if 1000000000 < (if -1000000000 > n then -1000000000 else n) then 1000000000 else (if -1000000000 > n then -1000000000 else n)))) (by kernel_rfl) (by kernel_rfl) ?_
  congr 2
  unfold clampI
  split <;> split <;> omega

theorem getElem_mid {α β : Type} (f : α → β) (pre : List α) (x : α) (suf : List α) : ((pre ++ x :: suf).map f)[((pre.length : Nat) : Int).toNat]? = some (f x) := by simp

theorem Clo.args1 {a : AV} (h : Clo a) : ∀ x ∈ [a], Clo x := fun x hx => by rw [List.mem_singleton] at hx; subst hx; exact h
theorem Clo.args2 {a b : AV} (h : Clo a) (h' : Clo b) : ∀ x ∈ [a, b], Clo x := fun x hx => by
  rcases List.mem_cons.1 hx with rfl | hx
  · exact h
  · rw [List.mem_singleton] at hx; subst hx; exact h'

theorem LowB.row1 {m : Nat} {t : TypeId} {r : List AV} (h : ∀ x ∈ r, Clo x) : LowB m (.rows t [r]) := LowB.rows fun r' hr x hx => by
  rw [List.mem_singleton] at hr; subst hr; exact (h x hx).low m

theorem c94 (e : Ex) : ∀ most : Int, 0 ≤ most → most ≤ 60 → ClosedCall SP 94 [.agg e.row, .int .i64 most] (.ret (.int .i64 (e.nodes most))) := by
  induction e using Ex.ind with
  | h op nn kids tt ih =>
    intro most hm0 hm
    refine ClosedCall.of_tree (asks := noAsk) fit (by kernel_rfl) (by kernel_rfl) (Clo.int _ _) ?_
    refine T.at_loop (by kernel_rfl) ?_
    have hclo := (Ex.mk op nn kids tt).clo
    have hagg : Low 1 (.agg (Ex.mk op nn kids tt).row) := (Clo.agg hclo).low 1
    let l : Int → Int → List (Nat × AV) := fun n i => [(0, .agg (Ex.mk op nn kids tt).row), (1, .int .i64 most), (2, .ptr 0 0 0), (5, .int .i64 n), (6, .int .i64 i)]
    let hl : List (Nat × ABlk) := [(0, .rows 64 [(Ex.mk op nn kids tt).row])]
    have anew : ∀ (s : ES) (n i : Int) (R : AExit → ASt → Prop) (c : Code), decide (0 ≤ 1 ∧ 1 ≤ s.hp.n) = true → s.nt = 31 → s.d = [] → s.u = none → s.t 0 = .agg (Ex.mk op nn kids tt).row → s.t 1 = .int .i64 most → s.t 2 = .ptr 0 0 0 → s.t 5 = .int .i64 n → s.t 6 = .int .i64 i →
        s.hp.tr.get 0 = some (.rows 64 [(Ex.mk op nn kids tt).row]) → LoopW SP 0 false c (mkES (l n i) hl 1 31 []).den R → LoopW SP 0 false c s.den R := fun s n i R c h1 h2 h3 h4 g0 g1 g2 g5 g6 b0 h =>
      ItemsW.tell h1 h2 h3 lowD_nil h4 (.cons (by decide) g0 hagg (.cons (by decide) g1 ((Clo.int _ _).low 1) (.cons (by decide) g2 (.ptr (by decide)) (.cons (by decide) g5 ((Clo.int _ _).low 1) (.cons (by decide) g6 ((Clo.int _ _).low 1) .nil))))) (.cons (by decide) b0 (LowB.row1 hclo) .nil) h
    have key : ∀ (suf pre : List Ex) (n : Int), kids = pre ++ suf → (pre.length : Int) + 1 ≤ n → n ≤ most + 1 → nodesL suf most n = (Ex.mk op nn kids tt).nodes most →
        LoopW SP 0 false (tr 94 [.agg (Ex.mk op nn kids tt).row, .int .i64 most]).code (mkES (l n pre.length) hl 1 31 []).den (To 94 (tr 94 [.agg (Ex.mk op nn kids tt).row, .int .i64 most]) (.ret (.int .i64 ((Ex.mk op nn kids tt).nodes most)))) := by
      intro suf
      induction suf with
      | nil =>
        intro pre n hk h1 h2 h3
        refine LoopW.tree (asks := noAsk) fit (by kernel_rfl) ?_
        have hlen : (rowsE kids).length = pre.length := by rw [rowsE_length, hk]; simp
        refine T.on_br (decide ((pre.length : Int) < ((rowsE kids).length : Int))) (by kernel_rfl) (by kernel_rfl) (fun h => ?_) (fun h => ?_)
        · simp [hlen] at h
        · refine T.on_out (.exit 0) (by kernel_rfl) (by kernel_rfl) rfl (by kernel_rfl) ?_
          exact T.at_end (.ret (.int .i64 n)) (by kernel_rfl) (by kernel_rfl) (by rw [← h3]; rfl)
      | cons x suf ihs =>
        intro pre n hk h1 h2 h3
        refine LoopW.tree (asks := noAsk) fit (by kernel_rfl) ?_
        have hlen : (rowsE kids).length = pre.length + (suf.length + 1) := by rw [rowsE_length, hk]; simp
        refine T.on_br (decide ((pre.length : Int) < ((rowsE kids).length : Int))) (by kernel_rfl) (by kernel_rfl) (fun h => ?_) (fun h => ?_)
        · refine T.on_br (decide (n ≤ most)) (by kernel_rfl) (by kernel_rfl) (fun h' => ?_) (fun h' => ?_)
          · have hle : n ≤ most := by simpa using h'
            have hw : IntKind.i64.wrap (most - n) = most - n := wrap_id (by omega) (by omega)
            have hx := x.nodes_spec (most - n)
            obtain ⟨op', n', kids', t'⟩ := x
            refine T.on_idx (rows := rowsE kids) (i := pre.length) (by kernel_rfl) (by kernel_rfl) (by kernel_rfl) (Ex.mk op' n' kids' t').row (by omega) (by rw [rowsE_map, hk]; exact getElem_mid _ _ _ _) (by kernel_rfl) ?_
            refine T.at_closed (f := 94) (args := [.agg (Ex.mk op' n' kids' t').row, .int .i64 (most - n)]) (by kernel_rfl) (.ret (.int .i64 ((Ex.mk op' n' kids' t').nodes (most - n)))) (by kernel_rfl) (by rw [← hw]; kernel_rfl)
              (ih _ (by rw [hk]; simp) (most - n) (by omega) (by omega)) (Clo.args2 (Clo.agg (Ex.clo _)) (Clo.int _ _)) (Clo.int _ _) ?_
            have hw2 : IntKind.i64.wrap (n + (Ex.mk op' n' kids' t').nodes (most - n)) = n + (Ex.mk op' n' kids' t').nodes (most - n) := wrap_id (by omega) (by omega)
            have hw3 : IntKind.i64.wrap ((pre.length : Int) + 1) = ((pre ++ [Ex.mk op' n' kids' t']).length : Int) := by rw [wrap_id (by omega) (by omega)]; simp
            refine T.on_next (by kernel_rfl) (by kernel_rfl) ?_
            refine anew _ (n + (Ex.mk op' n' kids' t').nodes (most - n)) ((pre ++ [Ex.mk op' n' kids' t']).length : Int) _ _ (by kernel_rfl) (by kernel_rfl) (by kernel_rfl) (by kernel_rfl) (by kernel_rfl) (by kernel_rfl) (by kernel_rfl)
              (by rw [← hw2]; kernel_rfl) (by rw [← hw3]; kernel_rfl) (by kernel_rfl) ?_
            refine ihs _ _ (by rw [hk]; simp) (by simp; omega) (by omega) ?_
            rw [← h3]
            conv => rhs; unfold nodesL
            rw [if_pos hle]
          · refine T.on_out (.exit 0) (by kernel_rfl) (by kernel_rfl) rfl (by kernel_rfl) ?_
            refine T.at_end (.ret (.int .i64 n)) (by kernel_rfl) (by kernel_rfl) ?_
            have hle : ¬ n ≤ most := by simpa using h'
            rw [← h3]
            unfold nodesL
            rw [if_neg hle]
        · simp [hlen] at h
          omega
    exact anew _ 1 0 _ _ (by kernel_rfl) (by kernel_rfl) (by kernel_rfl) (by kernel_rfl) (by kernel_rfl) (by kernel_rfl) (by kernel_rfl) (by kernel_rfl) (by kernel_rfl) (by kernel_rfl) (key kids [] 1 rfl (by simp) (by omega) rfl)

theorem c95 (e : Ex) : e.tot ≤ 60 → ClosedCall SP 95 [.agg e.row] (.ret (.int .i64 e.depth)) := by
  induction e using Ex.ind with
  | h op nn kids tt ih =>
    intro htot
    refine ClosedCall.of_tree (asks := noAsk) fit (by kernel_rfl) (by kernel_rfl) (Clo.int _ _) ?_
    refine T.at_loop (by kernel_rfl) ?_
    have hclo := (Ex.mk op nn kids tt).clo
    have hagg : Low 1 (.agg (Ex.mk op nn kids tt).row) := (Clo.agg hclo).low 1
    have htotL : totL kids + 1 ≤ 60 := by unfold Ex.tot at htot; exact htot
    have hkl := totL_length kids
    let l : Int → Int → List (Nat × AV) := fun d i => [(0, .agg (Ex.mk op nn kids tt).row), (1, .ptr 0 0 0), (3, .int .i64 d), (4, .int .i64 i)]
    let hl : List (Nat × ABlk) := [(0, .rows 64 [(Ex.mk op nn kids tt).row])]
    have anew : ∀ (s : ES) (n i : Int) (R : AExit → ASt → Prop) (c : Code), decide (0 ≤ 1 ∧ 1 ≤ s.hp.n) = true → s.nt = 22 → s.d = [] → s.u = none → s.t 0 = .agg (Ex.mk op nn kids tt).row → s.t 1 = .ptr 0 0 0 → s.t 3 = .int .i64 n → s.t 4 = .int .i64 i →
        s.hp.tr.get 0 = some (.rows 64 [(Ex.mk op nn kids tt).row]) → LoopW SP 0 false c (mkES (l n i) hl 1 22 []).den R → LoopW SP 0 false c s.den R := fun s n i R c h1 h2 h3 h4 g0 g2 g5 g6 b0 h =>
      ItemsW.tell h1 h2 h3 lowD_nil h4 (.cons (by decide) g0 hagg (.cons (by decide) g2 (.ptr (by decide)) (.cons (by decide) g5 ((Clo.int _ _).low 1) (.cons (by decide) g6 ((Clo.int _ _).low 1) .nil)))) (.cons (by decide) b0 (LowB.row1 hclo) .nil) h
    have key : ∀ (suf pre : List Ex) (d : Int), kids = pre ++ suf → 0 ≤ d → d ≤ 1000 → depthL suf d + 1 = (Ex.mk op nn kids tt).depth →
        LoopW SP 0 false (tr 95 [.agg (Ex.mk op nn kids tt).row]).code (mkES (l d pre.length) hl 1 22 []).den (To 95 (tr 95 [.agg (Ex.mk op nn kids tt).row]) (.ret (.int .i64 (Ex.mk op nn kids tt).depth))) := by
      intro suf
      induction suf with
      | nil =>
        intro pre d hk h1 h2 h3
        refine LoopW.tree (asks := noAsk) fit (by kernel_rfl) ?_
        have hlen : (rowsE kids).length = pre.length := by rw [rowsE_length, hk]; simp
        refine T.on_br (decide ((pre.length : Int) < ((rowsE kids).length : Int))) (by kernel_rfl) (by kernel_rfl) (fun h => ?_) (fun h => ?_)
        · simp [hlen] at h
        · refine T.on_out (.exit 0) (by kernel_rfl) (by kernel_rfl) rfl (by kernel_rfl) ?_
          exact T.at_end (.ret (.int .i64 (IntKind.i64.wrap (d + 1)))) (by kernel_rfl) (by kernel_rfl) (by rw [← h3, wrap_id (by omega) (by omega)]; rfl)
      | cons x suf ihs =>
        intro pre d hk h1 h2 h3
        refine LoopW.tree (asks := noAsk) fit (by kernel_rfl) ?_
        have hlen : (rowsE kids).length = pre.length + (suf.length + 1) := by rw [rowsE_length, hk]; simp
        have hlen' : kids.length = pre.length + (suf.length + 1) := by rw [← rowsE_length, hlen]
        refine T.on_br (decide ((pre.length : Int) < ((rowsE kids).length : Int))) (by kernel_rfl) (by kernel_rfl) (fun h => ?_) (fun h => ?_)
        · have hmem : x ∈ kids := by rw [hk]; simp
          have hxt := tot_mem hmem
          have hxd := x.depth_le
          obtain ⟨op', n', kids', t'⟩ := x
          refine T.on_idx (rows := rowsE kids) (i := pre.length) (by kernel_rfl) (by kernel_rfl) (by kernel_rfl) (Ex.mk op' n' kids' t').row (by omega) (by rw [rowsE_map, hk]; exact getElem_mid _ _ _ _) (by kernel_rfl) ?_
          refine T.at_closed (f := 95) (args := [.agg (Ex.mk op' n' kids' t').row]) (by kernel_rfl) (.ret (.int .i64 (Ex.mk op' n' kids' t').depth)) (by kernel_rfl) (by kernel_rfl)
            (ih _ hmem (by omega)) (Clo.args1 (Clo.agg (Ex.clo _))) (Clo.int _ _) ?_
          have hw3 : IntKind.i64.wrap ((pre.length : Int) + 1) = ((pre ++ [Ex.mk op' n' kids' t']).length : Int) := by rw [wrap_id (by omega) (by omega)]; simp
          refine T.on_next (by kernel_rfl) (by kernel_rfl) ?_
          refine anew _ (if (Ex.mk op' n' kids' t').depth > d then (Ex.mk op' n' kids' t').depth else d) ((pre ++ [Ex.mk op' n' kids' t']).length : Int) _ _ (by kernel_rfl) (by kernel_rfl) (by kernel_rfl) (by kernel_rfl) (by kernel_rfl) (by kernel_rfl)
            (by kernel_rfl) (by rw [← hw3]; kernel_rfl) (by kernel_rfl) ?_
          refine ihs _ _ (by rw [hk]; simp) (by split <;> omega) (by split <;> omega) ?_
          rw [← h3]
          rfl
        · simp [hlen] at h
          omega
    exact anew _ 0 0 _ _ (by kernel_rfl) (by kernel_rfl) (by kernel_rfl) (by kernel_rfl) (by kernel_rfl) (by kernel_rfl) (by kernel_rfl) (by kernel_rfl) (by kernel_rfl) (key kids [] 0 rfl (by omega) (by omega) rfl)
end Go.Ab

