/- Whatever the expression and the environment, SolValues answers true, and both read as before. -/
import Derived.Test.YtgcecmiboiomhaaGreatSvRow
import Derived.Test.YtgcecmiboiomhaaGreatRows
import Derived.WalkKit
import Derived.ProofKit
import Derived.OpenShut
import Derived.ChangeOld
import Derived.Below
import Derived.Carry
import Derived.SizedLaws
namespace Go.Proofs.YtgcecmiboiomhaaGreat
open Go Go.ChangeShapes Go.WideShapes Go.ChangeAt Go.RowKit Go.Ab

namespace solValues
theorem own : ownKnob Tryz.prog.godebug = none := by kernel_rfl
theorem laidOut : laidOutB Tryz.prog = true := by kernel_rfl

/-- What can be read of a value, in cells. -/
theorem cells_of {H : Type} {enc : TypeId × Value → H} {W : World} {t : TypeId} {v : Value} {d : DataW H} {p : List MemPlace} (h : DataW.Trod enc Tryz.prog W 0 (fun _ => true) true t v d p) :
    ∃ xs, DA Tryz.prog t d xs ∧ VRL (terrOf W) noPhi xs v.cells.toList := by
  obtain ⟨fuel, hf⟩ := h
  exact trod_DA _ _ _ _ _ hf

set_option maxRecDepth 100000 in
theorem walk {H : Type} {d0 d1 : DataW H} {xs0 xs1 : List AV} {v0 v1 : Value} {W : World} {base : Nat} (h0 : DA Tryz.prog 64 d0 xs0) (h1 : DA Tryz.prog 65 d1 xs1) (r0 : VRL (terrOf W) noPhi xs0 v0.cells.toList) (r1 : VRL (terrOf W) noPhi xs1 v1.cells.toList)
    (k0 : Value.okWide Tryz.prog W .any base 64 v0) (k1 : Value.okWide Tryz.prog W .any base 65 v1) : Calls Tryz.prog 8 #[v0, v1] W fun e W' => e = .returned (.bool true) ∧ Below W.heap.size W W' := by
  obtain ⟨e, rfl⟩ := da64 h0
  obtain ⟨env, t, rfl⟩ := da65 h1
  have q0 : argAV Tryz.prog 64 e.row = .agg e.row := by cases e; kernel_rfl
  have q1 : argAV Tryz.prog 65 [.ro (rowsV env) t] = .ro (rowsV env) t := by kernel_rfl
  have a0 : VR (terrOf W) noPhi (.agg e.row) v0 := Eq.mp (congrArg (fun a => VR (terrOf W) noPhi a v0) q0) (@argAV_VR Tryz.prog (terrOf W) noPhi W .any base 64 v0 e.row k0 r0)
  have a1 : VR (terrOf W) noPhi (.ro (rowsV env) t) v1 := Eq.mp (congrArg (fun a => VR (terrOf W) noPhi a v1) q1) (@argAV_VR Tryz.prog (terrOf W) noPhi W .any base 65 v1 [.ro (rowsV env) t] k1 r1)
  exact (c8 e env t).below ⟨a0, a1, trivial⟩

set_option maxRecDepth 100000 in
theorem lifted (os : Os) (started : os.Started) (H : Type) (enc : TypeId × Value → H) :
    ReturnsInHanded {} Tryz.checked os 8 .any (Rows.solValuesSpec.pre6 enc Tryz.prog Tryz.f8 Rows.solValuesRow.domain false) (Rows.solValuesSpec.post enc Tryz.prog Tryz.f8 false true false false) := by
  refine returnsInHanded_of_change_sized (C := Tryz.checked) own started (by kernel_rfl) Tryz.func8
    (ChangeSpec.witness6 (enc := enc) (C := Tryz.checked) false ⟨#[], #[.agg #[.int .i64 0, .int .i64 0, .slice none 0 0], .slice none 0 0], []⟩ 8 (by kernel_rfl) (by kernel_rfl) (by kernel_rfl) (by kernel_rfl)) ?_
  intro W base args ds gs before hval0 hW hcnd hsz0 _
  have hval : ∀ (j : Nat) t v, Tryz.f8.params[j]? = some t → args[j]? = some v → Value.okWide Tryz.prog W .any base t v := hval0
  have hW' := hW
  obtain ⟨p, q, hA0, hV, rfl, hfz, hnd⟩ := hW
  have hA : DataW.TrodAll enc Tryz.prog W 0 (fun _ => true) true Tryz.f8.params.toList args.toList ds p := hA0
  rw [Tryz.params8] at hA hval
  obtain ⟨v0, vs0, d0, ds0, p0, q0, hargs, rfl, rfl, h0, r0⟩ := trodAll_cons hA
  obtain ⟨v1, vs1, d1, ds1, p1, q1, rfl, rfl, rfl, h1, r1⟩ := trodAll_cons r0
  obtain ⟨rfl, rfl, rfl⟩ := trodAll_nil r1
  obtain rfl : args = #[v0, v1] := by cases args; simp_all
  obtain ⟨rfl, rfl⟩ := trodVars_none hV
  have k0 := hval 0 64 v0 rfl rfl
  have k1 := hval 1 65 v1 rfl rfl
  have lt0 : ∀ x ∈ p0, x.block < W.heap.size := by obtain ⟨m, hm⟩ := h0; exact DataW.trod_lt m _ _ _ hm
  have lt1 : ∀ x ∈ p1, x.block < W.heap.size := by obtain ⟨m, hm⟩ := h1; exact DataW.trod_lt m _ _ _ hm
  obtain ⟨xs0, da0, vr0⟩ := cells_of h0
  obtain ⟨xs1, da1, vr1⟩ := cells_of h1
  clear hA0 hval0 hsz0
  refine (walk da0 da1 vr0 vr1 k0 k1).mono fun e W' ⟨he, bel⟩ => ?_
  subst he
  exact ⟨_, rfl, _, _, _, [], _, [], hW', trodAll_mk1 (shut_bool Tryz.underlying4 _),
    (trodAll_cons_mk (Below.trod laidOut (by kernel_rfl) (of_decide_eq_true (by kernel_rfl)) h0 bel lt0) (trodAll_cons_mk (Below.trod laidOut (by kernel_rfl) (of_decide_eq_true (by kernel_rfl)) h1 bel lt1) trodAll_mk0)), rfl, bel.frame _, fun h => by cases h⟩

theorem over : Rows.solValuesRow.holds Tryz.pinned (OpenSpec.ofChange Rows.solValuesSpec) :=
  OpenClaim.holds_of_wide 8 Tryz.f8 rfl rfl rfl rfl rfl rfl rfl ⟨rfl, rfl, rfl, rfl, rfl⟩ rfl rfl rfl rfl rfl (by kernel_rfl) Tryz.func8 (by kernel_rfl)
    (of_decide_eq_true (by kernel_rfl)) (by unfold Func.isWrapper; first | (rw [if_pos (by decide +kernel)]; kernel_rfl) | (rw [if_neg (by decide +kernel)]; exact ⟨rfl, rfl⟩))
    (fun os started H enc _ => lifted os started H enc)
end solValues

/-- The statement SolValues. -/
theorem solValues_holds : Rows.SolValuesSaid := solValues.over
end Go.Proofs.YtgcecmiboiomhaaGreat

