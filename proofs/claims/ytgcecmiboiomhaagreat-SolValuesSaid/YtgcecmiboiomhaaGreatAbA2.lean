/- One operation, seventh part: slices of slices, addresses of parts. -/
import Derived.Test.YtgcecmiboiomhaaGreatAbA1
import Derived.Laws.StructEq
import Derived.Laws.Small
namespace Go.Ab
open Go

def OVR (F : Terr) (φ : Phi) : Option AV → Option Value → Prop
  | none, none => True
  | some x, some v => VR F φ x v
  | _, _ => False

section
variable {P : Program} {F : Terr} {φ : Phi} {n : Nat} {h : Nat → Option ABlk} {w : World}

theorem OVR.map {α : Type} {f : α → AV} {g : α → Value} (hh : ∀ x, VR F φ (f x) (g x)) (o : Option α) : OVR F φ (o.map f) (o.map g) := by
  cases o with
  | none => trivial
  | some x => exact hh x

theorem optA_bound {lo : Option AV} {vlo : Option Value} {d l : Nat} (ho : OVR F φ lo vlo) (hl : optA lo d = some l) :
    (lo = none ∧ vlo = none ∧ l = d) ∨ ∃ k i, vlo = some (.int k i) ∧ lo = some (.int k i) ∧ 0 ≤ i ∧ l = i.toNat := by
  cases lo with
  | none => cases vlo with
    | none => exact .inl ⟨rfl, rfl, by simpa [optA] using hl.symm⟩
    | some v => exact ho.elim
  | some x => cases vlo with
    | none => exact ho.elim
    | some v =>
      have hv : VR F φ x v := ho
      cases hv with
      | int k i =>
        simp only [optA] at hl
        split at hl
        · rename_i h0
          exact .inr ⟨k, i, rfl, rfl, h0, by simpa using hl.symm⟩
        · cases hl
      | _ => simp [optA] at hl

theorem r_bound {k : IntKind} {i : Int} {y : Nat} {code : BoundsCode} (h0 : 0 ≤ i) (h1 : i.toNat ≤ y) : (Instr.sliceBound (.int k i) y code).run P w = .ok i.toNat w :=
  run_sliceBound w k i y code h0 (by omega)

theorem bounds_sound {isSlice : Bool} {len most cap l hh : Nat} {lo hi mx : Option AV} {vlo vhi vmx : Option Value} {mo : Option Nat} (h1 : OVR F φ lo vlo) (h2 : OVR F φ hi vhi) (h3 : OVR F φ mx vmx)
    (hb : boundsA len most lo hi mx = some (l, hh, mo)) (hm : most ≤ cap) :
    (Instr.sliceBounds isSlice len cap vlo vhi vmx).run P w = .ok (l, hh, mo.getD cap) w ∧ l ≤ hh ∧ hh ≤ mo.getD most ∧ mo.getD most ≤ most ∧ (mx = none ↔ mo = none) ∧ (mx = none ↔ vmx = none) := by
  unfold boundsA at hb
  cases ol : optA lo 0 with
  | none => simp [ol] at hb
  | some l' =>
  cases oh : optA hi len with
  | none => simp [ol, oh] at hb
  | some h' =>
  cases mx with
  | none =>
    simp only [ol, oh] at hb
    split at hb
    · rename_i hc
      cases hb
      cases vmx with
      | some v => exact h3.elim
      | none =>
        refine ⟨?_, hc.1, hc.2, Nat.le_refl _, by simp, by simp⟩
        rcases optA_bound h1 ol with ⟨rfl, rfl, rfl⟩ | ⟨k, i, rfl, rfl, h0, rfl⟩ <;> rcases optA_bound h2 oh with ⟨rfl, rfl, rfl⟩ | ⟨k', i', rfl, rfl, h0', rfl⟩
        · simp [Instr.sliceBounds]
        · simp [Instr.sliceBounds, r_bound h0' (show i'.toNat ≤ cap by omega)]
        · simp [Instr.sliceBounds, r_bound h0 hc.1]
        · simp [Instr.sliceBounds, r_bound h0' (show i'.toNat ≤ cap by omega), r_bound h0 hc.1]
    · cases hb
  | some x =>
    cases x with
    | int k m =>
      simp only [ol, oh] at hb
      split at hb
      · rename_i hc
        obtain ⟨c1, c2, c3, c4, c5⟩ := hc
        cases hb
        cases vmx with
        | none => exact h3.elim
        | some v =>
          have hv : VR F φ (.int k m) v := h3
          cases hv
          refine ⟨?_, c1, c2, c4, by simp, by simp⟩
          rcases optA_bound h1 ol with ⟨rfl, rfl, rfl⟩ | ⟨k, i, rfl, rfl, h0, rfl⟩ <;> rcases optA_bound h2 oh with ⟨rfl, rfl, rfl⟩ | ⟨k', i', rfl, rfl, h0', rfl⟩
          · simp at c5
          · simp [Instr.sliceBounds, r_bound c3 (show m.toNat ≤ cap by omega), r_bound h0' c2]
          · simp at c5
          · simp [Instr.sliceBounds, r_bound c3 (show m.toNat ≤ cap by omega), r_bound h0' c2, r_bound h0 c1]
      · cases hb
    | _ => simp [ol, oh] at hb

theorem sliceA_sound (hr : HR P F φ n h w) {t : TypeId} {x : AV} {vx : Value} {lo hi mx : Option AV} {vlo vhi vmx : Option Value} {v : AV} (hx : VR F φ x vx) (h1 : OVR F φ lo vlo) (h2 : OVR F φ hi vhi) (h3 : OVR F φ mx vmx)
    (hs : sliceA P h t x lo hi mx = some v) : ∃ u, (Instr.sliceAt t vx vlo vhi vmx).run P w = .ok u w ∧ VR F φ v u := by
  unfold sliceA at hs
  split at hs
  · rename_i s hu
    split at hs
    · rename_i l hh hb
      cases hs
      cases hx
      obtain ⟨k1, k2, k3, k4, k5, k6⟩ := bounds_sound (P := P) (w := w) (isSlice := false) h1 h2 h3 hb (Nat.le_refl _)
      have hmx : vmx = none := k6.1 (k5.2 rfl)
      subst hmx
      refine ⟨.string (s.extract l hh), ?_, .str _⟩
      simp [Instr.sliceAt, Instr.slice, r_underlying hu, k1]
    · cases hs
  · rename_i e rows tight hu
    split at hs
    · cases hs
    · rename_i hsome
      split at hs
      · rename_i l hh mo hb
        split at hs
        · rename_i hfit
          cases hs
          obtain ⟨size, hsz⟩ : ∃ size, sizeT P e = some size := by
            cases hq : sizeT P e with
            | none => simp [hq] at hsome
            | some z => exact ⟨z, rfl⟩
          -- the value's parts
          obtain ⟨base, cap, rfl, hcap, htight, hcells⟩ : ∃ base cap, vx = .slice base rows.length cap ∧ rows.length ≤ cap ∧ (tight = true → cap = rows.length) ∧
              (rows ≠ [] → ∃ (a : Addr) (sz : Nat) (cs : Array Value) (t : TypeId) (fr : Nat × Nat) (g : Nat → Nat → Value), base = some a ∧ F a.block = some (.cells cs t fr) ∧ a.spot = none ∧
                (∀ (i : Nat) (row : List AV), rows[i]? = some row → row.length = sz) ∧ (∀ (i j : Nat) (row : List AV) (x : AV), rows[i]? = some row → row[j]? = some x → cs[a.off + i * sz + j]? = some (g i j)) ∧ (∀ (i j : Nat) (row : List AV) (x : AV), rows[i]? = some row → row[j]? = some x → VR F φ x (g i j))) := by
            cases hx with
            | roe ht => exact ⟨_, _, rfl, Nat.zero_le _, ht, fun hne => absurd rfl hne⟩
            | ro g hn hF hs hcap ht hszz hc hv => exact ⟨_, _, by rw [hn], by omega, fun htt => by rw [hn]; exact ht htt, fun _ => ⟨_, _, _, _, _, g, rfl, hF, hs, hszz, hc, hv⟩⟩
          obtain ⟨k1, k2, k3, k4, k5, k6⟩ := bounds_sound (P := P) (w := w) (isSlice := true) h1 h2 h3 hb hcap
          have hmo : mo.getD cap ≤ cap := by
            cases mo with
            | none => simp
            | some m => simp at k4 ⊢; omega
          have hhm : hh ≤ mo.getD cap := by
            cases mo with
            | none => simp at k3 ⊢; omega
            | some m => simpa using k3
          refine ⟨.slice (if mo.getD cap = l then base else base.map (·.add (l * size))) (hh - l) (mo.getD cap - l), ?_, ?_⟩
          · simp [Instr.sliceAt, Instr.slice, r_underlying hu, k1, r_sizeOf hsz]
          · have hrl : ((rows.drop l).take (hh - l)).length = hh - l := by simp; omega
            by_cases hemp : hh - l = 0
            · have hnil : (rows.drop l).take (hh - l) = [] := List.eq_nil_of_length_eq_zero (by omega)
              rw [hnil, hemp]
              refine .roe fun htt => ?_
              cases mo with
              | none =>
                simp only [Bool.and_eq_true, beq_iff_eq] at htt
                have := htight htt.1
                simp only [Option.getD_none]
                omega
              | some m =>
                simp only [beq_iff_eq] at htt
                simp only [Option.getD_some]
                omega
            · have hne : rows ≠ [] := by
                intro h0
                subst h0
                simp at hrl
                omega
              obtain ⟨a, sz, cs, tt, fr, g, rfl, g1, g2, g3, g4, g5⟩ := hcells hne
              have hnotm : mo.getD cap ≠ l := by omega
              rw [if_neg hnotm, Option.map_some]
              have hoff : (a.add (l * size)).block = a.block ∧ (a.add (l * size)).off = a.off + l * sz ∧ (a.add (l * size)).spot = none := by
                have haa : a = ⟨a.block, a.off, none⟩ := by cases a; simp_all
                rw [haa, addr_add]
                refine ⟨rfl, ?_, rfl⟩
                show a.off + l * size = a.off + l * sz
                by_cases h0 : l = 0
                · subst h0; simp
                · have hl : l < rows.length := by
                    have : hh ≤ rows.length := by
                      cases mo with
                      | none => simpa using k3
                      | some m => simp at k3 k4; omega
                    omega
                  have hrow : (rows.take hh)[l]? = some rows[l] := by
                    rw [List.getElem?_take, if_pos (by omega)]
                    simp [hl]
                  unfold fitsA at hfit
                  rw [hrow] at hfit
                  simp [h0, hsz] at hfit
                  have := g3 l rows[l] (by simp [hl])
                  rw [hfit, this]
              have hrow : ∀ i row, ((rows.drop l).take (hh - l))[i]? = some row → rows[l + i]? = some row := by
                intro i row hi
                rw [List.getElem?_take] at hi
                split at hi
                · rwa [List.getElem?_drop] at hi
                · cases hi
              refine .ro (size := sz) (cs := cs) (t := tt) (fr := fr) (fun i j => g (l + i) j) hrl ?_ hoff.2.2 (by omega) ?_ (fun i row hi => g3 _ _ (hrow i row hi)) ?_ (fun i j row x hi hj => g5 _ j row x (hrow i row hi) hj)
              · rw [hoff.1]; exact g1
              · intro htt
                cases mo with
                | none =>
                  simp only [Bool.and_eq_true, beq_iff_eq] at htt
                  have := htight htt.1
                  simp only [Option.getD_none]
                  omega
                | some m =>
                  simp only [beq_iff_eq] at htt
                  simp only [Option.getD_some]
                  omega
              · intro i j row x hi hj
                have := g4 (l + i) j row x (hrow i row hi) hj
                rw [Nat.add_mul, ← Nat.add_assoc] at this
                rw [hoff.2.1]
                exact this
        · cases hs
      · cases hs
  · rename_i e b s m c hu
    split at hs
    · cases hs
    · rename_i hsome
      split at hs
      · rename_i l hh mo hb
        split at hs
        · rename_i hfine
          cases hs
          obtain ⟨size, hsz⟩ : ∃ size, sizeT P e = some size := by
            cases hq : sizeT P e with
            | none => simp [hq] at hsome
            | some z => exact ⟨z, rfl⟩
          cases hx with
          | @sl _ _ _ cap _ L a hL hn hc hrm htt haa =>
            have hmost : mostA h b s m c ≤ cap := by
              cases c with
              | some k => have := hc k rfl; simp only [mostA]; omega
              | none =>
                simp only [mostA]
                split
                · rename_i t rs hblk
                  obtain ⟨L0, q1, q2, q3⟩ := hr.blk b _ hblk
                  rw [hL] at q1
                  cases q1
                  obtain ⟨cs, _, _, q4, _⟩ := q3.flat
                  have := hrm rfl
                  omega
                · exact hn
            obtain ⟨k1, k2, k3, k4, k5, k6⟩ := bounds_sound (P := P) (w := w) (isSlice := true) h1 h2 h3 hb hmost
            have hmo : mo.getD cap ≤ cap := by
              cases mo with
              | none => simp
              | some q => simp at k4 ⊢; omega
            have hhm : hh ≤ mo.getD cap := by
              cases mo with
              | none => simp at k3 ⊢; omega
              | some q => simpa using k3
            refine ⟨.slice (if mo.getD cap = l then some a else (some a).map (·.add (l * size))) (hh - l) (mo.getD cap - l), ?_, ?_⟩
            · simp [Instr.sliceAt, Instr.slice, r_underlying hu, k1, r_sizeOf hsz]
            · have hval : ∃ a' : Addr, (if mo.getD cap = l then some a else (some a).map (·.add (l * size))) = some a' ∧ (0 < mo.getD cap - l → a' = ⟨L.B, L.base + (s + l) * L.size, none⟩) := by
                split
                · exact ⟨a, rfl, fun h0 => by omega⟩
                · refine ⟨_, rfl, fun h0 => ?_⟩
                  have hae := haa (by omega)
                  subst hae
                  show (⟨L.B, L.base + s * L.size, none⟩ : Addr).add (l * size) = _
                  rw [addr_add]
                  have : l * size = l * L.size := by
                    unfold fineA at hfine
                    simp only [Bool.or_eq_true, beq_iff_eq] at hfine
                    rcases hfine with h0 | h0
                    · subst h0; simp
                    · split at h0
                      · rename_i t rs hblk
                        obtain ⟨L0, q1, q2, q3⟩ := hr.blk b _ hblk
                        rw [hL] at q1
                        cases q1
                        obtain ⟨cs, _, q4, _⟩ := q3.flat
                        simp only [Bool.and_eq_true, beq_iff_eq] at h0
                        rw [q4, hsz] at h0
                        rw [Option.some.inj h0.2]
                      · cases h0
                  rw [this, Nat.add_mul]
                  congr 1
                  omega
              obtain ⟨a', e1, e2⟩ := hval
              rw [e1]
              refine .sl hL (by omega) ?_ ?_ (by omega) e2
              · intro k hk
                cases mo with
                | none =>
                  simp only [Option.map_eq_some_iff] at hk
                  obtain ⟨k', hk', rfl⟩ := hk
                  simp only [Option.getD_none]
                  rw [hc k' hk']
                | some q =>
                  simp only [Option.some.injEq] at hk
                  simp only [Option.getD_some]
                  exact hk
              · intro hk
                cases mo with
                | none =>
                  simp only [Option.map_eq_none_iff] at hk
                  have := hrm hk
                  simp only [Option.getD_none]
                  have : l ≤ cap := by omega
                  omega
                | some q => simp at hk
        · cases hs
      · cases hs
  · cases hs

/-! ### Addresses of parts -/
theorem fieldA_spec {t : TypeId} {i : Nat} {f : Field} (hf : fieldA P t i = some f) : ∃ fs, P.underlying t = some (.struct fs) ∧ fs[i]? = some f := by
  unfold fieldA fieldsOf at hf
  cases hu : P.underlying t with
  | none => simp [hu] at hf
  | some d => cases d <;> first | (simp [hu] at hf; done) | exact ⟨_, rfl, by simpa [hu] using hf⟩

theorem r_fieldAt {t : TypeId} {i : Nat} {f : Field} {k B o : Nat} (hf : fieldA P t i = some f) (hs : sizeT P f.type = some (k + 1)) :
    (Instr.fieldAt t (.pointer (some ⟨B, o, none⟩)) i).run P w = .ok (.pointer (some ⟨B, o + f.offset, none⟩)) w := by
  obtain ⟨fs, hu, hi⟩ := fieldA_spec hf
  simp [Instr.fieldAt, r_underlying hu, hi, Instr.sureAddr, fieldPlace, r_sizeOf hs, addr_add]
end

end Go.Ab

/- One operation, eighth part: equality, arithmetic, maps, calls. -/
namespace Go.Ab
open Go

/-- What is asked of the program as a whole. -/
structure Fit (P : Program) : Prop where
  depth : 20 ≤ P.depth
  names : ∀ (f : Nat) (fn : Func), P.funcs[f]? = some fn → fn.name ≠ "runtime.NumGoroutine"
  mixed : P.follows .mixedOrders = true

section
variable {P : Program} {F : Terr} {φ : Phi} {n : Nat} {h : Nat → Option ABlk} {w : World}

def eqFold (P : Program) (d : Nat) (xs ys : List AV) (fs : List Field) : Option Bool :=
  fs.foldr (fun f r =>
    if f.name = "_" then none else
    match partA P f.type xs f.offset, partA P f.type ys f.offset with
    | some a, some b =>
      match eqT P d f.type a b, r with
      | some p, some q => some (p && q)
      | _, _ => none
    | _, _ => none) (some true)

theorem eqFields_sound {d D : Nat} {xs ys : List AV} {vx vy : Array Value} (hx : VRL F φ xs vx.toList) (hy : VRL F φ ys vy.toList)
    (ih : ∀ t x y r u v, eqT P d t x y = some r → VR F φ x u → VR F φ y v → (Op.equalIn D t u v).run P w = .ok r w) :
    ∀ (fs : List Field) (r : Bool), eqFold P d xs ys fs = some r → (Op.eqFields D vx vy fs).run P w = .ok r w
  | [], r, h => by
    simp only [eqFold, List.foldr_nil, Option.some.injEq] at h
    subst h
    rfl
  | f :: fs, r, h => by
    unfold eqFold at h
    rw [List.foldr_cons] at h
    split at h
    · cases h
    · rename_i hn
      cases ha : partA P f.type xs f.offset with
      | none => simp [ha] at h
      | some a =>
      cases hb : partA P f.type ys f.offset with
      | none => simp [ha, hb] at h
      | some b =>
      simp only [ha, hb] at h
      cases hp : eqT P d f.type a b with
      | none => simp [hp] at h
      | some p =>
      cases hq : eqFold P d xs ys fs with
      | none => unfold eqFold at hq; rw [hp, hq] at h; cases h
      | some q =>
      have h' : some (p && q) = some r := by
        unfold eqFold at hq
        rw [hp, hq] at h
        exact h
      cases h'
      obtain ⟨u, e1, e2⟩ := partA_part (P := P) (w := w) hx ha
      obtain ⟨v, e3, e4⟩ := partA_part (P := P) (w := w) hy hb
      have e5 := ih f.type a b p u v hp e2 e4
      have e6 := eqFields_sound hx hy ih fs q hq
      simp only [Op.eqFields, Sem.run_ite, Sem.run_bind, e1, Result.andThen_ok, e3, e5, e6]
      rw [if_pos hn]
      cases p <;> simp

theorem eqT_sound : ∀ (d : Nat) (t : TypeId) (x y : AV) (r : Bool) (u v : Value), eqT P d t x y = some r → VR F φ x u → VR F φ y v → ∀ D, d ≤ D → (Op.equalIn D t u v).run P w = .ok r w
  | 0, t, x, y, r, u, v, h, _, _, _, _ => by simp [eqT] at h
  | d + 1, t, x, y, r, u, v, h, hx, hy, D, hD => by
    obtain ⟨D, rfl⟩ : ∃ D', D = D' + 1 := ⟨D - 1, by omega⟩
    simp only [eqT] at h
    split at h
    · rename_i a b hu
      cases h; cases hx; cases hy
      exact run_equalIn_bool w D t a b hu
    · rename_i k' k a kb b hu
      split at h
      · rename_i hk
        cases h; cases hx; cases hy
        subst hk
        simp [Op.equalIn, r_underlying hu]
      · cases h
    · rename_i a b hu
      cases h; cases hx; cases hy
      simp [Op.equalIn, r_underlying hu]
    · rename_i fs xs ys hu
      split at h
      · cases h
      · rename_i hst
        obtain ⟨vx, rfl, hvx⟩ := hx.of_agg
        obtain ⟨vy, rfl, hvy⟩ := hy.of_agg
        have hfs : P.fieldsOf t = fs := by simp [Program.fieldsOf, hu]
        rw [run_equalIn_struct w D t vx vy (by rw [hfs]; exact hu) (by simpa using hst), hfs]
        exact eqFields_sound hvx hvy (fun t x y r u v h1 h2 h3 => eqT_sound d t x y r u v h1 h2 h3 D (by omega)) fs.toList r h
    · cases h

theorem flatT_guard : ∀ (d : Nat) (t : TypeId), flatT P d t = true → ∀ D, d ≤ D → P.eqGuardType D t = false
  | 0, t, h, _, _ => by simp [flatT] at h
  | d + 1, t, h, D, hD => by
    obtain ⟨D, rfl⟩ : ∃ D', D = D' + 1 := ⟨D - 1, by omega⟩
    simp only [flatT] at h
    unfold Program.eqGuardType
    cases hu : P.underlying t with
    | none => simp [hu] at h
    | some ds =>
      rw [hu] at h
      cases ds with
      | struct fs =>
        simp only [Array.all_eq_true_iff_forall_mem] at h
        simp only [Array.any_eq_false']
        intro f hf
        simp [flatT_guard d f.type (h f hf) D (by omega)]
      | interface ms => simp at h
      | array k e => simp at h
      | _ => rfl

theorem eqA_sound (hP : Fit P) {t : TypeId} {x y : AV} {u v : Value} {r : Bool} (hx : VR F φ x u) (hy : VR F φ y v) (he : eqA P t x y = some r) :
    (Op.equal t u v).run P w = .ok r w ∧ (∀ xs ys, u = .agg xs → v = .agg ys → P.eqGuardType P.depth t = false) ∧ ¬ (u = .nilIface ∧ v = .nilIface) ∧
      binOp .eql t u v = (do pure (.bool (← Op.equal t u v))) ∧ binOp .neq t u v = (do pure (.bool (!(← Op.equal t u v)))) := by
  unfold eqA at he
  split at he
  · rename_i fs xs ys hu
    split at he
    · rename_i hf
      refine ⟨eqT_sound 20 t _ _ r u v he hx hy 10000 (by omega), fun _ _ _ _ => flatT_guard 20 t hf _ hP.depth, ?_⟩
      obtain ⟨vx, rfl, _⟩ := hx.of_agg
      obtain ⟨vy, rfl, _⟩ := hy.of_agg
      exact ⟨by simp, rfl, rfl⟩
    · cases he
  all_goals first
    | (rename_i hu; cases he; cases hx; cases hy
       refine ⟨?_, by simp, by simp, rfl, rfl⟩
       rw [show Op.equal = Op.equalIn (9999 + 1) from rfl]
       generalize 9999 = D
       simp only [Op.equalIn, Sem.run_bind, r_underlying hu, Result.andThen_ok]
       rfl)
    | cases he

theorem r_eqGuard (op : BinOp) (t : TypeId) (x y : Operand) {u v : Value} (h1 : ∀ xs ys, u = .agg xs → v = .agg ys → P.eqGuardType P.depth t = false) (h2 : ¬ (u = .nilIface ∧ v = .nilIface)) : (eqGuard op t x y u v).run P w = .ok () w := by
  unfold eqGuard
  cases op <;> first
    | rfl
    | (cases u <;> cases v <;> first
        | rfl
        | exact absurd ⟨rfl, rfl⟩ h2
        | simp [h1 _ _ rfl rfl])

theorem r_eqGuard_const (op : BinOp) (t : TypeId) (x y : Operand) (hc : (constOp x || constOp y) = true) : (eqGuard op t x y .nilIface .nilIface).run P w = .ok () w := by
  unfold eqGuard
  cases op <;> first
    | rfl
    | (cases x <;> cases y <;> first
        | rfl
        | simp [constOp] at hc)

theorem r_intBin {k : IntKind} {a b : Int} {op : BinOp} {v : AV} (t : TypeId) (P' : Program)
    (hb : (match op with
    | .add => some (AV.int k (k.wrap (a + b)))
    | .sub => some (.int k (k.wrap (a - b)))
    | .mul => some (.int k (k.wrap (a * b)))
    | .quo => if b = 0 then none else some (.int k (k.wrap (a.tdiv b)))
    | .rem => if b = 0 then none else some (.int k (a.tmod b))
    | .eql => some (.bool (a == b))
    | .neq => some (.bool (a != b))
    | .lss => some (.bool (a < b))
    | .leq => some (.bool (a ≤ b))
    | .gtr => some (.bool (a > b))
    | .geq => some (.bool (a ≥ b))
    | _ => none) = some v) : ∃ u, (binOp op t (.int k a) (.int k b)).run P' w = .ok u w ∧ VR F φ v u := by
  cases op <;> simp only [Option.some.injEq, reduceCtorEq] at hb <;> first
    | (subst hb; refine ⟨_, by simp [binOp, Op.intArith, Op.intCmp]; rfl, by constructor⟩)
    | (split at hb
       · cases hb
       · rename_i h0
         cases hb
         exact ⟨_, by simp [binOp, Op.intDiv, h0]; rfl, by constructor⟩)
    | skip

end

end Go.Ab

/- One operation, ninth part: operators, maps. -/
namespace Go.Ab
open Go

section
variable {P : Program} {F : Terr} {φ : Phi} {n : Nat} {h : Nat → Option ABlk} {w : World}

theorem nilSl_spec {o : Operand} (h : nilSl o = true) : ∃ b c, o = .const (.slice none b c) := by
  unfold nilSl at h
  split at h
  · exact ⟨_, _, rfl⟩
  · cases h

theorem r_equal_nil {t e : TypeId} {a : Addr} {m c b d : Nat} (hu : P.underlying t = some (.slice e)) : (Op.equal t (.slice (some a) m c) (.slice none b d)).run P w = .ok false w := by
  have : ∀ D, (Op.equalIn (D + 1) t (.slice (some a) m c) (.slice none b d)).run P w = .ok false w := fun D => by simp [Op.equalIn, r_underlying hu]
  exact this 9999

theorem r_equal_nili {t : TypeId} {ms : Array (String × TypeId)} (hu : P.underlying t = some (.interface ms)) : (Op.equal t .nilIface .nilIface).run P w = .ok true w := by
  have : ∀ D, (Op.equalIn (D + 1) t .nilIface .nilIface).run P w = .ok true w := fun D => by simp [Op.equalIn, r_underlying hu]
  exact this 9999

theorem r_stringBin {a b : ByteArray} {op : BinOp} {v : AV} (t : TypeId) (P' : Program)
    (hb : (match op with
    | .add => if a.size + b.size < 140737488351232 then some (AV.str (a ++ b)) else none
    | .eql => some (.bool (a.toList == b.toList))
    | .neq => some (.bool !(a.toList == b.toList))
    | .lss => some (.bool (Op.bytesLess a.toList b.toList))
    | .leq => some (.bool (Op.bytesLess a.toList b.toList || a.toList == b.toList))
    | .gtr => some (.bool !(Op.bytesLess a.toList b.toList || a.toList == b.toList))
    | .geq => some (.bool !(Op.bytesLess a.toList b.toList))
    | _ => none) = some v) : ∃ u, (binOp op t (.string a) (.string b)).run P' w = .ok u w ∧ VR F φ v u := by
  cases op <;> simp only [Option.some.injEq, reduceCtorEq] at hb <;> first
    | (subst hb; exact ⟨_, rfl, by constructor⟩)
    | (split at hb
       · rename_i h0
         cases hb
         refine ⟨.string (a ++ b), ?_, .str _⟩
         have : ¬ (((a.size + b.size : Nat) : Int) > IntKind.i64.max) := by
           have : IntKind.i64.max = 9223372036854775807 := by decide
           rw [this]
           omega
         simp only [binOp, Op.stringOp, this, if_false]
         rfl
       · cases hb)
    | skip

theorem binA_sound (hP : Fit P) {op : BinOp} {t : TypeId} {xo yo : Operand} {x y v : AV} {vx vy : Value} (hx : VR F φ x vx) (hy : VR F φ y vy) (hyc : ∀ c, yo = .const c → vy = c) (hb : binA P op t xo yo x y = some v) :
    ∃ u, (do eqGuard op t xo yo vx vy; binOp op t vx vy : Sem Value).run P w = .ok u w ∧ VR F φ v u := by
  have plain : ∀ {u : Value}, (∀ xs ys, vx = .agg xs → vy = .agg ys → P.eqGuardType P.depth t = false) → ¬ (vx = .nilIface ∧ vy = .nilIface) → (binOp op t vx vy).run P w = .ok u w →
      (do eqGuard op t xo yo vx vy; binOp op t vx vy : Sem Value).run P w = .ok u w := by
    intro u h1 h2 h3
    simp [r_eqGuard (P := P) (w := w) op t xo yo h1 h2, h3]
  unfold binA at hb
  split at hb
  · split at hb
    · rename_i hn
      split at hb
      · rename_i e hu
        cases hb
        obtain ⟨b, c, rfl⟩ := nilSl_spec hn
        obtain rfl := hyc _ rfl
        cases hx
        exact ⟨.bool false, plain (by simp) (by simp) (by simp [binOp, r_equal_nil hu]), .bool _⟩
      · cases hb
    · cases hb
  · split at hb
    · rename_i hn
      split at hb
      · rename_i e hu
        cases hb
        obtain ⟨b, c, rfl⟩ := nilSl_spec hn
        obtain rfl := hyc _ rfl
        cases hx
        exact ⟨.bool false, plain (by simp) (by simp) (by simp [binOp, r_equal_nil hu]), .bool _⟩
      · cases hb
    · cases hb
  · split at hb
    · rename_i hn
      split at hb
      · rename_i e hu
        cases hb
        obtain ⟨b, c, rfl⟩ := nilSl_spec hn
        obtain rfl := hyc _ rfl
        cases hx
        exact ⟨.bool true, plain (by simp) (by simp) (by simp [binOp, r_equal_nil hu]), .bool _⟩
      · cases hb
    · cases hb
  · split at hb
    · rename_i hn
      split at hb
      · rename_i e hu
        cases hb
        obtain ⟨b, c, rfl⟩ := nilSl_spec hn
        obtain rfl := hyc _ rfl
        cases hx
        exact ⟨.bool true, plain (by simp) (by simp) (by simp [binOp, r_equal_nil hu]), .bool _⟩
      · cases hb
    · cases hb
  · split at hb
    · rename_i hc
      split at hb
      · rename_i ms hu
        cases hb; cases hx; cases hy
        refine ⟨.bool true, ?_, .bool _⟩
        simp [r_eqGuard_const (P := P) (w := w) .eql t xo yo hc, binOp, r_equal_nili hu]
      · cases hb
    · cases hb
  · split at hb
    · rename_i hc
      split at hb
      · rename_i ms hu
        cases hb; cases hx; cases hy
        refine ⟨.bool false, ?_, .bool _⟩
        simp [r_eqGuard_const (P := P) (w := w) .neq t xo yo hc, binOp, r_equal_nili hu]
      · cases hb
    · cases hb
  · split at hb
    · cases hb
    · rename_i hk
      simp only [Decidable.not_not] at hk
      subst hk
      cases hx; cases hy
      obtain ⟨u, h1, h2⟩ := r_intBin (F := F) (φ := φ) (w := w) t P hb
      exact ⟨u, plain (by simp) (by simp) h1, h2⟩
  · cases hx; cases hy
    obtain ⟨u, h1, h2⟩ := r_stringBin (F := F) (φ := φ) (w := w) t P hb
    exact ⟨u, plain (by simp) (by simp) h1, h2⟩
  · cases he : eqA P t x y with
    | none => simp [he] at hb
    | some r =>
      simp only [he, Option.map_some, Option.some.injEq] at hb
      subst hb
      obtain ⟨h1, h2, h3, h4, h5⟩ := eqA_sound (w := w) hP hx hy he
      exact ⟨.bool r, plain h2 h3 (by rw [h4]; simp [h1]), .bool _⟩
  · cases he : eqA P t x y with
    | none => simp [he] at hb
    | some r =>
      simp only [he, Option.map_some, Option.some.injEq] at hb
      subst hb
      obtain ⟨h1, h2, h3, h4, h5⟩ := eqA_sound (w := w) hP hx hy he
      exact ⟨.bool !r, plain h2 h3 (by rw [h5]; simp [h1]), .bool _⟩
  · cases hb
end

end Go.Ab

/- One operation, tenth part: maps. -/
namespace Go.Ab
open Go

section
variable {P : Program} {F : Terr} {φ : Phi} {n : Nat} {h : Nat → Option ABlk} {w : World}

theorem sameNow_sound {t : TypeId} {d : TypeDesc} {k k' : AV} {vk vk' : Value} {r : Bool} (hu : P.underlying t = some d) (hk : keyT P t k = true) (h1 : VR F φ k vk) (h2 : VR F φ k' vk') (he : eqLit k k' = some r) :
    Instr.sameNow d vk vk' = some r := by
  unfold keyT at hk
  rw [hu] at hk
  cases d <;> cases k <;> simp at hk <;> cases k' <;> simp [eqLit] at he <;> cases h1 <;> cases h2 <;> simp [Instr.sameNow, he]

theorem findNow_sound {t : TypeId} {d : TypeDesc} {k : AV} {vk : Value} (hu : P.underlying t = some d) (hk : keyT P t k = true) (h1 : VR F φ k vk) :
    ∀ (es : List (AV × AV)) (ents : List MapEntry) (i : Nat) (r : Option AV), VRL F φ (es.map (·.1)) (ents.map (·.key)) → VRL F φ (es.map (·.2)) (ents.map (·.val)) → findA k es = some r →
      (r = none ∧ Instr.findNow d vk ents i = some none) ∨ ∃ x j v e, r = some x ∧ Instr.findNow d vk ents i = some (some (i + j, v)) ∧ VR F φ x v ∧ ents[j]? = some e ∧ (∃ k', es[j]? = some (k', x) ∧ eqLit k k' = some true) ∧
        (∀ y, putA k y es = some (es.set j (k, y)))
  | [], [], i, r, _, _, hf => by
    simp only [findA, Option.some.injEq] at hf
    subst hf
    exact .inl ⟨rfl, rfl⟩
  | [], _ :: _, _, _, hk, _, _ => hk.elim
  | _ :: _, [], _, _, hk, _, _ => hk.elim
  | (k', x) :: es, e :: ents, i, r, hks, hvs, hf => by
    simp only [findA] at hf
    cases he : eqLit k k' with
    | none => simp [he] at hf
    | some b =>
      have hs := sameNow_sound hu hk h1 hks.1 he
      cases b with
      | true =>
        simp only [he, Option.some.injEq] at hf
        subst hf
        refine .inr ⟨x, 0, e.val, e, rfl, by simp [Instr.findNow, hs], hvs.1, rfl, ⟨k', rfl, he⟩, fun y => ?_⟩
        simp [putA, he]
      | false =>
        simp only [he] at hf
        rcases findNow_sound hu hk h1 es ents (i + 1) r hks.2 hvs.2 hf with ⟨e1, e2⟩ | ⟨x', j, v, e', e1, e2, e3, e4, ⟨k'', e5, e5'⟩, e6⟩
        · exact .inl ⟨e1, by simp [Instr.findNow, hs, e2]⟩
        · refine .inr ⟨x', j + 1, v, e', e1, by simp [Instr.findNow, hs, e2, Nat.add_assoc, Nat.add_comm 1 j], e3, by simpa using e4, ⟨k'', by simpa using e5, e5'⟩, fun y => ?_⟩
          simp [putA, he, e6 y]

theorem putA_none {k y : AV} : ∀ {es : List (AV × AV)}, findA k es = some none → putA k y es = some (es ++ [(k, y)])
  | [], _ => rfl
  | (k', x) :: es, hf => by
    simp only [findA] at hf
    cases he : eqLit k k' with
    | none => simp [he] at hf
    | some b =>
      cases b with
      | true => simp [he] at hf
      | false =>
        simp only [he] at hf
        simp [putA, he, putA_none hf]

theorem findA_some {k y : AV} : ∀ {es es' : List (AV × AV)}, putA k y es = some es' → ∃ r, findA k es = some r
  | [], _, _ => ⟨none, rfl⟩
  | (k', x) :: es, es', hp => by
    simp only [putA] at hp
    cases he : eqLit k k' with
    | none => simp [he] at hp
    | some b =>
      cases b with
      | true => exact ⟨some x, by simp [findA, he]⟩
      | false =>
        simp only [he, Option.map_eq_some_iff] at hp
        obtain ⟨es'', hp', _⟩ := hp
        obtain ⟨r, hr⟩ := findA_some hp'
        exact ⟨r, by simp [findA, he, hr]⟩

theorem r_checkKey {t : TypeId} {d : TypeDesc} {k : AV} {vk : Value} (empty : Bool) (hu : P.underlying t = some d) (hk : keyT P t k = true) (h1 : VR F φ k vk) : (Instr.checkKey empty 10000 t vk).run P w = .ok () w := by
  have : ∀ D, (Instr.checkKey empty (D + 1) t vk).run P w = .ok () w := by
    intro D
    unfold keyT at hk
    rw [hu] at hk
    cases d <;> cases k <;> simp at hk <;> cases h1 <;> simp [Instr.checkKey, r_underlying hu]
  exact this 9999

theorem keyT_underlying {t : TypeId} {k : AV} (hk : keyT P t k = true) : ∃ d, P.underlying t = some d := by
  unfold keyT at hk
  cases hu : P.underlying t with
  | none => simp [hu] at hk
  | some d => exact ⟨d, rfl⟩

theorem r_getObj {r : Nat} {o : Obj} (h1 : w.heap[r]? = some o) (h2 : ∀ c t f, o ≠ .cells c t f) : (getObj r).run P w = .ok o w := by
  unfold getObj
  cases o <;> first | exact absurd rfl (h2 _ _ _) | (simp only [Sem.run, h1])

theorem r_setObj {r : Nat} {o o' : Obj} (h1 : w.heap[r]? = some o) (h2 : ∀ c t f, o ≠ .cells c t f) : (setObj r o').run P w = .ok () { w with heap := w.heap.setIfInBounds r o' } := by
  unfold setObj
  cases o <;> first | exact absurd rfl (h2 _ _ _) | (simp only [Sem.run, h1])

theorem heap_set_same {r : Nat} {o o' : Obj} (h1 : w.heap[r]? = some o) : (w.heap.setIfInBounds r o')[r]? = some o' := by
  have := (Array.getElem?_eq_some_iff.1 h1).1
  simp [this]

theorem heap_set_other {r B : Nat} {o' : Obj} (h1 : B ≠ r) : (w.heap.setIfInBounds r o')[B]? = w.heap[B]? := by
  simp [Array.getElem?_setIfInBounds, Ne.symm h1]

theorem mapPutA_sound (hr : HR P F φ n h w) {t : TypeId} {m k v : AV} {vm vk vv : Value} {nx : ANext} (hm : VR F φ m vm) (hk : VR F φ k vk) (hv : VR F φ v vv) (hp : mapPutA P h n t m k v = some nx) :
    ∃ ups, nx = .val (.tup []) ups n ∧ ∃ w', (Instr.mapUpdate t vm vk vv).run P w = .ok () w' ∧ HR P F φ n (hups h ups) w' ∧ Ext F φ n h w F φ n w' := by
  unfold mapPutA at hp
  split at hp
  · rename_i kt et b hu
    split at hp
    · rename_i hkt
      split at hp
      · rename_i es hb
        simp only [Option.map_eq_some_iff] at hp
        obtain ⟨es', hput, rfl⟩ := hp
        obtain ⟨d, hd⟩ := keyT_underlying hkt
        obtain ⟨L, g1, g2, ents, clock, g3, g4, g5, g6⟩ := hr.blk b _ hb
        have hka : keyA k = true := by
          unfold keyT at hkt
          cases k <;> simp_all [keyA]
        cases hm with
        | map hL =>
          rw [g1] at hL
          cases hL
          refine ⟨_, rfl, ?_⟩
          obtain ⟨r, hr'⟩ := findA_some hput
          have hrun0 : ∀ (empty : Bool), (Instr.checkKey empty 10000 kt vk).run P w = .ok () w := fun e => r_checkKey e hd hkt hk
          rcases findNow_sound hd hkt hk es ents.toList 0 r g4 g5 hr' with ⟨rfl, e2⟩ | ⟨x, j, v0, e, rfl, e2, e3, e4, ⟨k', e5, e5'⟩, e6⟩
          · rw [putA_none hr'] at hput
            cases hput
            obtain ⟨k1, k2⟩ := hr.turn (w' := { w with heap := w.heap.setIfInBounds L.B (.map (ents.push { key := vk, val := vv, born := clock }) (clock + 1)) }) hb g1 (by simp) (fun B hB => heap_set_other hB)
              (.map (es ++ [(k, v)])) ⟨_, _, heap_set_same g3, by simpa using g4.append (ys := [k]) (us := [vk]) ⟨hk, trivial⟩, by simpa using g5.append (ys := [v]) (us := [vv]) ⟨hv, trivial⟩, fun e he => by
                rcases List.mem_append.1 he with h' | h'
                · exact g6 e h'
                · simp at h'; subst h'; exact hka⟩
            refine ⟨_, ?_, k1, k2⟩
            simp [Instr.mapUpdate, r_underlying hu, r_getObj g3 (by simp), hrun0, Instr.findKey, r_underlying hd, e2, r_setObj g3 (by simp)]
          · rw [e6 v] at hput
            cases hput
            simp only [Nat.zero_add] at e2
            have hkk : Instr.sameBits 10000 e.key vk = true := by
              have h1 := g4.get j k' e.key (by simp [e5]) (by simpa using congrArg (Option.map (·.key)) e4)
              generalize e.key = ek at h1 ⊢
              cases k <;> cases k' <;> simp [eqLit] at e5' <;> cases hk <;> cases h1
              all_goals first
                | (simp [keyA] at hka; done)
                | (simp_all [Instr.sameBits]; done)
                | (simp only [Instr.sameBits, beq_toListBytes] at e5' ⊢; simpa using (beq_iff_eq.1 e5').symm)
            obtain ⟨k1, k2⟩ := hr.turn (w' := { w with heap := w.heap.setIfInBounds L.B (.map (ents.modify j fun e => { e with key := vk, val := vv }) clock) }) hb g1 (by simp) (fun B hB => heap_set_other hB)
              (.map (es.set j (k, v))) ⟨_, _, heap_set_same g3, by
                have := g4.set j hk
                rw [List.map_set]
                have e7 : (ents.modify j fun e => { e with key := vk, val := vv }).toList.map (·.key) = (ents.toList.map (·.key)).set j vk := by
                  rw [Array.toList_modify]
                  apply List.ext_getElem?
                  intro i
                  simp only [List.getElem?_map, List.getElem?_modify, List.getElem?_set, List.length_map]
                  by_cases hij : j = i
                  · subst hij
                    rw [e4]
                    have hj : j < ents.size := by simpa using (List.getElem?_eq_some_iff.1 e4).1
                    simp [hj]
                  · simp [hij]
                rw [e7]
                exact this, by
                have := g5.set j hv
                rw [List.map_set]
                have e7 : (ents.modify j fun e => { e with key := vk, val := vv }).toList.map (·.val) = (ents.toList.map (·.val)).set j vv := by
                  rw [Array.toList_modify]
                  apply List.ext_getElem?
                  intro i
                  simp only [List.getElem?_map, List.getElem?_modify, List.getElem?_set, List.length_map]
                  by_cases hij : j = i
                  · subst hij
                    rw [e4]
                    have hj : j < ents.size := by simpa using (List.getElem?_eq_some_iff.1 e4).1
                    simp [hj]
                  · simp [hij]
                rw [e7]
                exact this, fun e' he => by
                rcases List.mem_or_eq_of_mem_set he with h' | h'
                · exact g6 e' h'
                · rw [h']; exact hka⟩
            refine ⟨_, ?_, k1, k2⟩
            have e4' : ents[j]? = some e := by simpa using e4
            simp [Instr.mapUpdate, r_underlying hu, r_getObj g3 (by simp), hrun0, Instr.findKey, r_underlying hd, e2, r_setObj g3 (by simp), e4', Instr.keyThatStays, hkk]
      · cases hp
    · cases hp
  · cases hp

theorem lookupA_sound (hr : HR P F φ n h w) {t : TypeId} {m k v : AV} {vm vk : Value} {ok : Bool} (hm : VR F φ m vm) (hk : VR F φ k vk) (hp : lookupA P h t m k ok = some v) :
    ∃ u, (Instr.lookup t vm vk ok).run P w = .ok u w ∧ VR F φ v u := by
  unfold lookupA at hp
  cases hu : P.underlying t with
  | none => simp [hu] at hp
  | some d0 =>
  cases d0 with
  | map kt et =>
    simp only [hu] at hp
    split at hp
    · rename_i hkt
      obtain ⟨d, hd⟩ := keyT_underlying hkt
      have hrun0 : ∀ (empty : Bool), (Instr.checkKey empty 10000 kt vk).run P w = .ok () w := fun e => r_checkKey e hd hkt hk
      cases hm with
      | nilm =>
        simp only [findA] at hp
        cases hz : zeroT P et with
        | none => simp [hz] at hp
        | some z =>
          simp only [hz, Option.some.injEq] at hp
          obtain ⟨zv, z1, z2⟩ := r_zeroValue (w := w) (F := F) (φ := φ) hz
          refine ⟨if ok then .tuple #[zv, .bool false] else zv, ?_, ?_⟩
          · simp [Instr.lookup, r_underlying hu, hrun0, Instr.findKey, r_underlying hd, Instr.findNow, z1]
          · subst hp
            cases ok
            · exact z2
            · exact VR.mk_tup ⟨z2, .bool _, trivial⟩
      | @map m L hL =>
        cases hb : h m with
        | none => simp [hb] at hp
        | some blk =>
        cases blk with
        | map es =>
          simp only [hb] at hp
          obtain ⟨L', g1, g2, ents, clock, g3, g4, g5, g6⟩ := hr.blk m _ hb
          rw [g1] at hL
          cases hL
          cases hf : findA k es with
          | none => simp [hf] at hp
          | some r =>
          rcases findNow_sound hd hkt hk es ents.toList 0 r g4 g5 hf with ⟨rfl, e2⟩ | ⟨x, j, v0, e, rfl, e2, e3, _⟩
          · simp only [hf] at hp
            cases hz : zeroT P et with
            | none => simp [hz] at hp
            | some z =>
              simp only [hz, Option.some.injEq] at hp
              obtain ⟨zv, z1, z2⟩ := r_zeroValue (w := w) (F := F) (φ := φ) hz
              refine ⟨if ok then .tuple #[zv, .bool false] else zv, ?_, ?_⟩
              · simp [Instr.lookup, r_underlying hu, r_getObj g3 (by simp), hrun0, Instr.findKey, r_underlying hd, e2, z1]
              · subst hp
                cases ok
                · exact z2
                · exact VR.mk_tup ⟨z2, .bool _, trivial⟩
          · simp only [hf, Option.some.injEq] at hp
            refine ⟨if ok then .tuple #[v0, .bool true] else v0, ?_, ?_⟩
            · simp [Instr.lookup, r_underlying hu, r_getObj g3 (by simp), hrun0, Instr.findKey, r_underlying hd, e2]
            · subst hp
              cases ok
              · exact e3
              · exact VR.mk_tup ⟨e3, .bool _, trivial⟩
        | _ => simp [hb] at hp
      | _ => simp at hp
    · cases hp
  | _ => simp [hu] at hp
end

end Go.Ab

/- One operation, the whole: what the machine's comes to is what the evaluator's says. -/
namespace Go.Ab
open Go

def DefR (F : Terr) (φ : Phi) (d : ADef) (dd : Deferred) : Prop :=
  ∃ g first captured cap, d.fv = .fn (.func g) first captured ∧ dd.target = .fn (.func g) cap ∧ VRL F φ captured cap.toList ∧ VRL F φ (first ++ d.args) dd.args.toList

/-- What is asked of the machine's operation, by what the evaluator's comes to. -/
def OpOk (P : Program) (F : Terr) (φ : Phi) (n : Nat) (h : Nat → Option ABlk) (w : World) (s : Sem Next) : ANext → Prop
  | .val v ups n' => ∃ u w' φ', (s.run P w = .ok (.value u) w' ∨ (u = undef ∧ s.run P w = .ok .skip w')) ∧ HR P F φ' n' (hups h ups) w' ∧ Ext F φ n h w F φ' n' w' ∧ VR F φ' v u
  | .enter f args => ∃ cargs, s.run P w = .ok (.enter f cargs) w ∧ VRL F φ args cargs.toList
  | .yield l args => ∃ L cargs, φ l = some L ∧ VRL F φ args cargs.toList ∧ s.run P w = (Instr.yield L.B cargs).run P w
  | .defer d => ∃ dd, s.run P w = .ok (.defer dd) w ∧ DefR F φ d dd
  | .panic v => ∃ u, s.run P w = .halt (.panic u) w ∧ VR F φ v u
  | .recover => s.run P w = .ok .recover w

section
variable {P : Program} {F : Terr} {φ : Phi} {n : Nat} {h : Nat → Option ABlk} {w : World}

theorem r_v {s : Sem Value} {u : Value} {w' : World} (hs : s.run P w = .ok u w') : (do pure (Next.value (← s)) : Sem Next).run P w = .ok (.value u) w' := by simp [hs]

theorem OpOk.pure (hr : HR P F φ n h w) {s : Sem Next} {v : AV} {u : Value} (hs : s.run P w = .ok (.value u) w) (hv : VR F φ v u) : OpOk P F φ n h w s (.val v [] n) :=
  ⟨u, w, φ, .inl hs, hr, Ext.refl .., hv⟩

theorem VR.undef : VR F φ (.tup []) Go.undef := .tup rfl fun i x v hi => by simp at hi

theorem hasBody_spec {f : Nat} (hb : hasBody P f = true) : ∃ fn, P.funcs[f]? = some fn ∧ fn.body.isSome = true := by
  unfold hasBody at hb
  split at hb
  · rename_i fn hf
    exact ⟨fn, hf, hb⟩
  · cases hb

theorem r_callFunc (hP : Fit P) {f : Nat} {args : Array Value} (hb : hasBody P f = true) : (callFunc f args).run P w = .ok (.enter f args) w := by
  obtain ⟨fn, hf, hb'⟩ := hasBody_spec hb
  have hn := hP.names f fn hf
  cases hq : fn.body with
  | none => simp [hq] at hb'
  | some c => simp [callFunc, hf, hn, hq]

theorem callA_sound (hP : Fit P) {fv : AV} {fc : Value} {args : List AV} {cargs : Array Value} {nx : ANext} (hf : VR F φ fv fc) (ha : VRL F φ args cargs.toList) (hc : callA P fv args = some nx) :
    OpOk P F φ n h w (do let d ← Deferred.ofValue fc cargs; invoke d.target d.args) nx := by
  unfold callA at hc
  split at hc
  · rename_i f first captured
    split at hc
    · rename_i hb
      cases hc
      cases hf with
      | @fn _ _ _ vs us hy hl hl' h1 h2 =>
        have v1 : VRL F φ first vs.toList := VRL.mk (by simpa using hl) fun i x v hx hv => h1 i x v hx (by simpa using hv)
        have v2 : VRL F φ captured us.toList := VRL.mk (by simpa using hl') fun i x v hx hv => h2 i x v hx (by simpa using hv)
        refine ⟨vs ++ cargs ++ us, ?_, ?_⟩
        · simp [Deferred.ofValue, invoke, r_callFunc hP hb]
        · rw [Array.toList_append, Array.toList_append]
          exact (v1.append ha).append v2
    · cases hc
  · cases hc
    cases hf with
    | yld hL => exact ⟨_, cargs, hL, ha, by simp [Deferred.ofValue, invoke]⟩
  · cases hc

theorem invokeA_sound (hP : Fit P) {recv : AV} {rc : Value} {name : String} {args : List AV} {cargs : Array Value} {nx : ANext} (hv : VR F φ recv rc) (ha : VRL F φ args cargs.toList) (hc : invokeA P recv name args = some nx) :
    OpOk P F φ n h w (invoke (.fn (.method name) #[]) (#[rc] ++ cargs)) nx := by
  unfold invokeA at hc
  split at hc
  · rename_i t v
    cases hi : P.info? t with
    | none => simp [hi] at hc
    | some i =>
    cases hm : i.methods.find? (·.name == name) with
    | none => simp [hi, hm] at hc
    | some m =>
      simp only [hi, Option.bind_some, hm] at hc
      cases hv with
      | @ifc _ _ u hu =>
        cases hfunc : m.func with
        | none => simp [hfunc] at hc
        | some fp =>
        obtain ⟨f, p⟩ := fp
        cases hund : P.underlying t with
        | none => simp [hfunc, hund] at hc
        | some d =>
        simp only [hfunc, hund] at hc
        split at hc
        · rename_i hcond
          simp only [Bool.and_eq_true, beq_iff_eq] at hcond
          obtain ⟨⟨hpath, hk⟩, hb⟩ := hcond
          cases hc
          refine ⟨#[u] ++ cargs, ?_, ?_⟩
          · have hp0 : m.path.toList = [] := by
              have : m.path.toList.length = 0 := by simpa using hpath
              exact List.eq_nil_of_length_eq_zero this
            obtain ⟨k, hk'⟩ : ∃ k, P.types.size + Made.depth = k + 1 := ⟨P.types.size + Made.depth - 1, by have := hP.depth; unfold Program.depth at this; omega⟩
            have hrecv : ∀ wr, (receiverAt t (.val u) p wr).run P w = .ok u w := by
              intro wr
              cases d <;> cases p <;> simp_all [receiverAt, r_underlying hund, Place.get, recvOk]
            have h0 : (#[Value.iface t u] ++ cargs)[0]? = some (Value.iface t u) := by simp [Array.getElem?_append]
            simp [invoke, h0, callMethod, hk', method, r_typeInfo hi, hm, hp0, follow, hfunc, hrecv, r_callFunc hP hb]
          · simp only [Array.toList_append]
            exact VRL.append (xs := [v]) ⟨hu, trivial⟩ ha
        · cases hc
  · cases hc

theorem opnd_VR {t : Nat → AV} {a : Act} (ht : ∀ i, VR F φ (t i) (a.tmps.getD i undef)) (x : Operand) : VR F φ (opnd t x) (a.eval x) := by
  cases x with
  | tmp i => exact ht i
  | const v => exact ofConst_VR v
  | global g => exact .any _
  | func f => exact .fn (fun l => by simp) rfl rfl (fun i x v hx => by simp at hx) (fun i x v hx => by simp at hx)

theorem builtinA_sound (hr : HR P F φ n h w) {b : Builtin} {ats : Array TypeId} {ty : TypeId} {consts : Array Bool} {args : List AV} {cargs : Array Value} {nx : ANext} (ha : VRL F φ args cargs.toList) (hc : builtinA P h n b ats args = some nx) :
    OpOk P F φ n h w (builtin b ats ty consts cargs) nx := by
  obtain ⟨cl⟩ := cargs
  unfold builtinA at hc
  split at hc
  · -- len
    rename_i x
    match cl, ha with
    | [vx], ⟨hx, _⟩ =>
      cases h0 : ats[0]? with
      | none => simp [h0] at hc
      | some t =>
      simp only [h0, Option.bind_some] at hc
      split at hc
      · rename_i s hu
        cases hc; cases hx
        exact .pure hr (by simp [builtin, Builtin.len_, h0, r_underlying hu, goInt]) (.int _ _)
      · rename_i e rows tight hu
        cases hc
        have hv : ∃ a c, vx = .slice a rows.length c := by
          cases hx with
          | roe _ => exact ⟨_, _, rfl⟩
          | ro g hn _ _ _ _ _ _ _ => exact ⟨_, _, by rw [hn]⟩
        obtain ⟨a, c, rfl⟩ := hv
        exact .pure hr (by simp [builtin, Builtin.len_, h0, r_underlying hu, goInt]) (.int _ _)
      · rename_i e b s m c hu
        cases hc; cases hx
        exact .pure hr (by simp [builtin, Builtin.len_, h0, r_underlying hu, goInt]) (.int _ _)
      · rename_i k e hu
        cases hc; cases hx
        exact .pure hr (by simp [builtin, Builtin.len_, h0, r_underlying hu, goInt]) (.int _ _)
      · rename_i k e b hu
        split at hc
        · rename_i es hb
          cases hc
          obtain ⟨L, g1, g2, ents, clock, g3, g4, g5, g6⟩ := hr.blk b _ hb
          cases hx with
          | map hL =>
            rw [g1] at hL
            cases hL
            have hl := g4.length
            simp at hl
            exact .pure (u := .int .i64 ents.size) hr (by simp [builtin, Builtin.len_, h0, r_underlying hu, r_getObj g3, goInt]) (by rw [hl]; exact .int _ _)
        · cases hc
      · cases hc
  · -- append
    rename_i x y
    match cl, ha with
    | [vx, vy], ⟨hx, hy, _⟩ =>
      cases h0 : ats[0]? with
      | none => simp [h0] at hc
      | some st =>
      cases h1 : ats[1]? with
      | none => simp [h0, h1] at hc
      | some xt =>
      cases hxt : P.underlying xt with
      | none => simp [h0, h1, hxt] at hc
      | some d =>
      cases d with
      | slice e' =>
        simp only [h0, h1, Option.bind_some, hxt] at hc
        obtain ⟨v, ups, n', rfl, u, w', φ', k1, k2, k3, k4⟩ := appendA_sound (ty := ty) hr hx hy h0 h1 hxt hc
        exact ⟨u, w', φ', .inl (r_v k1), k2, k3, k4⟩
      | _ => simp [h0, h1, hxt] at hc
  · -- clear
    rename_i x
    match cl, ha with
    | [vx], ⟨hx, _⟩ =>
      cases h0 : ats[0]? with
      | none => simp [h0] at hc
      | some t =>
        simp only [h0, Option.bind_some] at hc
        obtain ⟨v, ups, n', rfl, u, w', k1, k2, k3, k4⟩ := clearA_sound (ty := ty) hr h0 hx hc
        exact ⟨u, w', φ, .inl (r_v k1), k2, k3, k4⟩
  · rename_i k a k' b
    match cl, ha with
    | [vx, vy], ⟨hx, hy, _⟩ =>
      split at hc
      · rename_i hk
        subst hk
        cases hc; cases hx; cases hy
        exact .pure hr (by simp [builtin, Builtin.max_, Builtin.max2]) (.int _ _)
      · cases hc
  · rename_i k a k' b
    match cl, ha with
    | [vx, vy], ⟨hx, hy, _⟩ =>
      split at hc
      · rename_i hk
        subst hk
        cases hc; cases hx; cases hy
        exact .pure hr (by simp [builtin, Builtin.min_, Builtin.min2]) (.int _ _)
      · cases hc
  · rename_i k a k' b k'' c
    match cl, ha with
    | [vx, vy, vz], ⟨hx, hy, hz, _⟩ =>
      split at hc
      · rename_i hk
        obtain ⟨rfl, rfl⟩ := hk
        cases hc; cases hx; cases hy; cases hz
        exact .pure hr (by simp [builtin, Builtin.max_, Builtin.max2]) (.int _ _)
      · cases hc
  · rename_i k a k' b k'' c
    match cl, ha with
    | [vx, vy, vz], ⟨hx, hy, hz, _⟩ =>
      split at hc
      · rename_i hk
        obtain ⟨rfl, rfl⟩ := hk
        cases hc; cases hx; cases hy; cases hz
        exact .pure hr (by simp [builtin, Builtin.min_, Builtin.min2]) (.int _ _)
      · cases hc
  · match cl, ha with
    | [], _ =>
      cases hc
      rfl
  · cases hc
end

end Go.Ab
