/- One operation: the evaluator's word on it holds of the machine. -/
import Derived.Test.YtgcecmiboiomhaaGreatAbA2
import Derived.AtR
import Derived.Defers
import Derived.Recover
namespace Go.Ab
open Go

section
variable {P : Program} {F : Terr} {φ : Phi} {n : Nat} {h : Nat → Option ABlk} {w : World}

theorem parts_VR {ρ : Operand → AV} {ρc : Operand → Value} (hρ : ∀ x, VR F φ (ρ x) (ρc x)) (parts : Array (Nat × Operand)) :
    ((parts.toList.map fun (i, x) => (i, ρ x)).map (·.1)) = ((parts.map fun (i, x) => (i, ρc x)).toList.map (·.1)) ∧
    VRL F φ ((parts.toList.map fun (i, x) => (i, ρ x)).map (·.2)) ((parts.map fun (i, x) => (i, ρc x)).toList.map (·.2)) := by
  rw [Array.toList_map]
  constructor
  · simp [List.map_map, Function.comp_def]
  · rw [List.map_map, List.map_map]
    exact VRL.map (f := fun (x : Nat × Operand) => ρ x.2) (g := fun (x : Nat × Operand) => ρc x.2) (fun x => hρ x.2) parts.toList

theorem r_fields {fs : Array Field} (hs : ∀ f ∈ fs.toList, (sizeT P f.type).isSome = true) :
    (fs.mapM fun f => do pure (f.offset, ← sizeOf f.type) : Sem (Array (Nat × Nat))).run P w = .ok (fs.map fun f => (f.offset, (sizeT P f.type).getD 0)) w := by
  have key : ∀ (l : List Field), (∀ f ∈ l, (sizeT P f.type).isSome = true) → (l.mapM fun f => do pure (f.offset, ← sizeOf f.type) : Sem (List (Nat × Nat))).run P w = .ok (l.map fun f => (f.offset, (sizeT P f.type).getD 0)) w := by
    intro l
    induction l with
    | nil => intro _; rfl
    | cons f l ih =>
      intro hl
      obtain ⟨s, hs'⟩ := Option.isSome_iff_exists.1 (hl f (by simp))
      have h1 := ih fun g hg => hl g (by simp [hg])
      rw [List.mapM_cons]
      simp only [Sem.run_bind, r_sizeOf hs', Result.andThen_ok, Sem.run_pure, h1, List.map_cons, hs', Option.getD_some]
  rw [Array.mapM_eq_mapM_toList]
  have := key fs.toList hs
  simp only [Sem.run_map, this, Result.andThen_ok]
  congr 1
  apply Array.ext'
  simp

theorem aop_sound (hP : Fit P) (hr : HR P F φ n h w) {o : Oper} {ρ : Operand → AV} {ρc : Operand → Value} (hρ : ∀ x, VR F φ (ρ x) (ρc x)) (hc : ∀ c, ρc (.const c) = c) {nx : ANext} (ha : aop P h n ρ o = some nx) :
    OpOk P F φ n h w (execOp ρc o) nx := by
  have pureV : ∀ {s : Sem Value} {x : AV} {u : Value}, s.run P w = .ok u w → VR F φ x u → OpOk P F φ n h w (do pure (Next.value (← s))) (.val x [] n) :=
    fun hs hv => .pure hr (r_v hs) hv
  unfold aop at ha
  unfold execOp
  cases hop : o.op with
  | move x =>
    simp only [hop, Option.some.injEq] at ha
    subst ha
    exact .pure hr rfl (hρ x)
  | assign x =>
    simp only [hop, Option.some.injEq] at ha
    subst ha
    exact .pure hr rfl (hρ x)
  | pick c a b =>
    simp only [hop] at ha ⊢
    have h1 := hρ c
    split at ha
    · rename_i hc'
      cases ha
      rw [hc'] at h1
      cases hv : ρc c <;> rw [hv] at h1 <;> cases h1
      exact .pure hr (by simp [asBool]) (hρ a)
    · rename_i hc'
      cases ha
      rw [hc'] at h1
      cases hv : ρc c <;> rw [hv] at h1 <;> cases h1
      exact .pure hr (by simp [asBool]) (hρ b)
    · cases ha
  | alloc t =>
    simp only [hop] at ha ⊢
    split at ha
    · rename_i z hz
      split at ha
      · rename_i hcond
        cases ha
        obtain ⟨zv, z1, z2⟩ := r_zeroValue (w := w) (F := F) (φ := φ) hz
        obtain ⟨w', φ', k1, k2, k3, k4⟩ := r_newVar hr z2 hcond.1 hcond.2
        exact ⟨_, w', φ', .inl (r_v (by simp [Instr.alloc, z1, k1])), k2, k3, k4⟩
      · cases ha
    · cases ha
  | box t x =>
    simp only [hop] at ha ⊢
    split at ha
    · rename_i hcond
      cases ha
      obtain ⟨w', φ', k1, k2, k3, k4⟩ := r_newVar hr (hρ x) hcond.1 hcond.2
      exact ⟨_, w', φ', .inl (r_v (by simp [Instr.box, k1])), k2, k3, k4⟩
    · cases ha
  | build t parts =>
    simp only [hop] at ha ⊢
    obtain ⟨p1, p2⟩ := parts_VR hρ parts
    cases hu : P.underlying t with
    | none => simp [hu] at ha
    | some d =>
    cases hz : zeroT P t with
    | none => cases d <;> simp [hu, hz] at ha
    | some z =>
    obtain ⟨zv, z1, z2⟩ := r_zeroValue (w := w) (F := F) (φ := φ) hz
    have hzc : z.cells.all AV.one = true → VRL F φ z.cells zv.cells.toList := fun h1 => (z2.cells h1).1
    cases d with
    | struct fs =>
      simp only [hu, hz] at ha
      split at ha
      · rename_i hcond
        obtain ⟨c1, c2⟩ := hcond
        cases hf : fillA (fun i => (fs[i]?).bind fun f => (sizeT P f.type).map fun s => (f.offset, s)) z.cells (parts.toList.map fun (i, x) => (i, ρ x)) with
        | none => simp [hf] at ha
        | some cells =>
          simp only [hf, Option.map_some, Option.some.injEq] at ha
          subst ha
          obtain ⟨vc, k1, k2⟩ := fill_sound hf p1 p2 (hzc c1)
          have hplace : (fun (i : Nat) => (fs[i]?).bind fun (f : Field) => (sizeT P f.type).map fun s => (f.offset, s)) = ((fs.map fun f => (f.offset, (sizeT P f.type).getD 0))[·]?) := by
            funext i
            rw [Array.getElem?_map]
            cases hi : fs[i]? with
            | none => rfl
            | some f =>
              obtain ⟨s, hs⟩ := Option.isSome_iff_exists.1 (List.all_eq_true.1 c2 f (by simpa using Array.mem_of_getElem? hi))
              simp [hs]
          rw [hplace] at k1
          refine pureV (u := .agg vc) ?_ (VR.mk_agg k2)
          have k1' : Instr.fill ((fs.map fun f => (f.offset, (sizeT P f.type).getD 0))[·]?) zv.cells (parts.toList.map fun x => (x.fst, ρc x.snd)) = some vc := by simpa using k1
          have hfs := r_fields (P := P) (w := w) (fs := fs) (fun f hf => List.all_eq_true.1 c2 f hf)
          simp only [Instr.build, Sem.run_bind, z1, Result.andThen_ok, r_underlying hu, hfs, Array.toList_map, k1', Sem.run_pure]
      · cases ha
    | array len e =>
      simp only [hu, hz] at ha
      split at ha
      · rename_i s hs
        split at ha
        · rename_i c1
          cases hf : fillA (fun i => some (i * s, s)) z.cells (parts.toList.map fun (i, x) => (i, ρ x)) with
          | none => simp [hf] at ha
          | some cells =>
            simp only [hf, Option.map_some, Option.some.injEq] at ha
            subst ha
            obtain ⟨vc, k1, k2⟩ := fill_sound hf p1 p2 (hzc c1)
            refine pureV (u := .agg vc) ?_ (VR.mk_agg k2)
            have k1' : Instr.fill (fun i => some (i * s, s)) zv.cells (parts.toList.map fun x => (x.fst, ρc x.snd)) = some vc := by simpa using k1
            simp only [Instr.build, Sem.run_bind, z1, Result.andThen_ok, r_underlying hu, r_sizeOf hs, Array.toList_map, k1', Sem.run_pure]
        · cases ha
      · cases ha
    | _ => simp [hu, hz] at ha
  | buildSlice t len parts =>
    simp only [hop] at ha ⊢
    obtain ⟨p1, p2⟩ := parts_VR hρ parts
    split at ha
    · rename_i e he
      split at ha
      · rename_i s z hs hz
        split at ha
        · cases ha
        · rename_i hcond
          simp only [not_or, Nat.not_lt, Decidable.not_not, gt_iff_lt, ne_eq] at hcond
          obtain ⟨c1, c2, c3⟩ := hcond
          split at ha
          · rename_i rs hp
            split at ha
            · rename_i hcond2
              cases ha
              obtain ⟨d1, d2, d3⟩ := hcond2
              obtain ⟨u, w', φ', k1, k2, k3, k4⟩ := buildSlice_sound hr he hs hz c1 c2 c3 hp d1 p1 p2 (fun x hx => List.all_eq_true.1 d2 x hx) d3
              exact ⟨u, w', φ', .inl (r_v k1), k2, k3, k4⟩
            · cases ha
          · cases ha
      · cases ha
    · cases ha
  | load t a =>
    simp only [hop] at ha ⊢
    cases hl : loadA P h t (ρ a) with
    | none => simp [hl] at ha
    | some x =>
      simp only [hl, Option.map_some, Option.some.injEq] at ha
      subst ha
      obtain ⟨u, k1, k2⟩ := loadA_sound hr (hρ a) hl
      exact pureV k1 k2
  | store t a x =>
    simp only [hop] at ha ⊢
    cases hs : storeA P h t (ρ a) (ρ x) with
    | none => simp [hs] at ha
    | some ups =>
      simp only [hs, Option.map_some, Option.some.injEq] at ha
      subst ha
      obtain ⟨w', k1, k2, k3⟩ := storeA_sound hr (hρ a) (hρ x) hs
      exact ⟨undef, w', φ, .inr ⟨rfl, by simp [k1]⟩, k2, k3, VR.undef⟩
  | nilCheck x =>
    simp only [hop] at ha ⊢
    have hx := hρ x
    split at ha
    · rename_i b r o hx'
      cases ha
      rw [hx'] at hx
      generalize ρc x = v at hx ⊢
      cases hx with
      | ptr hL => exact .pure hr rfl (.ptr hL)
    · rename_i row o hx'
      cases ha
      rw [hx'] at hx
      generalize ρc x = v at hx ⊢
      cases hx with
      | rop g hF hcc hh => exact .pure hr rfl (.rop g hF hcc hh)
    · rename_i f a b hx'
      cases ha
      rw [hx'] at hx
      generalize ρc x = v at hx ⊢
      cases hx with
      | fn hf h1 h2 h3 h4 => exact .pure hr rfl (.fn hf h1 h2 h3 h4)
    · rename_i l hx'
      cases ha
      rw [hx'] at hx
      generalize ρc x = v at hx ⊢
      cases hx with
      | yld hL => exact .pure hr rfl (.yld hL)
    · rename_i t y hx'
      cases ha
      rw [hx'] at hx
      generalize ρc x = v at hx ⊢
      cases hx with
      | ifc hv => exact .pure hr rfl (.ifc hv)
    · cases ha
  | binOp op t x y yt =>
    simp only [hop] at ha ⊢
    cases hb : binA P op t x y (ρ x) (ρ y) with
    | none => simp [hb] at ha
    | some r =>
      simp only [hb, Option.map_some, Option.some.injEq] at ha
      subst ha
      obtain ⟨u, k1, k2⟩ := binA_sound (w := w) hP (hρ x) (hρ y) (fun c hy => by rw [hy]; exact hc c) hb
      exact pureV k1 k2
  | unOp op t x =>
    simp only [hop] at ha ⊢
    have hx := hρ x
    generalize ρc x = v at hx ⊢
    split at ha
    · rename_i b hx'
      cases ha
      rw [hx'] at hx
      cases hx
      exact pureV rfl (.bool _)
    · rename_i k a hx'
      cases ha
      rw [hx'] at hx
      cases hx
      exact pureV rfl (.int _ _)
    · cases ha
  | convert src dst x =>
    simp only [hop] at ha ⊢
    have hx := hρ x
    generalize ρc x = v at hx ⊢
    split at ha
    · rename_i d0 k k' a hs hd hx'
      cases ha
      rw [hx'] at hx
      cases hx
      exact pureV (u := .int k (k.wrap a)) (by simp [convert, r_underlying hs, r_underlying hd, Conv.intToInt]) (.int _ _)
    · rename_i d0 s hs hd hx'
      cases ha
      rw [hx'] at hx
      cases hx
      refine pureV (u := .string s) ?_ (.str _)
      cases d0 <;> simp [convert, r_underlying hs, r_underlying hd]
    · cases ha
  | makeInterface t x =>
    simp only [hop] at ha ⊢
    split at ha
    · cases ha
    · cases ha
    · rename_i d hni hd
      cases ha
      refine pureV (u := .iface t (ρc x)) ?_ (.ifc (hρ x))
      simp only [Instr.makeInterface, Sem.run_bind, r_underlying hd, Result.andThen_ok]
      cases d <;> first | rfl | exact absurd rfl (hni _)
  | makeFunc f first captured =>
    simp only [hop] at ha ⊢
    split at ha
    · cases ha
    · rename_i hf
      cases ha
      refine pureV (u := .func f (first.map ρc) (captured.map ρc)) rfl (.fn (fun l hl => by subst hl; simp [isYield] at hf) (by simp) (by simp) (fun i x v hx hv => ?_) (fun i x v hx hv => ?_))
      · exact (VRL.map hρ first.toList).get i x v hx (by simpa using hv)
      · exact (VRL.map hρ captured.toList).get i x v hx (by simpa using hv)
  | makeMap t r =>
    simp only [hop] at ha ⊢
    cases r with
    | some _ => simp at ha
    | none =>
      simp only [Option.some.injEq] at ha
      subst ha
      obtain ⟨k1, k2⟩ := hr.alloc (w' := { w with heap := w.heap.push (.map #[] 0) }) (o := .map #[] 0) rfl (.map []) 0 0 0 0 ⟨#[], 0, by simp, trivial, trivial, fun e he => by simp at he⟩
      exact ⟨.map (some w.heap.size), _, _, .inl (r_v (by simp [Instr.makeMap])), k1, k2, .map (L := ⟨w.heap.size, 0, 0, 0, 0⟩) (by simp [pset])⟩
  | insert t m k x =>
    simp only [hop] at ha ⊢
    obtain ⟨ups, rfl, w', k1, k2, k3⟩ := mapPutA_sound hr (hρ m) (hρ k) (hρ x) ha
    exact ⟨undef, w', φ, .inr ⟨rfl, by simp [k1]⟩, k2, k3, VR.undef⟩
  | mapUpdate t m k x =>
    simp only [hop] at ha ⊢
    obtain ⟨ups, rfl, w', k1, k2, k3⟩ := mapPutA_sound hr (hρ m) (hρ k) (hρ x) ha
    exact ⟨undef, w', φ, .inr ⟨rfl, by simp [k1]⟩, k2, k3, VR.undef⟩
  | lookup t m k ok =>
    simp only [hop] at ha ⊢
    cases hl : lookupA P h t (ρ m) (ρ k) ok with
    | none => simp [hl] at ha
    | some x =>
      simp only [hl, Option.map_some, Option.some.injEq] at ha
      subst ha
      obtain ⟨u, k1, k2⟩ := lookupA_sound hr (hρ m) (hρ k) hl
      exact pureV k1 k2
  | makeSlice t l c =>
    simp only [hop] at ha ⊢
    have hl := hρ l
    have hcc := hρ c
    generalize ρc l = vl at hl ⊢
    generalize ρc c = vc at hcc ⊢
    split at ha
    · rename_i e l' c' he hl' hc'
      split at ha
      · rename_i s z bytes hs hz hb
        split at ha
        · rename_i hcond
          obtain ⟨d1, d2, d3, d4, d5⟩ := hcond
          cases ha
          rw [hl'] at hl
          rw [hc'] at hcc
          cases hl; cases hcc
          obtain ⟨u, w', φ', k1, k2, k3, k4⟩ := makeSlice_sound hr he hs hz hb d1 d2 d3 d4 d5
          exact ⟨u, w', φ', .inl (r_v k1), k2, k3, k4⟩
        · cases ha
      · cases ha
    · cases ha
  | slice t x lo hi mx =>
    simp only [hop] at ha ⊢
    cases hs : sliceA P h t (ρ x) (lo.map ρ) (hi.map ρ) (mx.map ρ) with
    | none => simp [hs] at ha
    | some r =>
      simp only [hs, Option.map_some, Option.some.injEq] at ha
      subst ha
      obtain ⟨u, k1, k2⟩ := sliceA_sound hr (hρ x) (OVR.map hρ lo) (OVR.map hρ hi) (OVR.map hρ mx) hs
      exact pureV k1 k2
  | fieldAddr t x f =>
    simp only [hop] at ha ⊢
    have hx := hρ x
    generalize ρc x = v at hx ⊢
    split at ha
    · rename_i f' hf
      split at ha
      · rename_i k b r o hs hx'
        cases ha
        rw [hx'] at hx
        cases hx with
        | ptr hL => exact pureV (r_fieldAt hf hs) (by rw [Nat.add_assoc]; exact .ptr hL)
      · rename_i k row o hs hx'
        cases ha
        rw [hx'] at hx
        cases hx with
        | rop g hF hcc hh => exact pureV (r_fieldAt hf hs) (by rw [Nat.add_assoc]; exact .rop g hF hcc hh)
      · cases ha
    · cases ha
  | field t x f =>
    simp only [hop] at ha ⊢
    have hx := hρ x
    generalize ρc x = v at hx ⊢
    split at ha
    · rename_i f' cs hf hx'
      rw [hx'] at hx
      obtain ⟨vs, rfl, hvs⟩ := hx.of_agg
      cases hp : partA P f'.type cs f'.offset with
      | none => simp [hp] at ha
      | some y =>
        simp only [hp, Option.map_some, Option.some.injEq] at ha
        subst ha
        obtain ⟨u, k1, k2⟩ := partA_part (P := P) (w := w) hvs hp
        obtain ⟨fs, hu, hi⟩ := fieldA_spec hf
        exact pureV (u := u) (by simp [Instr.field, r_underlying hu, hi, asAgg, k1]) k2
    · cases ha
  | indexAddr t x i =>
    simp only [hop] at ha ⊢
    have hx := hρ x
    have hi := hρ i
    generalize ρc x = v at hx ⊢
    generalize ρc i = vi at hi ⊢
    cases hix : ρ i with
    | int ki i' =>
      rw [hix] at hi
      cases hi
      cases hu : P.underlying t with
      | none => simp [hu] at ha
      | some d =>
      cases hxx : ρ x with
      | ro rows tight =>
        rw [hxx] at hx
        cases d with
        | slice e =>
          simp only [hu, hxx, hix] at ha
          split at ha
          · rename_i h0
            split at ha
            · rename_i r hr'
              split at ha
              · rename_i hs
                cases ha
                cases hx with
                | roe ht => simp at hr'
                | @ro _ _ a nn cap size cs tt fr g hn hF hsp hcap ht hsz hcc hh =>
                  have hlt : i'.toNat < rows.length := (List.getElem?_eq_some_iff.1 hr').1
                  have hsize := hsz _ _ hr'
                  refine pureV (u := .pointer (some (a.add (i'.toNat * r.length)))) ?_ ?_
                  · have : 0 ≤ i' ∧ i' < (nn : Int) := ⟨h0, by omega⟩
                    simp [Instr.indexAt, asIntOf, r_underlying hu, this, r_sizeOf hs]
                  · have haa : a = ⟨a.block, a.off, none⟩ := by cases a; simp_all
                    rw [haa, addr_add, hsize]
                    have := VR.rop (F := F) (φ := φ) (row := r) (o := 0) (B := a.block) (off := a.off + i'.toNat * size) (g i'.toNat) hF (fun j x hj => hcc _ _ _ _ hr' hj) (fun j x hj => hh _ _ _ _ hr' hj)
                    simpa using this
              · cases ha
            · cases ha
          · cases ha
        | _ => simp [hu, hxx, hix] at ha
      | sl b s m c =>
        rw [hxx] at hx
        cases d with
        | slice e =>
          simp only [hu, hxx, hix] at ha
          split at ha
          · rename_i h0
            split at ha
            · rename_i t' rs hb
              split at ha
              · rename_i hs
                cases ha
                obtain ⟨L, g1, g2, g3⟩ := hr.blk b _ hb
                obtain ⟨cs, _, q2, _⟩ := g3.flat
                cases hx with
                | @sl _ _ _ cap _ L' a hL hn hcc hrm htt haa =>
                  rw [g1] at hL
                  cases hL
                  have hae := haa (by omega)
                  subst hae
                  refine pureV (u := .pointer (some ⟨L.B, L.base + (s + i'.toNat) * L.size + 0, none⟩)) ?_ (.ptr g1)
                  rw [q2] at hs
                  have h0' : 0 ≤ i' ∧ i' < (m : Int) := h0
                  simp [Instr.indexAt, asIntOf, r_underlying hu, h0', r_sizeOf hs.symm, addr_add]
                  rw [Nat.add_mul]
                  omega
              · cases ha
            · cases ha
          · cases ha
        | _ => simp [hu, hxx, hix] at ha
      | ptr b r o =>
        rw [hxx] at hx
        cases d with
        | array len e =>
          simp only [hu, hxx, hix] at ha
          split at ha
          · rename_i sz hs
            split at ha
            · rename_i h0
              cases ha
              cases hx with
              | @ptr _ _ _ L hL =>
                refine pureV (u := .pointer (some ⟨L.B, L.base + r * L.size + (o + i'.toNat * sz), none⟩)) ?_ (.ptr hL)
                have h0' : 0 ≤ i' ∧ i' < (len : Int) := ⟨h0.1, h0.2.1⟩
                simp [Instr.indexAt, asIntOf, r_underlying hu, Instr.sureAddr, h0', r_sizeOf hs, addr_add]
                omega
            · cases ha
          · cases ha
        | _ => simp [hu, hxx, hix] at ha
      | rop row o =>
        rw [hxx] at hx
        cases d with
        | array len e =>
          simp only [hu, hxx, hix] at ha
          split at ha
          · rename_i sz hs
            split at ha
            · rename_i h0
              cases ha
              cases hx with
              | @rop _ _ B off cs tt fr g hF hcc hh =>
                refine pureV (u := .pointer (some ⟨B, off + (o + i'.toNat * sz), none⟩)) ?_ (.rop g hF hcc hh)
                have h0' : 0 ≤ i' ∧ i' < (len : Int) := ⟨h0.1, h0.2.1⟩
                simp [Instr.indexAt, asIntOf, r_underlying hu, Instr.sureAddr, h0', r_sizeOf hs, addr_add]
                omega
            · cases ha
          · cases ha
        | _ => simp [hu, hxx, hix] at ha
      | _ => cases d <;> simp [hu, hxx, hix] at ha
    | _ => simp [hix] at ha
  | index t x i =>
    simp only [hop] at ha ⊢
    have hx := hρ x
    have hi := hρ i
    generalize ρc x = v at hx ⊢
    generalize ρc i = vi at hi ⊢
    cases hix : ρ i with
    | int ki i' =>
      rw [hix] at hi
      cases hi
      cases hu : P.underlying t with
      | none => simp [hu] at ha
      | some d =>
      cases hxx : ρ x with
      | str s =>
        rw [hxx] at hx
        cases hx
        cases d with
        | string =>
          simp only [hu, hxx, hix] at ha
          split at ha
          · rename_i h0
            cases hb : s[i'.toNat]? with
            | none => simp [hb] at ha
            | some b =>
              simp only [hb, Option.map_some, Option.some.injEq] at ha
              subst ha
              exact pureV (u := .int .u8 b.toNat) (by simp [Instr.index, asIntOf, r_underlying hu, h0, hb]) (.int _ _)
          · cases ha
        | _ => simp [hu, hxx, hix] at ha
      | agg cs =>
        rw [hxx] at hx
        obtain ⟨vs, rfl, hvs⟩ := hx.of_agg
        cases d with
        | array len e =>
          simp only [hu, hxx, hix] at ha
          split at ha
          · rename_i sz hs
            split at ha
            · rename_i h0
              cases hp : partA P e cs (i'.toNat * sz) with
              | none => simp [hp] at ha
              | some y =>
                simp only [hp, Option.map_some, Option.some.injEq] at ha
                subst ha
                obtain ⟨u, k1, k2⟩ := partA_part (P := P) (w := w) hvs hp
                exact pureV (u := u) (by simp [Instr.index, asIntOf, r_underlying hu, h0, r_sizeOf hs, k1]) k2
            · cases ha
          · cases ha
        | _ => simp [hu, hxx, hix] at ha
      | _ => cases d <;> simp [hu, hxx, hix] at ha
    | _ => simp [hix] at ha
  | typeAssert x xt asserted ok =>
    simp only [hop] at ha ⊢
    have hx := hρ x
    generalize ρc x = v at hx ⊢
    split at ha
    · cases ha
    · cases ha
    · rename_i d hni hd
      have nomatch' : ∀ ms, d ≠ .interface ms := fun ms he => hni ms (by rw [he])
      split at ha
      · rename_i t y hx'
        rw [hx'] at hx
        cases hx with
        | @ifc _ _ u hu =>
          split at ha
          · rename_i ht
            subst ht
            cases ha
            refine pureV (u := if ok then .tuple #[u, .bool true] else u) ?_ ?_
            · cases d <;> first | exact absurd rfl (nomatch' _) | simp [Instr.typeAssert, r_underlying hd]
            · cases ok
              · exact hu
              · exact VR.mk_tup ⟨hu, .bool _, trivial⟩
          · rename_i ht
            split at ha
            · rename_i hok
              subst hok
              cases hz : zeroT P asserted with
              | none => simp [hz] at ha
              | some z =>
                simp only [hz, Option.map_some, Option.some.injEq] at ha
                subst ha
                obtain ⟨zv, z1, z2⟩ := r_zeroValue (w := w) (F := F) (φ := φ) hz
                refine pureV (u := .tuple #[zv, .bool false]) ?_ (VR.mk_tup ⟨z2, .bool _, trivial⟩)
                cases d <;> first | exact absurd rfl (nomatch' _) | simp [Instr.typeAssert, r_underlying hd, ht, z1]
            · cases ha
      · rename_i hx'
        rw [hx'] at hx
        cases hx
        split at ha
        · rename_i hok
          subst hok
          cases hz : zeroT P asserted with
          | none => simp [hz] at ha
          | some z =>
            simp only [hz, Option.map_some, Option.some.injEq] at ha
            subst ha
            obtain ⟨zv, z1, z2⟩ := r_zeroValue (w := w) (F := F) (φ := φ) hz
            refine pureV (u := .tuple #[zv, .bool false]) ?_ (VR.mk_tup ⟨z2, .bool _, trivial⟩)
            cases d <;> first | exact absurd rfl (nomatch' _) | simp [Instr.typeAssert, r_underlying hd, z1]
        · cases ha
      · cases ha
  | extract x i =>
    simp only [hop] at ha ⊢
    have hx := hρ x
    generalize ρc x = v at hx ⊢
    split at ha
    · rename_i vs hx'
      rw [hx'] at hx
      obtain ⟨us, rfl, hvs⟩ := hx.of_tup
      cases hi : vs[i]? with
      | none => simp [hi] at ha
      | some y =>
        simp only [hi, Option.map_some, Option.some.injEq] at ha
        subst ha
        obtain ⟨u, k1, k2⟩ := hvs.some hi
        have k1' : us[i]? = some u := by simpa using k1
        exact pureV (u := u) (by simp [Instr.extract, k1']) k2
    · cases ha
  | call c =>
    simp only [hop] at ha ⊢
    have hargs : VRL F φ (c.args.toList.map ρ) (c.args.map ρc).toList := by
      rw [Array.toList_map]
      exact VRL.map hρ _
    cases hcl : c.callee with
    | builtin b =>
      simp only [hcl] at ha
      simp only [resolve, hcl, pure_bind, invoke]
      exact builtinA_sound hr hargs ha
    | value f =>
      simp only [hcl] at ha
      have := callA_sound (n := n) (h := h) (w := w) hP (hρ f) hargs ha
      simpa [resolve, hcl] using this
    | invoke r m =>
      simp only [hcl] at ha
      have := invokeA_sound (n := n) (h := h) (w := w) hP (hρ r) hargs ha
      simpa [resolve, hcl] using this
  | defer c =>
    simp only [hop] at ha ⊢
    have hargs : VRL F φ (c.args.toList.map ρ) (c.args.map ρc).toList := by
      rw [Array.toList_map]
      exact VRL.map hρ _
    cases hcl : c.callee with
    | value f =>
      simp only [hcl] at ha
      have hf := hρ f
      split at ha
      · rename_i g first captured hf'
        cases ha
        rw [hf'] at hf
        generalize hfc : ρc f = fv at hf
        cases hf with
        | @fn _ _ _ vs us hy hl hl' h1 h2 =>
          have v1 : VRL F φ first vs.toList := VRL.mk (by simpa using hl) fun i x v hx hv => h1 i x v hx (by simpa using hv)
          have v2 : VRL F φ captured us.toList := VRL.mk (by simpa using hl') fun i x v hx hv => h2 i x v hx (by simpa using hv)
          exact ⟨{ target := .fn (.func g) us, args := vs ++ c.args.map ρc }, by simp [resolve, hcl, hfc, Deferred.ofValue], g, first, captured, us, rfl, rfl, v2, by rw [Array.toList_append]; exact v1.append hargs⟩
      · cases ha
    | builtin b => simp [hcl] at ha
    | invoke r m => simp [hcl] at ha
  | panic x =>
    simp only [hop] at ha ⊢
    have hx := hρ x
    generalize ρc x = v at hx ⊢
    split at ha
    · rename_i t y hx'
      cases ha
      rw [hx'] at hx
      cases hx with
      | ifc hu => exact ⟨_, by simp [Instr.panic], .ifc hu⟩
    · cases ha
  | _ => simp [hop] at ha
end

end Go.Ab

/- Runs: states of an activation, and the rules for code. -/
namespace Go.Ab
open Go

structure ASt where
  t : Nat → AV
  nt : Nat
  d : List (ADef ⊕ Nat)
  h : Nat → Option ABlk
  n : Nat
  u : Option AMode

def ASt.put (σ : ASt) (dst : Option Tmp) (v : AV) : ASt :=
  match dst with
  | some d => if d < σ.nt then { σ with t := fun i => if i = d then v else σ.t i } else σ
  | none => σ

def MR (F : Terr) (φ : Phi) : AMode → FrameMode → Prop
  | .ret, m => m = .returning
  | .pan v r, m => ∃ vc, VR F φ v vc ∧ m = .panicking [{ v := vc, recovered := r }]

def UR (F : Terr) (φ : Phi) : Option AMode → Frame → List Frame → Prop
  | none, _, _ => True
  | some m, b, cs => b.kind = .deferred ∧ b.roundOf = none ∧ ∃ c0 cs0, cs = c0 :: cs0 ∧ MR F φ m c0.mode

def CsR : Option AMode → List Frame → List Frame → Prop
  | none, cs, cs' => cs' = cs
  | some _, cs, cs' => ∃ c0 cs0 m, cs = c0 :: cs0 ∧ cs' = { c0 with mode := m } :: cs0

def DR (F : Terr) (φ : Phi) : (ADef ⊕ Nat) → Deferred → Prop
  | .inl d, dd => DefR F φ d dd
  | .inr b, dd => ∃ L, φ b = some L ∧ dd = { target := .collected L.B, args := #[] }

def DsR (F : Terr) (φ : Phi) : List (ADef ⊕ Nat) → List Deferred → Prop
  | [], [] => True
  | x :: xs, d :: ds => DR F φ x d ∧ DsR F φ xs ds
  | _, _ => False

structure SR (P : Program) (F : Terr) (φ : Phi) (σ : ASt) (b : Frame) (a : Act) (cs : List Frame) (w : World) : Prop where
  tmps : ∀ i, VR F φ (σ.t i) (a.tmps.getD i undef)
  size : a.tmps.size = σ.nt
  defs : DsR F φ σ.d a.defers
  heap : HR P F φ σ.n σ.h w
  fn : (P.funcs[b.fn]?).isSome = true
  mode : UR F φ σ.u b cs

/-- From one state of a run to a later one. -/
structure Goes (F : Terr) (φ : Phi) (σ : ASt) (w : World) (F' : Terr) (φ' : Phi) (σ' : ASt) (w' : World) : Prop where
  ext : Ext F φ σ.n σ.h w F' φ' σ'.n w'
  dom : ∀ b x, σ'.h b = some x → b < σ.n → ∃ y, σ.h b = some y
  nt : σ'.nt = σ.nt
  u : σ'.u.isSome = σ.u.isSome

def Arr (P : Program) (F : Terr) (φ : Phi) (m : Machine) (b : Frame) (k : List Item) (cs : List Frame) : AExit → Act → World → Prop
  | .normal, a, w => Steps P m (lone (b.atR a k) cs w)
  | .exit id, a, w => ∃ k0, exitTo id k0 = exitTo id k ∧ Steps P m (lone (b.atR a (.code (.exit id) :: k0)) cs w)
  | .ret, a, w => ∃ k0, Steps P m (lone (b.atR a (.code .ret :: k0)) cs w)
  | .panic v, a, w => ∃ k0 vc, VR F φ v vc ∧ Steps P m (lone { b.atR a k0 with mode := .panicking [{ v := vc, recovered := false }] } cs w)

/-- From a list of items on, an activation comes to one of the ends that Q tells. -/
def ItemsOk (P : Program) (rd : Bool) (items : List Item) (σ : ASt) (Q : AExit → ASt → Prop) : Prop :=
  ∀ F φ b a k cs w, SR P F φ σ b a cs w → b.roundOf.isSome = rd →
    ∃ e σ' F' φ' a' cs' w', Q e σ' ∧ SR P F' φ' σ' b a' cs' w' ∧ Goes F φ σ w F' φ' σ' w' ∧ CsR σ.u cs cs' ∧ Arr P F' φ' (lone (b.atR a (items ++ k)) cs w) b k cs' e a' w'

abbrev CodeOk (P : Program) (rd : Bool) (c : Code) (σ : ASt) (Q : AExit → ASt → Prop) : Prop := ItemsOk P rd [.code c] σ Q

section
variable {P : Program} {F F' F2 : Terr} {φ φ' φ2 : Phi} {σ σ' σ2 : ASt} {b : Frame} {a a' : Act} {cs cs' cs2 : List Frame} {w w' w2 : World} {rd : Bool} {Q : AExit → ASt → Prop}

theorem Goes.refl (F : Terr) (φ : Phi) (σ : ASt) (w : World) : Goes F φ σ w F φ σ w := ⟨Ext.refl .., fun _ x h _ => ⟨x, h⟩, rfl, rfl⟩

theorem Goes.trans (hr : HR P F φ σ.n σ.h w) (g1 : Goes F φ σ w F' φ' σ' w') (g2 : Goes F' φ' σ' w' F2 φ2 σ2 w2) : Goes F φ σ w F2 φ2 σ2 w2 :=
  ⟨g1.ext.trans hr g1.dom g2.ext, fun b x hx hb => by
    obtain ⟨y, hy⟩ := g2.dom b x hx (Nat.lt_of_lt_of_le hb g1.ext.nle)
    exact g1.dom b y hy hb, by rw [g2.nt, g1.nt], by rw [g2.u, g1.u]⟩

theorem CsR.refl (hu : UR F φ σ.u b cs) : CsR σ.u cs cs := by
  cases h : σ.u with
  | none => rfl
  | some m =>
    rw [h] at hu
    obtain ⟨_, _, c0, cs0, rfl, _⟩ := hu
    exact ⟨c0, cs0, c0.mode, rfl, rfl⟩

theorem CsR.trans {u u' : Option AMode} (hu : u'.isSome = u.isSome) (h1 : CsR u cs cs') (h2 : CsR u' cs' cs2) : CsR u cs cs2 := by
  cases u with
  | none =>
    cases u' with
    | none => cases h1; exact h2
    | some _ => simp at hu
  | some m =>
    cases u' with
    | none => simp at hu
    | some m' =>
      obtain ⟨c0, cs0, q, rfl, rfl⟩ := h1
      obtain ⟨c1, cs1, q', h3, rfl⟩ := h2
      cases h3
      exact ⟨c0, cs0, q', rfl, rfl⟩

theorem Arr.of_steps {m m1 : Machine} {k : List Item} {e : AExit} (h : Steps P m m1) (h' : Arr P F φ m1 b k cs e a w) : Arr P F φ m b k cs e a w := by
  cases e with
  | normal => exact h.trans h'
  | exit id => obtain ⟨k0, h1, h2⟩ := h'; exact ⟨k0, h1, h.trans h2⟩
  | ret => obtain ⟨k0, h2⟩ := h'; exact ⟨k0, h.trans h2⟩
  | panic v => obtain ⟨k0, vc, h1, h2⟩ := h'; exact ⟨k0, vc, h1, h.trans h2⟩

theorem ItemsOk.mono {items : List Item} {Q' : AExit → ASt → Prop} (h : ItemsOk P rd items σ Q) (hq : ∀ e σ', Q e σ' → Q' e σ') : ItemsOk P rd items σ Q' := by
  intro F φ b a k cs w hs hrd
  obtain ⟨e, σ', F', φ', a', cs', w', q, rest⟩ := h F φ b a k cs w hs hrd
  exact ⟨e, σ', F', φ', a', cs', w', hq _ _ q, rest⟩

/-- One item, then others. -/
theorem ItemsOk.then {x y : List Item} (hx : ∀ it ∈ x, ∀ id k, exitTo id (it :: k) = exitTo id k ∨ True) (hpass : ∀ id k, exitTo id (y ++ k) = exitTo id k)
    (h : ItemsOk P rd x σ (fun e σ' => match e with | .normal => ItemsOk P rd y σ' Q | e => Q e σ')) : ItemsOk P rd (x ++ y) σ Q := by
  intro F φ b a k cs w hs hrd
  obtain ⟨e, σ1, F1, φ1, a1, cs1, w1, q, s1, g1, c1, r1⟩ := h F φ b a (y ++ k) cs w hs hrd
  rw [List.append_assoc]
  cases e with
  | normal =>
    obtain ⟨e, σ2, F2, φ2, a2, cs2, w2, q2, s2, g2, c2, r2⟩ := q F1 φ1 b a1 k cs1 w1 s1 hrd
    exact ⟨e, σ2, F2, φ2, a2, cs2, w2, q2, s2, g1.trans hs.heap g2, c1.trans g1.u c2, r2.of_steps r1⟩
  | exit id =>
    obtain ⟨k0, h1, h2⟩ := r1
    exact ⟨.exit id, σ1, F1, φ1, a1, cs1, w1, q, s1, g1, c1, k0, by rw [h1, hpass], h2⟩
  | ret => exact ⟨.ret, σ1, F1, φ1, a1, cs1, w1, q, s1, g1, c1, r1⟩
  | panic v => exact ⟨.panic v, σ1, F1, φ1, a1, cs1, w1, q, s1, g1, c1, r1⟩

theorem CodeOk.skip (h : Q .normal σ) : CodeOk P rd .skip σ Q :=
  fun F φ b a k cs w hs _ => ⟨.normal, σ, F, φ, a, cs, w, h, hs, Goes.refl .., CsR.refl hs.mode, .one stepR_skip⟩

theorem CodeOk.ret (h : Q .ret σ) : CodeOk P rd .ret σ Q :=
  fun F φ b a k cs w hs _ => ⟨.ret, σ, F, φ, a, cs, w, h, hs, Goes.refl .., CsR.refl hs.mode, k, .refl _ _⟩

theorem CodeOk.exit {id : Nat} (h : Q (.exit id) σ) : CodeOk P rd (.exit id) σ Q :=
  fun F φ b a k cs w hs _ => ⟨.exit id, σ, F, φ, a, cs, w, h, hs, Goes.refl .., CsR.refl hs.mode, k, rfl, .refl _ _⟩

/-- One step of the machine, and then as told. -/
theorem ItemsOk.step {x y : List Item} (hst : ∀ F φ (b : Frame) a k cs w, SR P F φ σ b a cs w → b.roundOf.isSome = rd → step P (lone (b.atR a (x ++ k)) cs w) = .next (lone (b.atR a (y ++ k)) cs w))
    (h : ItemsOk P rd y σ Q) : ItemsOk P rd x σ Q := by
  intro F φ b a k cs w hs hrd
  obtain ⟨e, σ1, F1, φ1, a1, cs1, w1, q, s1, g1, c1, r1⟩ := h F φ b a k cs w hs hrd
  exact ⟨e, σ1, F1, φ1, a1, cs1, w1, q, s1, g1, c1, r1.of_steps (.one (hst F φ b a k cs w hs hrd))⟩

theorem CodeOk.seq {x y : Code} (h : CodeOk P rd x σ (fun e σ' => match e with | .normal => CodeOk P rd y σ' Q | e => Q e σ')) : CodeOk P rd (.seq x y) σ Q :=
  ItemsOk.step (y := [.code x, .code y]) (fun F φ b a k cs w _ _ => stepR_seq) (ItemsOk.then (x := [.code x]) (y := [.code y]) (fun _ _ _ _ => .inr trivial) (fun _ _ => rfl) h)

theorem CodeOk.cond {c : Operand} {x y : Code} {t : Bool} (hc : opnd σ.t c = .bool t) (h : CodeOk P rd (if t then x else y) σ Q) : CodeOk P rd (.cond c x y) σ Q := by
  refine ItemsOk.step (y := [.code (if t then x else y)]) (fun F φ b a k cs w hs _ => stepR_cond ?_) h
  have := opnd_VR hs.tmps c
  rw [hc] at this
  generalize a.eval c = v at this ⊢
  cases this
  rfl

theorem CodeOk.block {id : Nat} {c : Code} (h : CodeOk P rd c σ (fun e σ' => match e with | .exit id' => if id' = id then Q .normal σ' else Q (.exit id') σ' | e => Q e σ')) : CodeOk P rd (.block id c) σ Q := by
  intro F φ b a k cs w hs hrd
  obtain ⟨e, σ1, F1, φ1, a1, cs1, w1, q, s1, g1, c1, r1⟩ := h F φ b a (.inBlock id :: k) cs w hs hrd
  have h0 : Steps P (lone (b.atR a (.code (.block id c) :: k)) cs w) (lone (b.atR a ([.code c] ++ .inBlock id :: k)) cs w) := .one stepR_block
  cases e with
  | normal => exact ⟨.normal, σ1, F1, φ1, a1, cs1, w1, q, s1, g1, c1, h0.trans (Steps.trans r1 (.one stepR_inBlock))⟩
  | exit id' =>
    obtain ⟨k0, h1, h2⟩ := r1
    by_cases hid : id' = id
    · subst hid
      simp only [if_true] at q
      exact ⟨.normal, σ1, F1, φ1, a1, cs1, w1, q, s1, g1, c1, h0.trans (h2.trans (.one (stepR_exit (by rw [h1]; simp [exitTo]))))⟩
    · simp only [hid, if_false] at q
      refine ⟨.exit id', σ1, F1, φ1, a1, cs1, w1, q, s1, g1, c1, k0, ?_, h0.trans h2⟩
      rw [h1]
      have : (id == id') = false := by simp; exact fun h => hid h.symm
      simp [exitTo, this]
  | ret => obtain ⟨k0, h2⟩ := r1; exact ⟨.ret, σ1, F1, φ1, a1, cs1, w1, q, s1, g1, c1, k0, h0.trans h2⟩
  | panic v => obtain ⟨k0, vc, h1, h2⟩ := r1; exact ⟨.panic v, σ1, F1, φ1, a1, cs1, w1, q, s1, g1, c1, k0, vc, h1, h0.trans h2⟩

/-- A loop, from a round's begin on. -/
abbrev LoopOk (P : Program) (rd : Bool) (c : Code) (σ : ASt) (Q : AExit → ASt → Prop) : Prop := ItemsOk P rd [.code c, .inLoop c] σ Q

theorem LoopOk.round {c : Code} (h : CodeOk P rd c σ (fun e σ' => match e with | .normal => LoopOk P rd c σ' Q | e => Q e σ')) : LoopOk P rd c σ Q :=
  ItemsOk.then (x := [.code c]) (y := [.inLoop c]) (fun _ _ _ _ => .inr trivial) (fun _ _ => rfl) (h.mono fun e σ' q => by
    cases e with
    | normal => exact ItemsOk.step (y := [.code c, .inLoop c]) (fun F φ b a k cs w _ _ => stepR_inLoop) q
    | _ => exact q)

theorem CodeOk.loop {c : Code} (h : LoopOk P rd c σ Q) : CodeOk P rd (.loop c) σ Q :=
  ItemsOk.step (y := [.code c, .inLoop c]) (fun F φ b a k cs w _ _ => stepR_loop) h

/-- A round's begin, out of the loop's. -/
theorem LoopOk.of_loop {c : Code} (h : CodeOk P rd (.loop c) σ Q) : LoopOk P rd c σ Q := by
  intro F φ b a k cs w hs hrd
  obtain ⟨e, σ1, F1, φ1, a1, cs1, w1, q, s1, g1, c1, r1⟩ := h F φ b a k cs w hs hrd
  refine ⟨e, σ1, F1, φ1, a1, cs1, w1, q, s1, g1, c1, ?_⟩
  have hst : step P (lone (b.atR a (.code (.loop c) :: k)) cs w) = .next (lone (b.atR a ([.code c, .inLoop c] ++ k)) cs w) := stepR_loop
  have key : ∀ m', Steps P (lone (b.atR a (.code (.loop c) :: k)) cs w) m' → m' ≠ lone (b.atR a (.code (.loop c) :: k)) cs w → Steps P (lone (b.atR a ([.code c, .inLoop c] ++ k)) cs w) m' := by
    rintro m' ⟨n, hn⟩ hne
    cases n with
    | zero => simp only [runN, Stepped.next.injEq] at hn; exact absurd hn.symm hne
    | succ n =>
      simp only [runN, hst] at hn
      exact ⟨n, hn⟩
  have todo : ∀ {fr fr' : Frame} {cs cs' : List Frame} {w w' : World}, lone fr cs w = lone fr' cs' w' → fr.todo = fr'.todo ∧ fr.mode = fr'.mode := by
    intro fr fr' cs cs' w w' h
    simp only [lone, Machine.mk.injEq, Array.mk.injEq, List.cons.injEq, Goroutine.mk.injEq] at h
    obtain ⟨_, ⟨⟨rfl, _⟩, _⟩, _⟩ := h
    exact ⟨rfl, rfl⟩
  cases e with
  | normal =>
    refine key _ r1 fun h => ?_
    have := (todo h).1
    simp only [Frame.atR] at this
    have := congrArg List.length this
    simp at this
  | exit id =>
    obtain ⟨k0, h1, h2⟩ := r1
    refine ⟨k0, h1, key _ h2 fun h => ?_⟩
    have := (todo h).1
    simp [Frame.atR] at this
  | ret =>
    obtain ⟨k0, h2⟩ := r1
    refine ⟨k0, key _ h2 fun h => ?_⟩
    have := (todo h).1
    simp [Frame.atR] at this
  | panic v =>
    obtain ⟨k0, vc, h1, h2⟩ := r1
    refine ⟨k0, vc, h1, key _ h2 fun h => ?_⟩
    have := (todo h).2
    simp [Frame.atR] at this
end

end Go.Ab

/- What an operation turns of the heap: blocks that lie there, and one new one. -/
namespace Go.Ab
open Go

inductive UpsOk (h : Nat → Option ABlk) (n : Nat) : List (Nat × Option ABlk) → Prop
  | nil : UpsOk h n []
  | new (x : Option ABlk) : UpsOk h n [(n, x)]
  | turn (b : Nat) (y : ABlk) (x : Option ABlk) (hb : h b = some y) : UpsOk h n [(b, x)]
  | move (b : Nat) (x : Option ABlk) : UpsOk h n [(b, none), (n, x)]

theorem UpsOk.dom {h : Nat → Option ABlk} {n : Nat} {ups : List (Nat × Option ABlk)} (hu : UpsOk h n ups) : ∀ b x, hups h ups b = some x → b < n → ∃ y, h b = some y := by
  intro b x hx hb
  cases hu with
  | nil => exact ⟨x, hx⟩
  | new y =>
    simp only [hups] at hx
    rw [hset_ne _ _ (by omega)] at hx
    exact ⟨x, hx⟩
  | turn b' y x' hb' =>
    simp only [hups] at hx
    by_cases he : b = b'
    · subst he; exact ⟨y, hb'⟩
    · rw [hset_ne _ _ he] at hx; exact ⟨x, hx⟩
  | move b' x' =>
    simp only [hups] at hx
    rw [hset_ne _ _ (by omega)] at hx
    by_cases he : b = b'
    · subst he; rw [hset_same] at hx; cases hx
    · rw [hset_ne _ _ he] at hx; exact ⟨x, hx⟩

section
variable {P : Program} {h : Nat → Option ABlk} {n : Nat} {v : AV} {ups : List (Nat × Option ABlk)} {n' : Nat}

theorem appendA_ups {st : TypeId} {x y : AV} (ha : appendA P h n st x y = some (.val v ups n')) : UpsOk h n ups := by
  unfold appendA at ha
  (repeat' split at ha) <;> first
    | (cases ha; done)
    | (cases ha; exact .nil)
    | (cases ha; exact .new _)
    | (cases ha; exact .turn _ _ _ (by assumption))
    | (cases ha; exact .move _ _)

theorem clearA_ups {t : TypeId} {x : AV} (ha : clearA P h n t x = some (.val v ups n')) : UpsOk h n ups := by
  unfold clearA at ha
  (repeat' split at ha) <;> first
    | (cases ha; done)
    | (cases ha; exact .nil)
    | (cases ha; exact .turn _ _ _ (by assumption))

theorem mapPutA_ups {t : TypeId} {m k x : AV} (ha : mapPutA P h n t m k x = some (.val v ups n')) : UpsOk h n ups := by
  unfold mapPutA at ha
  split at ha
  · split at ha
    · split at ha
      · rename_i es hb
        simp only [Option.map_eq_some_iff] at ha
        obtain ⟨es', _, h2⟩ := ha
        cases h2
        exact .turn _ _ _ hb
      · cases ha
    · cases ha
  · cases ha

theorem storeA_ups {t : TypeId} {a x : AV} (ha : storeA P h t a x = some ups) : UpsOk h n ups := by
  unfold storeA at ha
  (repeat' split at ha) <;> first
    | (cases ha; done)
    | (cases ha; exact .turn _ _ _ (by assumption))

theorem builtinA_ups {b : Builtin} {ats : Array TypeId} {args : List AV} (ha : builtinA P h n b ats args = some (.val v ups n')) : UpsOk h n ups := by
  unfold builtinA at ha
  split at ha
  · (repeat' split at ha) <;> first
      | (cases ha; done)
      | (cases ha; exact .nil)
  · split at ha
    · exact appendA_ups ha
    · cases ha
  · rename_i x
    cases h0 : ats[0]? with
    | none => simp [h0] at ha
    | some t => simp only [h0, Option.bind_some] at ha; exact clearA_ups ha
  all_goals first
    | (cases ha; done)
    | ((repeat' split at ha) <;> first
        | (cases ha; done)
        | (cases ha; exact .nil))

theorem map_val {x : Option AV} (ha : x.map (fun x => ANext.val x [] n) = some (.val v ups n')) : UpsOk h n ups := by
  simp only [Option.map_eq_some_iff] at ha
  obtain ⟨_, _, h2⟩ := ha
  cases h2
  exact .nil

theorem aop_ups {ρ : Operand → AV} {o : Oper} (ha : aop P h n ρ o = some (.val v ups n')) : UpsOk h n ups := by
  unfold aop at ha
  cases hop : o.op with
  | call c =>
    simp only [hop] at ha
    cases hcl : c.callee with
    | builtin b => simp only [hcl] at ha; exact builtinA_ups ha
    | value f =>
      simp only [hcl] at ha
      unfold callA at ha
      (repeat' split at ha) <;> cases ha
    | invoke r m =>
      simp only [hcl] at ha
      unfold invokeA at ha
      (repeat' split at ha) <;> cases ha
  | store t a x =>
    simp only [hop, Option.map_eq_some_iff] at ha
    obtain ⟨us, h1, h2⟩ := ha
    cases h2
    exact storeA_ups h1
  | insert t m k x => simp only [hop] at ha; exact mapPutA_ups ha
  | mapUpdate t m k x => simp only [hop] at ha; exact mapPutA_ups ha
  | makeMap t r =>
    cases r with
    | none => simp only [hop] at ha; cases ha; exact .new _
    | some _ => simp [hop] at ha
  | _ =>
    simp only [hop] at ha
    first
      | (cases ha; done)
      | exact map_val ha
      | (cases ha; exact .nil)
      | ((repeat' split at ha) <;> first
          | (cases ha; done)
          | (cases ha; exact .nil)
          | (cases ha; exact .new _)
          | exact map_val ha)
end

end Go.Ab

/- Runs, second part: operations, calls, rounds. -/
namespace Go.Ab
open Go

/-- From some items to others, or to an end. -/
def FromTo (P : Program) (rd : Bool) (x y : List Item) (σ : ASt) (Q : AExit → ASt → Prop) : Prop :=
  ∀ F φ b a k cs w, SR P F φ σ b a cs w → b.roundOf.isSome = rd →
    ∃ e σ' F' φ' a' cs' w', Q e σ' ∧ SR P F' φ' σ' b a' cs' w' ∧ Goes F φ σ w F' φ' σ' w' ∧ CsR σ.u cs cs' ∧ Arr P F' φ' (lone (b.atR a (x ++ k)) cs w) b (y ++ k) cs' e a' w'

theorem FromTo.then {P : Program} {rd : Bool} {x y z : List Item} {σ : ASt} {Q : AExit → ASt → Prop} (hpass : ∀ id k, exitTo id (y ++ k) = exitTo id (z ++ k))
    (h : FromTo P rd x y σ (fun e σ' => match e with | .normal => FromTo P rd y z σ' Q | e => Q e σ')) : FromTo P rd x z σ Q := by
  intro F φ b a k cs w hs hrd
  obtain ⟨e, σ1, F1, φ1, a1, cs1, w1, q, s1, g1, c1, r1⟩ := h F φ b a k cs w hs hrd
  cases e with
  | normal =>
    obtain ⟨e, σ2, F2, φ2, a2, cs2, w2, q2, s2, g2, c2, r2⟩ := q F1 φ1 b a1 k cs1 w1 s1 hrd
    exact ⟨e, σ2, F2, φ2, a2, cs2, w2, q2, s2, g1.trans hs.heap g2, c1.trans g1.u c2, r2.of_steps r1⟩
  | exit id =>
    obtain ⟨k0, h1, h2⟩ := r1
    exact ⟨.exit id, σ1, F1, φ1, a1, cs1, w1, q, s1, g1, c1, k0, by rw [h1, hpass], h2⟩
  | ret => exact ⟨.ret, σ1, F1, φ1, a1, cs1, w1, q, s1, g1, c1, r1⟩
  | panic v => exact ⟨.panic v, σ1, F1, φ1, a1, cs1, w1, q, s1, g1, c1, r1⟩

theorem ItemsOk.of_fromTo {P : Program} {rd : Bool} {x : List Item} {σ : ASt} {Q : AExit → ASt → Prop} (h : FromTo P rd x [] σ Q) : ItemsOk P rd x σ Q := h

def ER (F : Terr) (φ : Phi) : AEnd → Ending → Prop
  | .ret v, e => ∃ vc, VR F φ v vc ∧ e = .returned vc
  | .pan v, e => ∃ vc, VR F φ v vc ∧ e = .panicked [{ v := vc, recovered := false }]

/-- A call of a function, from a heap: what it comes to. -/
def CallOk (P : Program) (f : FuncId) (args : List AV) (h : Nat → Option ABlk) (n : Nat) (Q : AEnd → (Nat → Option ABlk) → Nat → Prop) : Prop :=
  ∀ F φ (cargs : Array Value) w, HR P F φ n h w → VRL F φ args cargs.toList → Calls P f cargs w fun e w' =>
    ∃ ae F' φ' h' n', Q ae h' n' ∧ ER F' φ' ae e ∧ HR P F' φ' n' h' w' ∧ Ext F φ n h w F' φ' n' w' ∧ ∀ b x, h' b = some x → b < n → ∃ y, h b = some y

/-- A call of a loop's yield. -/
def YieldOk (P : Program) (l : Nat) (args : List AV) (h : Nat → Option ABlk) (n : Nat) (Q : AEnd → (Nat → Option ABlk) → Nat → Prop) : Prop :=
  ∀ F φ (cargs : Array Value) w L, HR P F φ n h w → φ l = some L → VRL F φ args cargs.toList → ∃ fn tmps assign body, (Instr.yield L.B cargs).run P w = .ok (.round L.B fn tmps assign body) w ∧
    ∀ (c : Frame) cs, ∃ ae F' φ' h' n' w', Q ae h' n' ∧ HR P F' φ' n' h' w' ∧ Ext F φ n h w F' φ' n' w' ∧ (∀ b x, h' b = some x → b < n → ∃ y, h b = some y) ∧
      match ae with
      | .ret v => ∃ vc, VR F' φ' v vc ∧ Steps P (lone (Frame.round L.B fn tmps assign body .normal) (c :: cs) w) (lone (c.finish vc) cs w')
      | .pan v => ∃ vc, VR F' φ' v vc ∧ Steps P (lone (Frame.round L.B fn tmps assign body .normal) (c :: cs) w) (lone (c.raise [{ v := vc, recovered := false }]) cs w')

section
variable {P : Program} {F F' : Terr} {φ φ' : Phi} {σ : ASt} {b : Frame} {a : Act} {cs : List Frame} {w w' : World} {rd : Bool} {Q : AExit → ASt → Prop}

theorem DsR.mono (hF : ∀ B o, F B = some o → F' B = some o) (hφ : ∀ b L, φ b = some L → φ' b = some L) : ∀ {xs : List (ADef ⊕ Nat)} {ds : List Deferred}, DsR F φ xs ds → DsR F' φ' xs ds
  | [], [], _ => trivial
  | x :: xs, d :: ds, h => by
    refine ⟨?_, DsR.mono hF hφ h.2⟩
    cases x with
    | inl ad =>
      obtain ⟨g, first, captured, cap, h1, h2, h3, h4⟩ := h.1
      exact ⟨g, first, captured, cap, h1, h2, h3.mono hF hφ, h4.mono hF hφ⟩
    | inr b =>
      obtain ⟨L, h1, h2⟩ := h.1
      exact ⟨L, hφ _ _ h1, h2⟩
  | [], _ :: _, h => h.elim
  | _ :: _, [], h => h.elim

theorem UR.mono (hF : ∀ B o, F B = some o → F' B = some o) (hφ : ∀ b L, φ b = some L → φ' b = some L) {u : Option AMode} (h : UR F φ u b cs) : UR F' φ' u b cs := by
  cases u with
  | none => trivial
  | some m =>
    obtain ⟨h1, h2, c0, cs0, h3, h4⟩ := h
    refine ⟨h1, h2, c0, cs0, h3, ?_⟩
    cases m with
    | ret => exact h4
    | pan v r =>
      obtain ⟨vc, k1, k2⟩ := h4
      exact ⟨vc, k1.mono hF hφ, k2⟩

theorem SR.ext (hs : SR P F φ σ b a cs w) {h' : Nat → Option ABlk} {n' : Nat} (he : Ext F φ σ.n σ.h w F' φ' n' w') (hr : HR P F' φ' n' h' w') : SR P F' φ' { σ with h := h', n := n' } b a cs w' :=
  ⟨fun i => (hs.tmps i).mono he.terr he.phi, hs.size, hs.defs.mono he.terr he.phi, hr, hs.fn, hs.mode.mono he.terr he.phi⟩

theorem SR.put (hs : SR P F φ σ b a cs w) (dst : Option Tmp) {v : AV} {vc : Value} (hv : VR F φ v vc) : SR P F φ (σ.put dst v) b (a.put dst vc) cs w := by
  cases dst with
  | none => exact hs
  | some d =>
    unfold ASt.put Act.put
    simp only
    split
    · rename_i hd
      refine ⟨fun i => ?_, by simpa using hs.size, hs.defs, hs.heap, hs.fn, hs.mode⟩
      simp only [Array.getD_eq_getD_getElem?, Array.getElem?_setIfInBounds]
      by_cases hi : i = d
      · subst hi
        have : i < a.tmps.size := by rw [hs.size]; exact hd
        simp [this, hv]
      · have hi' : d ≠ i := fun h => hi h.symm
        simp only [hi, if_false, hi']
        have := hs.tmps i
        rwa [Array.getD_eq_getD_getElem?] at this
    · rename_i hd
      have : a.tmps.setIfInBounds d vc = a.tmps := by
        unfold Array.setIfInBounds
        rw [dif_neg (by rw [hs.size]; exact hd)]
      refine ⟨?_, ?_, hs.defs, hs.heap, hs.fn, hs.mode⟩
      · rw [this]; exact hs.tmps
      · rw [this]; exact hs.size

theorem put_nt (σ : ASt) (dst : Option Tmp) (v : AV) : (σ.put dst v).nt = σ.nt ∧ (σ.put dst v).u = σ.u ∧ (σ.put dst v).h = σ.h ∧ (σ.put dst v).n = σ.n ∧ (σ.put dst v).d = σ.d := by
  cases dst with
  | none => exact ⟨rfl, rfl, rfl, rfl, rfl⟩
  | some d => unfold ASt.put; simp only; split <;> exact ⟨rfl, rfl, rfl, rfl, rfl⟩

theorem Goes.mk_put {σ' : ASt} (dst : Option Tmp) (v : AV) (g : Goes F φ σ w F' φ' σ' w') : Goes F φ σ w F' φ' (σ'.put dst v) w' := by
  obtain ⟨h1, h2, h3, h4, h5⟩ := put_nt σ' dst v
  exact ⟨by rw [h4]; exact g.ext, by rw [h3]; exact g.dom, by rw [h1]; exact g.nt, by rw [h2]; exact g.u⟩

/-- Does the guard of an operation let it run? -/
theorem wantedA_sound {ops : Array Oper} {o : Oper} {r : Bool} (hs : SR P F φ σ b a cs w) (hw : wantedA ops σ.t o = some r) : Region.wanted o (yielded ops a.tmps) = r := by
  unfold wantedA at hw
  unfold Region.wanted
  cases hg : o.guard with
  | none => simp [hg] at hw; simp [hw]
  | some jw =>
    obtain ⟨j, want⟩ := jw
    simp only [hg] at hw ⊢
    cases hd : (ops[j]?).bind (·.dst) with
    | none => simp [hd] at hw
    | some d =>
      simp only [hd] at hw
      have ht := hs.tmps d
      unfold yielded
      simp only [hd, Option.bind_some]
      split at hw
      · rename_i bb hb
        rw [hb] at ht
        rw [Array.getD_eq_getD_getElem?] at ht
        cases hq : a.tmps[d]? with
        | none => rw [hq] at ht; simp [undef] at ht; cases ht
        | some v =>
          rw [hq] at ht
          simp only [Option.getD_some] at ht
          cases ht
          simp only [Option.some.injEq] at hw
          rw [← hw]
          cases bb <;> cases want <;> rfl
      · rename_i hb
        rw [hb] at ht
        rw [Array.getD_eq_getD_getElem?] at ht
        simp only [Option.some.injEq] at hw
        subst hw
        cases hq : a.tmps[d]? with
        | none => rfl
        | some v =>
          rw [hq] at ht
          simp only [Option.getD_some] at ht
          cases ht
          rfl
      · cases hw

/-- What one operation comes to. -/
def OperPost (P : Program) (rd : Bool) (o : Oper) (σ : ASt) (Q : AExit → ASt → Prop) : Option ANext → Prop
  | some (.val v ups n') => Q .normal (({ σ with h := hups σ.h ups, n := n' } : ASt).put o.dst v)
  | some (.enter f args) => CallOk P f args σ.h σ.n fun e h' n' => match e with
    | .ret v => Q .normal (({ σ with h := h', n := n' } : ASt).put o.dst v)
    | .pan v => Q (.panic v) { σ with h := h', n := n' }
  | some (.yield l args) => YieldOk P l args σ.h σ.n fun e h' n' => match e with
    | .ret v => Q .normal (({ σ with h := h', n := n' } : ASt).put o.dst v)
    | .pan v => Q (.panic v) { σ with h := h', n := n' }
  | some (.defer d) => rd = false ∧ Q .normal (({ σ with d := .inl d :: σ.d } : ASt).put o.dst (.tup []))
  | some (.panic v) => Q (.panic v) σ
  | some .recover => match σ.u with
    | some (.pan v false) => Q .normal (({ σ with u := some (.pan v true) } : ASt).put o.dst v)
    | some .ret => Q .normal (σ.put o.dst .nili)
    | _ => False
  | none => False

theorem semAt_of {o : Oper} {ρ : Operand → Value} (ro : Option Nat) (h : ro = none ∨ ∀ c, o.op ≠ .defer c) : o.semAt ro ρ = execOp ρ o := by
  rcases h with rfl | h
  · rfl
  · exact Oper.semAt_eq ro ρ o h

theorem not_defer {h : Nat → Option ABlk} {n : Nat} {ρ : Operand → AV} {o : Oper} {nx : ANext} (ha : aop P h n ρ o = some nx) (hn : ∀ d, nx ≠ .defer d) (c : Call) : o.op ≠ .defer c := by
  intro hop
  unfold aop at ha
  simp only [hop] at ha
  cases hcl : c.callee <;> simp only [hcl] at ha
  · split at ha
    · cases ha; exact hn _ rfl
    · cases ha
  · cases ha
  · cases ha

theorem oper_ok (hP : Fit P) {ops : Array Oper} {i : Nat} {rest : List Nat} {o : Oper} (hi : ops[i]? = some o) (hw : wantedA ops σ.t o = some true) (h : OperPost P rd o σ Q (aop P σ.h σ.n (opnd σ.t) o)) :
    FromTo P rd [.inRegion ops (i :: rest)] [.inRegion ops rest] σ Q := by
  intro F φ b a k cs w hs hrd
  have hwant := wantedA_sound hs hw
  cases ha : aop P σ.h σ.n (opnd σ.t) o with
  | none => rw [ha] at h; exact h.elim
  | some nx =>
  rw [ha] at h
  have hop := aop_sound (w := w) hP hs.heap (opnd_VR hs.tmps) (ρc := a.eval) (fun c => rfl) ha
  have hg := stepGR_op (P := P) (b := b) (a := a) (k := k) (cs := cs) (w := w) (rest := rest) hi hwant
  have hfin : ∀ v, (b.atR a (.inRegion ops (i :: rest) :: k)).finish v = b.atR (a.put o.dst v) (.inRegion ops rest :: k) := by
    intro v; rw [Frame.finish_atR, hi]; rfl
  have hsem : (∀ d, nx ≠ .defer d) → o.semAt b.roundOf a.eval = execOp a.eval o := fun hn => semAt_of _ (.inr (not_defer ha hn))
  cases nx with
  | val v ups n' =>
    obtain ⟨u, w', φ', hrun, k1, k2, k3⟩ := hop
    rw [hsem (fun d => by simp)] at hg
    refine ⟨.normal, _, F, φ', a.put o.dst u, cs, w', h, (hs.ext k2 k1).put o.dst k3, Goes.mk_put o.dst v (σ' := { σ with h := hups σ.h ups, n := n' }) ⟨k2, (aop_ups ha).dom, rfl, rfl⟩, CsR.refl hs.mode, .one (step_lone_go ?_)⟩
    rcases hrun with hrun | ⟨rfl, hrun⟩
    · simp only [List.singleton_append] at hg ⊢
      rw [hg, ← hfin]; simp [stepG.apply, hrun]
    · simp only [List.singleton_append] at hg ⊢
      rw [hg, ← hfin]; simp [stepG.apply, hrun]
  | enter f args =>
    obtain ⟨cargs, hrun, hargs⟩ := hop
    rw [hsem (fun d => by simp)] at hg
    have hcall := h F φ cargs w hs.heap hargs
    obtain ⟨e, w', fr, ⟨ae, F', φ', h', n', q, her, k1, k2, k3⟩, hcomes, hfn, hleave⟩ := hcall (b.atR a (.inRegion ops (i :: rest) :: k) :: cs)
    have henter : step P (lone (b.atR a (.inRegion ops (i :: rest) :: k)) cs w) = .next (lone (Frame.enter P f cargs .normal) (b.atR a (.inRegion ops (i :: rest) :: k) :: cs) w) :=
      step_lone_go (by rw [hg]; simp [stepG.apply, hrun, Frame.atR])
    cases ae with
    | ret v =>
      obtain ⟨vc, hv, rfl⟩ := her
      refine ⟨.normal, _, F', φ', a.put o.dst vc, cs, w', q, (hs.ext k2 k1).put o.dst hv, Goes.mk_put o.dst v (σ' := { σ with h := h', n := n' }) ⟨k2, k3, rfl, rfl⟩, CsR.refl hs.mode, ?_⟩
      refine Steps.head henter (Steps.trans hcomes (.one ?_))
      rw [step_leave_returned hleave, hfin]
      rfl
    | pan v =>
      obtain ⟨vc, hv, rfl⟩ := her
      refine ⟨.panic v, { σ with h := h', n := n' }, F', φ', a, cs, w', q, hs.ext k2 k1, ⟨k2, k3, rfl, rfl⟩, CsR.refl hs.mode, .inRegion ops (i :: rest) :: k, vc, hv, ?_⟩
      refine Steps.head henter (Steps.trans hcomes (.one ?_))
      rw [step_leave_panicked hleave, Frame.raise_atR]
  | yield l args =>
    obtain ⟨L, cargs, hL, hargs, hrun0⟩ := hop
    rw [hsem (fun d => by simp)] at hg
    obtain ⟨fn, tmps, assign, body, hrun, hround⟩ := h F φ cargs w L hs.heap hL hargs
    rw [hrun] at hrun0
    obtain ⟨ae, F', φ', h', n', w', q, k1, k2, k3, k4⟩ := hround (b.atR a (.inRegion ops (i :: rest) :: k)) cs
    have henter : step P (lone (b.atR a (.inRegion ops (i :: rest) :: k)) cs w) = .next (lone (Frame.round L.B fn tmps assign body .normal) (b.atR a (.inRegion ops (i :: rest) :: k) :: cs) w) :=
      step_lone_go (by rw [hg]; simp [stepG.apply, hrun0, Frame.atR])
    cases ae with
    | ret v =>
      obtain ⟨vc, hv, hst⟩ := k4
      refine ⟨.normal, _, F', φ', a.put o.dst vc, cs, w', q, (hs.ext k2 k1).put o.dst hv, Goes.mk_put o.dst v (σ' := { σ with h := h', n := n' }) ⟨k2, k3, rfl, rfl⟩, CsR.refl hs.mode, ?_⟩
      refine Steps.head henter ?_
      rw [hfin] at hst
      exact hst
    | pan v =>
      obtain ⟨vc, hv, hst⟩ := k4
      refine ⟨.panic v, { σ with h := h', n := n' }, F', φ', a, cs, w', q, hs.ext k2 k1, ⟨k2, k3, rfl, rfl⟩, CsR.refl hs.mode, .inRegion ops (i :: rest) :: k, vc, hv, ?_⟩
      exact Steps.head henter hst
  | defer d =>
    obtain ⟨dd, hrun, hdd⟩ := hop
    obtain ⟨rfl, q⟩ := h
    have hro : b.roundOf = none := by cases hq : b.roundOf <;> simp_all
    rw [semAt_of _ (.inl hro)] at hg
    have hs' : SR P F φ { σ with d := .inl d :: σ.d } b { a with defers := dd :: a.defers } cs w := ⟨hs.tmps, hs.size, ⟨hdd, hs.defs⟩, hs.heap, hs.fn, hs.mode⟩
    refine ⟨.normal, _, F, φ, ({ a with defers := dd :: a.defers } : Act).put o.dst undef, cs, w, q, hs'.put o.dst VR.undef, Goes.mk_put o.dst _ (σ' := { σ with d := .inl d :: σ.d }) ⟨Ext.refl .., fun _ x h _ => ⟨x, h⟩, rfl, rfl⟩, CsR.refl hs.mode, .one (step_lone_go ?_)⟩
    have : ({ b.atR a (.inRegion ops (i :: rest) :: k) with defers := dd :: a.defers } : Frame).finish undef = b.atR ({ a with defers := dd :: a.defers }.put o.dst undef) (.inRegion ops rest :: k) := by
      have := Frame.finish_atR b { a with defers := dd :: a.defers } ops i rest k undef
      rw [hi] at this
      exact this
    simp only [List.singleton_append] at hg ⊢
    rw [hg]; simp only [stepG.apply, Sem.runT_eq, hrun, GStep.bare_after]
    exact congrArg (fun fr => GStep.go { frame := fr, callers := cs, status := .running, dying := none } w) this
  | panic v =>
    obtain ⟨u, hrun, hv⟩ := hop
    rw [hsem (fun d => by simp)] at hg
    refine ⟨.panic v, σ, F, φ, a, cs, w, h, hs, Goes.refl .., CsR.refl hs.mode, .inRegion ops (i :: rest) :: k, u, hv, .one (step_lone_go ?_)⟩
    simp only [List.singleton_append] at hg ⊢
    rw [hg, ← Frame.raise_atR]; simp [stepG.apply, hrun]
  | recover =>
    rw [hsem (fun d => by simp)] at hg
    have hrun : (execOp a.eval o).run P w = .ok .recover w := hop
    have hm := hs.mode
    cases hu : σ.u with
    | none => simp only [OperPost, hu] at h
    | some m =>
      rw [hu] at hm
      obtain ⟨hkind, hro, c0, cs0, rfl, hmode⟩ := hm
      have hk : (b.atR a (.inRegion ops (i :: rest) :: k)).kind = .deferred := hkind
      have hro' : (b.atR a (.inRegion ops (i :: rest) :: k)).roundOf = none := hro
      have htr := tryRecover_deferred hk (c0 :: cs0)
      cases m with
      | ret =>
        simp only [OperPost, hu] at h
        have hrec : recoverD (c0 :: cs0) = none := by
          have hmode' : c0.mode = .returning := hmode
          simp [recoverD, hmode']
        refine ⟨.normal, _, F, φ, a.put o.dst .nilIface, c0 :: cs0, w, h, hs.put o.dst .nili, Goes.mk_put o.dst _ (Goes.refl ..), (by have := CsR.refl hs.mode; rw [hu] at this; exact this), .one (step_lone_go ?_)⟩
        simp only [List.singleton_append] at hg ⊢
        rw [hg, ← hfin]
        simp only [Frame.atR, hro] at htr ⊢
        simp [stepG.apply, hrun, hro, htr, hrec]
      | pan v r =>
        cases r with
        | true => simp only [OperPost, hu] at h
        | false =>
          simp only [OperPost, hu] at h
          obtain ⟨vc, hv, hmode'⟩ := hmode
          have hrec : recoverD (c0 :: cs0) = some (vc, { c0 with mode := .panicking [{ v := vc, recovered := true }] } :: cs0) := by simp [recoverD, hmode']
          have hs' : SR P F φ { σ with u := some (.pan v true) } b a ({ c0 with mode := .panicking [{ v := vc, recovered := true }] } :: cs0) w :=
            ⟨hs.tmps, hs.size, hs.defs, hs.heap, hs.fn, hkind, hro, _, _, rfl, vc, hv, rfl⟩
          refine ⟨.normal, _, F, φ, a.put o.dst vc, { c0 with mode := .panicking [{ v := vc, recovered := true }] } :: cs0, w, h, hs'.put o.dst hv, Goes.mk_put o.dst _ (σ' := { σ with u := some (.pan v true) }) ⟨Ext.refl .., fun _ x h _ => ⟨x, h⟩, rfl, by rw [hu]; rfl⟩,
            ⟨c0, cs0, _, rfl, rfl⟩, .one (step_lone_go ?_)⟩
          simp only [List.singleton_append] at hg ⊢
          rw [hg, ← hfin]
          simp only [Frame.atR, hro] at htr ⊢
          simp [stepG.apply, hrun, hro, htr, hrec]

/-- An operation that its guard passes over. -/
theorem oper_skip {ops : Array Oper} {i : Nat} {rest : List Nat} {o : Oper} (hi : ops[i]? = some o) (hw : wantedA ops σ.t o = some false) (h : Q .normal (σ.put o.dst (.tup []))) :
    FromTo P rd [.inRegion ops (i :: rest)] [.inRegion ops rest] σ Q := by
  intro F φ b a k cs w hs hrd
  have hwant := wantedA_sound hs hw
  refine ⟨.normal, _, F, φ, a.put o.dst undef, cs, w, h, hs.put o.dst VR.undef, Goes.mk_put o.dst _ (Goes.refl ..), CsR.refl hs.mode, .one ?_⟩
  have := stepR_op_skip (P := P) (b := b) (a := a) (k := k) (cs := cs) (w := w) (ops := ops) (i := i) (rest := rest) (by simp [hi, hwant])
  rw [hi] at this
  exact this

/-- The operations of a region, one behind the other. -/
def OpersOk (P : Program) (rd : Bool) (ops : Array Oper) (Q : AExit → ASt → Prop) : List Nat → ASt → Prop
  | [], σ => Q .normal σ
  | i :: rest, σ =>
    match ops[i]? with
    | none => False
    | some o =>
      match wantedA ops σ.t o with
      | some true => OperPost P rd o σ (fun e σ' => match e with | .normal => OpersOk P rd ops Q rest σ' | e => Q e σ') (aop P σ.h σ.n (opnd σ.t) o)
      | some false => OpersOk P rd ops Q rest (σ.put o.dst (.tup []))
      | none => False

theorem opers_ok (hP : Fit P) {ops : Array Oper} : ∀ (l : List Nat) (σ : ASt), OpersOk P rd ops Q l σ → FromTo P rd [.inRegion ops l] [] σ Q
  | [], σ, h => fun F φ b a k cs w hs _ => ⟨.normal, σ, F, φ, a, cs, w, h, hs, Goes.refl .., CsR.refl hs.mode, .one stepR_region_end⟩
  | i :: rest, σ, h => by
    unfold OpersOk at h
    cases hi : ops[i]? with
    | none => simp only [hi] at h
    | some o =>
      simp only [hi] at h
      refine FromTo.then (y := [.inRegion ops rest]) (fun id k => rfl) ?_
      cases hw : wantedA ops σ.t o with
      | none => simp only [hw] at h
      | some r =>
        simp only [hw] at h
        cases r with
        | true =>
          refine oper_ok hP hi hw ?_
          revert h
          cases aop P σ.h σ.n (opnd σ.t) o with
          | none => exact fun h => h
          | some nx =>
            cases nx with
            | val v ups n' => exact fun h => opers_ok hP rest _ h
            | enter f args =>
              intro h F φ cargs w hr ha
              refine (h F φ cargs w hr ha).mono ?_
              rintro e w' ⟨ae, F', φ', h', n', q, rest'⟩
              refine ⟨ae, F', φ', h', n', ?_, rest'⟩
              cases ae with
              | ret v => exact opers_ok hP rest _ q
              | pan v => exact q
            | yield l args =>
              intro h F φ cargs w L hr hL ha
              obtain ⟨fn, tmps, assign, body, h1, h2⟩ := h F φ cargs w L hr hL ha
              refine ⟨fn, tmps, assign, body, h1, fun c cs => ?_⟩
              obtain ⟨ae, F', φ', h', n', w', q, rest'⟩ := h2 c cs
              refine ⟨ae, F', φ', h', n', w', ?_, rest'⟩
              cases ae with
              | ret v => exact opers_ok hP rest _ q
              | pan v => exact q
            | defer d => exact fun h => ⟨h.1, opers_ok hP rest _ h.2⟩
            | panic v => exact fun h => h
            | recover =>
              intro h
              simp only [OperPost] at h ⊢
              split at h
              · exact opers_ok hP rest _ h
              · exact opers_ok hP rest _ h
              · exact h.elim
        | false => exact oper_skip hi hw (opers_ok hP rest _ h)

theorem CodeOk.region (hP : Fit P) {id : Nat} {ops : Array Oper} (h : OpersOk P rd ops Q (List.range ops.size) σ) : CodeOk P rd (.region id ops false) σ Q :=
  ItemsOk.step (y := [.inRegion ops (List.range ops.size)]) (fun F φ b a k cs w _ _ => stepR_region) (opers_ok hP _ _ h)
end

end Go.Ab
