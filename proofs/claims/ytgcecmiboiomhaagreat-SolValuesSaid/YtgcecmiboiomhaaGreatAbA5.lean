/- Regions that draw their order, second part: operations that read, operations that make. -/
import Derived.Test.YtgcecmiboiomhaaGreatAbA4
namespace Go.Ab
open Go

inductive OKind where
  | a | r | c | x
  deriving DecidableEq

def kindOf (o : Oper) : OKind :=
  match o.op with
  | .alloc _ | .box _ _ | .buildSlice _ _ _ | .makeSlice _ _ _ | .makeMap _ none => .a
  | .call c =>
    match c.callee with
    | .builtin .len | .builtin .max | .builtin .min => .r
    | .builtin .append | .builtin .clear | .value _ | .invoke _ _ => .c
    | _ => .x
  | .store _ _ _ | .insert _ _ _ _ | .mapUpdate _ _ _ _ => .c
  | .defer _ | .panic _ => .x
  | _ => .r

/-- A call of a function. -/
def isCall (o : Oper) : Bool :=
  match o.op with
  | .call c => (match c.callee with | .value _ | .invoke _ _ => true | _ => false)
  | _ => false

/-- The block that a value names. -/
def AV.at : AV → Option Nat
  | .ptr b _ _ | .sl b _ _ _ | .map b => some b
  | _ => none

section
variable {P : Program} {h h' : Nat → Option ABlk} {n : Nat}

theorem loadA_mono {t : TypeId} {a v : AV} (hh : ∀ b y, a.at = some b → h b = some y → h' b = some y) (ha : loadA P h t a = some v) : loadA P h' t a = some v := by
  unfold loadA at ha ⊢
  split at ha
  · rename_i b r o
    split at ha
    · rename_i t rs hb
      simp only [hh b _ rfl hb]
      exact ha
    · cases ha
  · exact ha
  · cases ha

theorem lookupA_mono {t : TypeId} {a k v : AV} {ok : Bool} (hh : ∀ b y, a.at = some b → h b = some y → h' b = some y) (ha : lookupA P h t a k ok = some v) : lookupA P h' t a k ok = some v := by
  unfold lookupA at ha ⊢
  split at ha
  · split at ha
    · rename_i hk
      rw [if_pos hk]
      cases a with
      | map b =>
        simp only at ha ⊢
        cases hb : h b with
        | none => simp [hb] at ha
        | some y => rw [hh b y rfl hb]; rw [hb] at ha; exact ha
      | _ => first | exact ha | (simp only at ha ⊢; exact ha) | (simp at ha ⊢; exact ha) | simp at ha
    · cases ha
  · cases ha

theorem mostA_mono {b s m : Nat} {c : Option Nat} (hh : ∀ y, h b = some y → h' b = some y) : mostA h b s m c ≤ mostA h' b s m c := by
  cases c with
  | some c => exact Nat.le_refl _
  | none =>
    unfold mostA
    cases hb : h b with
    | some y => rw [hh y hb]; exact Nat.le_refl _
    | none =>
      simp only
      split
      · exact Nat.le_max_left ..
      · exact Nat.le_refl _

theorem boundsA_mono {len most most' : Nat} {lo hi mx : Option AV} {r : Nat × Nat × Option Nat} (hm : most ≤ most') (hb : boundsA len most lo hi mx = some r) : boundsA len most' lo hi mx = some r := by
  unfold boundsA at hb ⊢
  split at hb
  · split at hb
    · rename_i hc
      rw [if_pos ⟨hc.1, Nat.le_trans hc.2 hm⟩]
      exact hb
    · cases hb
  · split at hb
    · rename_i hc
      obtain ⟨c1, c2, c3, c4, c5⟩ := hc
      rw [if_pos ⟨c1, c2, c3, Nat.le_trans c4 hm, c5⟩]
      exact hb
    · cases hb
  · cases hb

theorem sliceA_mono {t : TypeId} {a v : AV} {lo hi mx : Option AV} (hh : ∀ b y, a.at = some b → h b = some y → h' b = some y) (ha : sliceA P h t a lo hi mx = some v) : sliceA P h' t a lo hi mx = some v := by
  unfold sliceA at ha ⊢
  split at ha
  · exact ha
  · exact ha
  · rename_i e b s m c _
    split at ha
    · cases ha
    · rename_i hz
      rw [if_neg hz]
      cases hb : boundsA m (mostA h b s m c) lo hi mx with
      | none => simp [hb] at ha
      | some r =>
        rw [boundsA_mono (mostA_mono (hh b · rfl)) hb]
        rw [hb] at ha
        simp only at ha ⊢
        split at ha
        · rename_i hf
          have hf' : fineA P h' e b r.1 = true := by
            unfold fineA at hf ⊢
            cases hb : h b with
            | none => simp [hb] at hf; simp [hf]
            | some y => rw [hh b y rfl hb]; rw [hb] at hf; exact hf
          rw [if_pos hf']
          exact ha
        · cases ha
  · cases ha

/-- An operation that reads comes to one value, the same wherever what it reads lies the same. -/
theorem aop_r {ρ : Operand → AV} {o : Oper} {nx : ANext} (hk : kindOf o = .r) (hh : ∀ x ∈ o.op.operands, ∀ b y, (ρ x).at = some b → h b = some y → h' b = some y) (ha : aop P h n ρ o = some nx) :
    ∃ v, nx = .val v [] n ∧ ∀ m, aop P h' m ρ o = some (.val v [] m) := by
  unfold kindOf at hk
  unfold aop at ha ⊢
  have key : ∀ {x : Option AV}, x.map (fun x => ANext.val x [] n) = some nx → ∃ v, nx = .val v [] n ∧ x = some v := by
    intro x hx
    cases x with
    | none => cases hx
    | some v => simp only [Option.map_some, Option.some.injEq] at hx; exact ⟨v, hx.symm, rfl⟩
  cases hop : o.op with
  | load t a =>
    simp only [hop] at ha ⊢
    obtain ⟨v, rfl, hv⟩ := key ha
    rw [hop] at hh
    exact ⟨v, rfl, fun m => by rw [loadA_mono (hh a (by simp [Op.operands])) hv]; rfl⟩
  | lookup t a k ok =>
    simp only [hop] at ha ⊢
    obtain ⟨v, rfl, hv⟩ := key ha
    rw [hop] at hh
    exact ⟨v, rfl, fun m => by rw [lookupA_mono (hh a (by simp [Op.operands])) hv]; rfl⟩
  | slice t a lo hi mx =>
    simp only [hop] at ha ⊢
    obtain ⟨v, rfl, hv⟩ := key ha
    rw [hop] at hh
    exact ⟨v, rfl, fun m => by rw [sliceA_mono (hh a (by simp [Op.operands])) hv]; rfl⟩
  | indexAddr t a i =>
    simp only [hop] at ha ⊢
    rw [hop] at hh
    have h1 := hh a (by simp [Op.operands])
    split at ha
    · split at ha
      · split at ha
        · split at ha
          · cases ha; simp_all
          · cases ha
        · cases ha
      · cases ha
    · rename_i e b s m c _ i' e1 e2 e3
      split at ha
      · rename_i hc
        split at ha
        · rename_i t' rs hb
          split at ha
          · rename_i hs
            cases ha
            refine ⟨_, rfl, fun m => ?_⟩
            simp only [e1, e2, e3, if_pos hc, h1 b _ (by rw [e2]; rfl) hb, if_pos hs]
          · cases ha
        · cases ha
      · cases ha
    · split at ha
      · split at ha
        · cases ha; simp_all
        · cases ha
      · cases ha
    · split at ha
      · split at ha
        · cases ha; simp_all
        · cases ha
      · cases ha
    · cases ha
  | call c =>
    simp only [hop] at ha hk ⊢
    rw [hop] at hh
    have hr : ∀ b, c.callee = .builtin b → b = .len ∨ b = .max ∨ b = .min := by
      intro b hb
      rw [hb] at hk
      cases b <;> simp at hk ⊢
    cases hcl : c.callee with
    | value f => rw [hcl] at hk; cases hk
    | invoke r m => rw [hcl] at hk; cases hk
    | builtin b =>
      simp only [hcl] at ha ⊢
      have hb := hr b hcl
      have hargs : ∀ x ∈ c.args.toList.map ρ, ∀ b y, x.at = some b → h b = some y → h' b = some y := by
        intro x hx
        obtain ⟨a, ha', rfl⟩ := List.mem_map.1 hx
        exact hh a (by simp [Op.operands, Call.operands]; right; simpa using ha')
      generalize c.args.toList.map ρ = args at ha hargs ⊢
      rcases hb with rfl | rfl | rfl
      · match args, ha, hargs with
        | [x], ha, hargs =>
          have h1 := hargs x (List.mem_singleton.2 rfl)
          simp only [builtinA] at ha ⊢
          split at ha
          · cases ha; exact ⟨_, rfl, fun m => rfl⟩
          · cases ha; exact ⟨_, rfl, fun m => rfl⟩
          · cases ha; exact ⟨_, rfl, fun m => rfl⟩
          · cases ha; exact ⟨_, rfl, fun m => rfl⟩
          · rename_i b e1
            split at ha
            · rename_i es hb
              cases ha
              exact ⟨_, rfl, fun m => by rw [h1 b _ rfl hb]⟩
            · cases ha
          · cases ha
        | [], ha, _ => simp [builtinA] at ha
        | _ :: _ :: _, ha, _ => simp [builtinA] at ha
      · unfold builtinA at ha ⊢
        split at ha <;> first
          | cases ha; done
          | (split at ha
             · rename_i hc; cases ha; exact ⟨_, rfl, fun m => by simp only [if_pos hc]⟩
             · cases ha)
          | simp at *
      · unfold builtinA at ha ⊢
        split at ha <;> first
          | cases ha; done
          | (split at ha
             · rename_i hc; cases ha; exact ⟨_, rfl, fun m => by simp only [if_pos hc]⟩
             · cases ha)
          | simp at *
  | makeMap t r =>
    cases r with
    | none => rw [hop] at hk; cases hk
    | some r => simp only [hop] at ha; cases ha
  | build t parts =>
    simp only [hop] at ha ⊢
    split at ha
    · split at ha
      · obtain ⟨v, rfl, hv⟩ := key ha
        rename_i hc
        exact ⟨v, rfl, fun m => by simp only [if_pos hc, hv]; rfl⟩
      · cases ha
    · split at ha
      · split at ha
        · obtain ⟨v, rfl, hv⟩ := key ha
          rename_i hs hc
          exact ⟨v, rfl, fun m => by simp only [hs, if_pos hc, hv]; rfl⟩
        · cases ha
      · cases ha
    · cases ha
  | _ =>
    first
      | (rw [hop] at hk; cases hk; done)
      | (simp only [hop] at ha ⊢; obtain ⟨v, rfl, hv⟩ := key ha; exact ⟨v, rfl, fun m => by rw [hv]; rfl⟩)
      | (simp only [hop] at ha ⊢; cases ha; exact ⟨_, rfl, fun m => rfl⟩)
      | (simp only [hop] at ha ⊢
         repeat' split at ha
         all_goals first
           | (cases ha; done)
           | (cases ha; exact ⟨_, rfl, fun m => by simp_all⟩)
           | (obtain ⟨v, rfl, hv⟩ := key ha; exact ⟨v, rfl, fun m => by simp_all⟩))

/-- An operation that makes a block looks at none. -/
theorem aop_a {ρ : Operand → AV} {o : Oper} {nx : ANext} (hk : kindOf o = .a) (ha : aop P h n ρ o = some nx) : (∃ v x, nx = .val v [(n, some x)] (n + 1)) ∧ ∀ h', aop P h' n ρ o = some nx := by
  unfold kindOf at hk
  unfold aop at ha ⊢
  cases hop : o.op with
  | alloc t =>
    simp only [hop] at ha ⊢
    refine ⟨?_, fun _ => ha⟩
    repeat' split at ha
    all_goals first | (cases ha; done) | (cases ha; exact ⟨_, _, rfl⟩)
  | box t x =>
    simp only [hop] at ha ⊢
    refine ⟨?_, fun _ => ha⟩
    repeat' split at ha
    all_goals first | (cases ha; done) | (cases ha; exact ⟨_, _, rfl⟩)
  | buildSlice t x y =>
    simp only [hop] at ha ⊢
    refine ⟨?_, fun _ => ha⟩
    repeat' split at ha
    all_goals first | (cases ha; done) | (cases ha; exact ⟨_, _, rfl⟩)
  | makeSlice t x y =>
    simp only [hop] at ha ⊢
    refine ⟨?_, fun _ => ha⟩
    repeat' split at ha
    all_goals first | (cases ha; done) | (cases ha; exact ⟨_, _, rfl⟩)
  | makeMap t r =>
    cases r with
    | some r => simp only [hop] at ha; cases ha
    | none =>
      simp only [hop] at ha ⊢
      refine ⟨?_, fun _ => ha⟩
      cases ha
      exact ⟨_, _, rfl⟩
  | call c =>
    simp only [hop] at hk
    split at hk <;> cases hk
  | _ => rw [hop] at hk; cases hk

/-- A call is found without a look at memory. -/
theorem aop_enter {ρ : Operand → AV} {o : Oper} {f : FuncId} {args : List AV} (hc : isCall o = true) (ha : aop P h n ρ o = some (.enter f args)) (h' : Nat → Option ABlk) (n' : Nat) : aop P h' n' ρ o = some (.enter f args) := by
  unfold isCall at hc
  unfold aop at ha ⊢
  cases hop : o.op with
  | call c =>
    simp only [hop] at ha hc ⊢
    cases hcl : c.callee with
    | value g => simp only [hcl] at ha ⊢; exact ha
    | invoke r m => simp only [hcl] at ha ⊢; exact ha
    | builtin b => simp only [hcl] at hc; cases hc
  | _ => simp only [hop] at hc; cases hc

variable {F : Terr} {φ : Phi} {w : World} {h1 : Nat → Option ABlk}

/-- A block made under a number that was kept for it. -/
theorem alloc_soundAt {ρ : Operand → AV} {ρc : Operand → Value} {o : Oper} {v : AV} {x : ABlk} {b0 n0 n1 : Nat} (hk : kindOf o = .a) (hρ : ∀ x, VR F φ (ρ x) (ρc x)) (ha : aop P h b0 ρ o = some (.val v [(b0, some x)] (b0 + 1)))
    (hr : HR P F φ n h1 w) (hn0 : φ b0 = none) (hm : n0 ≤ n ∧ n0 ≤ b0) (hn1 : n ≤ n1) (hn2 : b0 < n1) :
    ∃ u w' φ', (execOp ρc o).run P w = .ok (.value u) w' ∧ HR P F φ' n1 (hset h1 b0 (some x)) w' ∧ Ext F φ n0 h1 w F φ' n1 w' ∧ VR F φ' v u ∧ ∀ j, j ≠ b0 → φ' j = φ j := by
  unfold kindOf at hk
  unfold aop at ha
  unfold execOp
  cases hop : o.op with
  | alloc t =>
    simp only [hop] at ha ⊢
    split at ha
    · rename_i z hz
      split at ha
      · rename_i hcond
        cases ha
        obtain ⟨zv, z1, z2⟩ := r_zeroValue (w := w) (F := F) (φ := φ) hz
        obtain ⟨w', φ', k1, k2, k3, k4, k5⟩ := r_newVarAt hr n0 b0 n1 hn0 hm hn1 hn2 z2 hcond.1 hcond.2
        exact ⟨_, w', φ', r_v (by simp [Instr.alloc, z1, k1]), k2, k3, k4, k5⟩
      · cases ha
    · cases ha
  | box t x =>
    simp only [hop] at ha ⊢
    split at ha
    · rename_i hcond
      cases ha
      obtain ⟨w', φ', k1, k2, k3, k4, k5⟩ := r_newVarAt hr n0 b0 n1 hn0 hm hn1 hn2 (hρ x) hcond.1 hcond.2
      exact ⟨_, w', φ', r_v (by simp [Instr.box, k1]), k2, k3, k4, k5⟩
    · cases ha
  | buildSlice t len parts =>
    simp only [hop] at ha ⊢
    obtain ⟨p1, p2⟩ := parts_VR hρ parts
    split at ha
    · rename_i e he
      split at ha
      · rename_i s z hs hz
        split at ha
        · cases ha
        · rename_i hcond
          simp only [not_or, Nat.not_lt, Decidable.not_not, gt_iff_lt, ne_eq] at hcond
          obtain ⟨c1, c2, c3⟩ := hcond
          split at ha
          · rename_i rs hp
            split at ha
            · rename_i hcond2
              cases ha
              obtain ⟨d1, d2, d3⟩ := hcond2
              obtain ⟨u, w', φ', k1, k2, k3, k4, k5⟩ := buildSlice_soundAt hr n0 b0 n1 hn0 hm hn1 hn2 he hs hz c1 c2 c3 hp d1 p1 p2 (fun x hx => List.all_eq_true.1 d2 x hx) d3
              exact ⟨u, w', φ', r_v k1, k2, k3, k4, k5⟩
            · cases ha
          · cases ha
      · cases ha
    · cases ha
  | makeMap t r =>
    simp only [hop] at ha ⊢
    cases r with
    | some _ => cases ha
    | none =>
      cases ha
      obtain ⟨k1, k2⟩ := hr.allocAt n0 b0 n1 hn0 hm hn1 hn2 (w' := { w with heap := w.heap.push (.map #[] 0) }) (o := .map #[] 0) rfl (.map []) 0 0 0 0 ⟨#[], 0, by simp, trivial, trivial, fun e he => by simp at he⟩
      exact ⟨.map (some w.heap.size), _, _, r_v (by simp [Instr.makeMap]), k1, k2, .map (L := ⟨w.heap.size, 0, 0, 0, 0⟩) (by simp [pset]), fun j hj => by simp [pset, hj]⟩
  | makeSlice t l c =>
    simp only [hop] at ha ⊢
    have hl := hρ l
    have hcc := hρ c
    generalize ρc l = vl at hl ⊢
    generalize ρc c = vc at hcc ⊢
    split at ha
    · rename_i e l' c' he hl' hc'
      split at ha
      · rename_i s z bytes hs hz hb
        split at ha
        · rename_i hcond
          obtain ⟨d1, d2, d3, d4, d5⟩ := hcond
          cases ha
          rw [hl'] at hl
          rw [hc'] at hcc
          cases hl; cases hcc
          obtain ⟨u, w', φ', k1, k2, k3, k4, k5⟩ := makeSlice_soundAt hr n0 b0 n1 hn0 hm hn1 hn2 he hs hz hb d1 d2 d3 d4 d5
          exact ⟨u, w', φ', r_v k1, k2, k3, k4, k5⟩
        · cases ha
      · cases ha
    · cases ha
  | call c =>
    simp only [hop] at hk
    split at hk <;> cases hk
  | _ => rw [hop] at hk; cases hk
end

end Go.Ab

/- Regions that draw their order, third part: what stands before what, and the evaluator's way through such a region. -/
namespace Go.Ab
open Go

/-! ### Masks -/
theorem mask_one (i j : Nat) : (1 <<< i).testBit j = decide (i = j) := by
  rw [Nat.one_shiftLeft, Nat.testBit_two_pow]

def mdiff (a m : Nat) : Nat := a ^^^ (a &&& m)

theorem mdiff_bit (a m j : Nat) : (mdiff a m).testBit j = (a.testBit j && !m.testBit j) := by
  unfold mdiff
  rw [Nat.testBit_xor, Nat.testBit_and]
  cases a.testBit j <;> cases m.testBit j <;> rfl

def msub (m d : Nat) : Bool := (m &&& d) == m

theorem msub_bit {m d : Nat} (h : msub m d = true) (j : Nat) (hj : m.testBit j = true) : d.testBit j = true := by
  have h' : m &&& d = m := by simpa [msub] using h
  have := congrArg (fun x => Nat.testBit x j) h'
  simp only [Nat.testBit_and, hj, Bool.true_and] at this
  exact this

theorem madd_bit (a i j : Nat) : (a ||| (1 <<< i)).testBit j = (a.testBit j || decide (i = j)) := by
  rw [Nat.testBit_or, mask_one]

/-! ### What stands before what -/
def maskOf (acc : List Nat) (es : List Edge) : Nat :=
  es.foldl (fun m e => if Region.binds .any e && decide (e.on < acc.length) then m ||| (1 <<< e.on) ||| acc.getD e.on 0 else m) 0

def masksGo : List Oper → List Nat → List Nat
  | [], acc => acc
  | o :: os, acc => masksGo os (acc ++ [maskOf acc o.after.toList])

def masks (ops : Array Oper) : List Nat := masksGo ops.toList []

def Ready (S : Nat → Bool) (o : Oper) : Prop := ∀ e ∈ o.after, Region.binds .any e = true → S e.on = true
def Closed (ops : Array Oper) (S : Nat → Bool) : Prop := ∀ i o, ops[i]? = some o → S i = true → Ready S o

def MaskOk (ops : Array Oper) (i m : Nat) : Prop := ∃ o, ops[i]? = some o ∧ ∀ j, m.testBit j = true → ∀ S, Closed ops S → Ready S o → S j = true

theorem maskOf_ok {ops : Array Oper} {acc : List Nat} {o : Oper} (ha : ∀ i m, acc[i]? = some m → MaskOk ops i m) : ∀ j, (maskOf acc o.after.toList).testBit j = true → ∀ S, Closed ops S → Ready S o → S j = true := by
  intro j hj S hc hr
  unfold maskOf at hj
  have key : ∀ (es : List Edge) (m : Nat), (∀ e ∈ es, e ∈ o.after.toList) → (m.testBit j = true → S j = true) →
      (es.foldl (fun m e => if Region.binds .any e && decide (e.on < acc.length) then m ||| (1 <<< e.on) ||| acc.getD e.on 0 else m) m).testBit j = true → S j = true := by
    intro es
    induction es with
    | nil => intro m _ hm h; exact hm h
    | cons e es ih =>
      intro m hes hm h
      refine ih _ (fun e' he' => hes e' (List.mem_cons_of_mem _ he')) ?_ h
      simp only []
      split
      · rename_i hb
        simp only [Bool.and_eq_true, decide_eq_true_eq] at hb
        have hS : S e.on = true := hr e (by simpa using hes e (List.mem_cons_self ..)) hb.1
        intro hbit
        rw [Nat.testBit_or, Nat.testBit_or, mask_one] at hbit
        rcases Bool.or_eq_true _ _ ▸ hbit with h1 | h1
        · rcases Bool.or_eq_true _ _ ▸ h1 with h2 | h2
          · exact hm h2
          · rw [decide_eq_true_eq] at h2; rw [← h2]; exact hS
        · cases hq : acc[e.on]? with
          | none => rw [List.getD_eq_getElem?_getD, hq] at h1; simp at h1
          | some m' =>
            rw [List.getD_eq_getElem?_getD, hq] at h1
            obtain ⟨o', ho', hm'⟩ := ha _ _ hq
            exact hm' j h1 S hc (hc _ _ ho' hS)
      · exact hm
  exact key _ 0 (fun e he => he) (fun h => by simp at h) hj

theorem masksGo_ok {ops : Array Oper} : ∀ (os : List Oper) (acc : List Nat), (∀ i m, acc[i]? = some m → MaskOk ops i m) → ops.toList.drop acc.length = os → ∀ i m, (masksGo os acc)[i]? = some m → MaskOk ops i m
  | [], acc, ha, _, i, m, h => ha i m h
  | o :: os, acc, ha, hd, i, m, h => by
    have ho : ops[acc.length]? = some o := by
      have : (ops.toList.drop acc.length)[0]? = some o := by rw [hd]; rfl
      rw [List.getElem?_drop] at this
      simpa using this
    refine masksGo_ok os _ ?_ ?_ i m h
    · intro i m hi
      by_cases hlt : i < acc.length
      · rw [List.getElem?_append_left hlt] at hi
        exact ha i m hi
      · by_cases he : i = acc.length
        · subst he
          simp at hi
          subst hi
          exact ⟨o, ho, maskOf_ok ha⟩
        · rw [List.getElem?_append_right (by omega), List.getElem?_eq_none (by simp; omega)] at hi
          cases hi
    · have : (ops.toList.drop acc.length).drop 1 = os := by rw [hd]; rfl
      rw [List.drop_drop] at this
      simpa using this

theorem masks_ok {ops : Array Oper} {i m : Nat} (h : (masks ops)[i]? = some m) : MaskOk ops i m :=
  masksGo_ok ops.toList [] (fun i m h => by simp at h) rfl i m h

/-! ### What is asked of a region once for all -/
def opTmps (ops : Array Oper) (o : Oper) : List Tmp :=
  (o.op.operands.toList.filterMap fun x => match x with | .tmp i => some i | _ => none) ++ (match o.guard with | some (j, _) => ((ops[j]?).bind (·.dst)).toList | none => [])

def dstsOf (ops : Array Oper) : List (Option Tmp) := ops.toList.map (·.dst)

/-- Is who writes what is read here among those in the mask? -/
def readsFine (ds : List (Option Tmp)) (m : Nat) (ts : List Tmp) : Bool :=
  ts.all fun t => (ds.zipIdx).all fun (d, k) => (match d with | some d => d != t | none => true) || m.testBit k

/-- Does who writes what is read here stand before, or behind? -/
def readsFine2 (ds : List (Option Tmp)) (ms : List Nat) (i m : Nat) (ts : List Tmp) : Bool :=
  ts.all fun t => (ds.zipIdx).all fun (d, k) => (match d with | some d => d != t | none => true) || m.testBit k || (ms.getD k 0).testBit i

def fineFrom (ops : Array Oper) (msA : List Nat) (ds : List (Option Tmp)) : List Oper → List Nat → List Tmp → Nat → Bool
  | [], _, _, _ => true
  | o :: os, m :: ms, seen, i =>
    (match o.dst with | some d => !seen.contains d | none => true) && o.after.toList.all (fun e => !Region.binds .any e || decide (e.on < i)) && readsFine2 ds msA i m (opTmps ops o) &&
      fineFrom ops msA ds os ms (match o.dst with | some d => d :: seen | none => seen) (i + 1)
  | _ :: _, [], _, _ => false

def fineA' (ops : Array Oper) : Bool := fineFrom ops (masks ops) (dstsOf ops) ops.toList (masks ops) [] 0

structure Static (ops : Array Oper) (ms : List Nat) : Prop where
  mask : ∀ (i : Nat) (o : Oper), ops[i]? = some o → ∃ m, ms[i]? = some m
  sound : ∀ i m, ms[i]? = some m → MaskOk ops i m
  dst : ∀ (i k : Nat) (o o' : Oper) (d : Tmp), ops[i]? = some o → ops[k]? = some o' → o.dst = some d → o'.dst = some d → i = k
  reads : ∀ (i k : Nat) (o o' : Oper) (m : Nat) (d : Tmp), ops[i]? = some o → ops[k]? = some o' → ms[i]? = some m → o'.dst = some d → d ∈ opTmps ops o → m.testBit k = true ∨ ∃ m', ms[k]? = some m' ∧ m'.testBit i = true
  edge : ∀ (i : Nat) (o : Oper), ops[i]? = some o → ∀ e ∈ o.after, Region.binds .any e = true → e.on < i

theorem readsFine_spec {ops : Array Oper} {m : Nat} {ts : List Tmp} (h : readsFine (dstsOf ops) m ts = true) {k : Nat} {o' : Oper} {d : Tmp} (hk : ops[k]? = some o') (hd : o'.dst = some d) (ht : d ∈ ts) : m.testBit k = true := by
  unfold readsFine at h
  have h1 := List.all_eq_true.1 (List.all_eq_true.1 h d ht) (o'.dst, k) (by
    rw [List.mem_iff_getElem?]
    refine ⟨k, ?_⟩
    rw [List.getElem?_zipIdx]
    simp [dstsOf, hk])
  simpa [hd] using h1

theorem readsFine2_spec {ops : Array Oper} {ms : List Nat} {i m : Nat} {ts : List Tmp} (h : readsFine2 (dstsOf ops) ms i m ts = true) {k : Nat} {o' : Oper} {d : Tmp} (hk : ops[k]? = some o') (hd : o'.dst = some d) (ht : d ∈ ts) :
    m.testBit k = true ∨ ∃ m', ms[k]? = some m' ∧ m'.testBit i = true := by
  unfold readsFine2 at h
  have h1 := List.all_eq_true.1 (List.all_eq_true.1 h d ht) (o'.dst, k) (by
    rw [List.mem_iff_getElem?]
    refine ⟨k, ?_⟩
    rw [List.getElem?_zipIdx]
    simp [dstsOf, hk])
  simp only [hd, bne_self_eq_false, Bool.false_or, Bool.or_eq_true] at h1
  rcases h1 with h1 | h1
  · exact .inl h1
  · refine .inr ?_
    cases hq : ms[k]? with
    | none => rw [List.getD_eq_getElem?_getD, hq] at h1; simp at h1
    | some m' => rw [List.getD_eq_getElem?_getD, hq] at h1; exact ⟨m', rfl, h1⟩

theorem fineFrom_spec {ops : Array Oper} {msA : List Nat} : ∀ (os : List Oper) (ms : List Nat) (seen : List Tmp) (i : Nat), fineFrom ops msA (dstsOf ops) os ms seen i = true → ops.toList.drop i = os → msA.drop i = ms →
    (∀ (k : Nat) (o : Oper) (d : Tmp), k < i → ops[k]? = some o → o.dst = some d → d ∈ seen) → ∀ (j : Nat) (o : Oper), i ≤ j → ops[j]? = some o →
      (∃ m, msA[j]? = some m ∧ readsFine2 (dstsOf ops) msA j m (opTmps ops o) = true) ∧ (∀ e ∈ o.after, Region.binds .any e = true → e.on < j) ∧ (∀ (k : Nat) (o' : Oper) (d : Tmp), k < j → ops[k]? = some o' → o.dst = some d → o'.dst = some d → False)
  | [], ms, seen, i, h, hd, hm, hs, j, o, hij, hj => by
    have : ops.toList[j]? = some o := by simpa using hj
    have h2 : ops.toList.length ≤ i := List.drop_eq_nil_iff.1 hd
    rw [List.getElem?_eq_none (by omega)] at this
    cases this
  | o0 :: os, [], seen, i, h, _, _, _, _, _, _, _ => by simp [fineFrom] at h
  | o0 :: os, m :: ms, seen, i, h, hd, hm, hs, j, o, hij, hj => by
    simp only [fineFrom, Bool.and_eq_true] at h
    obtain ⟨⟨⟨h1, h2⟩, h3⟩, h5⟩ := h
    have ho : ops[i]? = some o0 := by
      have : (ops.toList.drop i)[0]? = some o0 := by rw [hd]; rfl
      rw [List.getElem?_drop] at this
      simpa using this
    have hm0 : msA[i]? = some m := by
      have : (msA.drop i)[0]? = some m := by rw [hm]; rfl
      rw [List.getElem?_drop] at this
      simpa using this
    by_cases he : j = i
    · subst he
      rw [ho] at hj
      cases hj
      refine ⟨⟨m, hm0, h3⟩, fun e hem hb => ?_, fun k o' d hk hk' hd1 hd2 => ?_⟩
      · have := List.all_eq_true.1 h2 e (by simpa using hem)
        simpa [hb] using this
      · rw [hd1] at h1
        have := hs k o' d hk hk' hd2
        simp only [Bool.not_eq_true', List.contains_eq_mem, decide_eq_false_iff_not] at h1
        exact h1 this
    · refine fineFrom_spec os ms _ (i + 1) h5 ?_ ?_ ?_ j o (by omega) hj
      · have : (ops.toList.drop i).drop 1 = os := by rw [hd]; rfl
        rw [List.drop_drop] at this
        exact this
      · have : (msA.drop i).drop 1 = ms := by rw [hm]; rfl
        rw [List.drop_drop] at this
        exact this
      · intro k o' d hk hk' hd'
        by_cases hki : k = i
        · subst hki
          rw [ho] at hk'
          cases hk'
          rw [hd']
          exact List.mem_cons_self ..
        · have := hs k o' d (by omega) hk' hd'
          split
          · exact List.mem_cons_of_mem _ this
          · exact this

theorem static_of {ops : Array Oper} (h : fineA' ops = true) : Static ops (masks ops) := by
  have key := fineFrom_spec (ops := ops) (msA := masks ops) _ _ _ _ h (by simp) (by simp) (fun k o d hk => by omega)
  refine ⟨fun i o hi => ?_, fun i m hm => masks_ok hm, fun i k o o' d hi hk hd hd' => ?_, fun i k o o' m d hi hk hm hd ht => ?_, fun i o hi => (key i o (Nat.zero_le _) hi).2.1⟩
  · obtain ⟨⟨m, hm, _⟩, _⟩ := key i o (Nat.zero_le _) hi
    exact ⟨m, hm⟩
  · rcases Nat.lt_trichotomy i k with h1 | h1 | h1
    · exact ((key k o' (Nat.zero_le _) hk).2.2 i o d h1 hi hd' hd).elim
    · exact h1
    · exact ((key i o (Nat.zero_le _) hi).2.2 k o' d h1 hk hd hd').elim
  · obtain ⟨⟨m', hm', hf⟩, _⟩ := key i o (Nat.zero_le _) hi
    rw [hm] at hm'
    cases hm'
    exact readsFine2_spec hf hk hd ht
end Go.Ab

/- Regions that draw their order, fourth part: the evaluator's way through one. -/
namespace Go.Ab
open Go

def eqL (f : AV → AV → Bool) : List AV → List AV → Bool
  | [], [] => true
  | x :: xs, y :: ys => f x y && eqL f xs ys
  | _, _ => false

def eqLL (f : AV → AV → Bool) : List (List AV) → List (List AV) → Bool
  | [], [] => true
  | x :: xs, y :: ys => eqL f x y && eqLL f xs ys
  | _, _ => false

/-- Are two values the same, as far as is looked? -/
def eqV : Nat → AV → AV → Bool
  | 0, _, _ => false
  | d + 1, x, y =>
    match x, y with
    | .any, .any => true
    | .bool a, .bool b => a == b
    | .int k a, .int k' b => decide (k = k') && decide (a = b)
    | .str a, .str b => decide (a = b)
    | .nilp, .nilp => true
    | .nilf, .nilf => true
    | .nili, .nili => true
    | .nilm, .nilm => true
    | .agg xs, .agg ys => eqL (eqV d) xs ys
    | .tup xs, .tup ys => eqL (eqV d) xs ys
    | .ptr b r o, .ptr b' r' o' => b == b' && r == r' && o == o'
    | .rop row o, .rop row' o' => eqL (eqV d) row row' && o == o'
    | .sl b s n c, .sl b' s' n' c' => b == b' && s == s' && n == n' && decide (c = c')
    | .ro rows t, .ro rows' t' => eqLL (eqV d) rows rows' && t == t'
    | .map m, .map m' => m == m'
    | .fn (.func f) a b, .fn (.func g) a' b' => f == g && eqL (eqV d) a a' && eqL (eqV d) b b'
    | .yld l, .yld l' => l == l'
    | .ifc t v, .ifc t' v' => t == t' && eqV d v v'
    | _, _ => false

theorem eqL_eq {f : AV → AV → Bool} (hf : ∀ x y, f x y = true → x = y) : ∀ xs ys, eqL f xs ys = true → xs = ys
  | [], [], _ => rfl
  | x :: xs, y :: ys, h => by
    simp only [eqL, Bool.and_eq_true] at h
    rw [hf _ _ h.1, eqL_eq hf xs ys h.2]
  | [], _ :: _, h => by simp [eqL] at h
  | _ :: _, [], h => by simp [eqL] at h

theorem eqLL_eq {f : AV → AV → Bool} (hf : ∀ x y, f x y = true → x = y) : ∀ xs ys, eqLL f xs ys = true → xs = ys
  | [], [], _ => rfl
  | x :: xs, y :: ys, h => by
    simp only [eqLL, Bool.and_eq_true] at h
    rw [eqL_eq hf _ _ h.1, eqLL_eq hf xs ys h.2]
  | [], _ :: _, h => by simp [eqLL] at h
  | _ :: _, [], h => by simp [eqLL] at h

theorem eqV_eq : ∀ (d : Nat) (x y : AV), eqV d x y = true → x = y
  | 0, _, _, h => by simp [eqV] at h
  | d + 1, x, y, h => by
    have ih := eqV_eq d
    unfold eqV at h
    split at h <;> simp_all
    · exact eqL_eq ih _ _ h
    · exact eqL_eq ih _ _ h
    · exact eqL_eq ih _ _ h.1
    · exact eqLL_eq ih _ _ h.1
    · exact ⟨eqL_eq ih _ _ h.1.2, eqL_eq ih _ _ h.2⟩
    · exact ih _ _ h.2

/-- Does an operation look at memory? -/
def looks (o : Oper) : Bool :=
  match o.op with
  | .load _ _ | .lookup _ _ _ _ | .slice _ _ _ _ _ | .indexAddr _ _ _ => true
  | .call _ => true
  | _ => false

theorem aop_free {P : Program} {h h' : Nat → Option ABlk} {n : Nat} {ρ : Operand → AV} {o : Oper} (hk : kindOf o = .r) (hl : looks o = false) : aop P h n ρ o = aop P h' n ρ o := by
  unfold kindOf at hk
  unfold looks at hl
  unfold aop
  cases hop : o.op with
  | makeMap t r => cases r <;> rfl
  | _ =>
    first
      | rfl
      | (rw [hop] at hk; cases hk; done)
      | (rw [hop] at hl; cases hl; done)

/-- Calls whose answers are told beforehand. -/
abbrev KTab := FuncId → List AV → Option AEnd
/-- The same, by the operation's number. -/
abbrev KTabs := Nat → KTab

def KOk (P : Program) (K : KTab) : Prop := ∀ f args ae, K f args = some ae → ClosedCall P f args ae ∧ (∀ x ∈ args, Clo x) ∧ ae.clo
def KsOk (P : Program) (K : KTabs) : Prop := ∀ i, KOk P (K i)

/-- A run through a region: the state in which all that could be done has been; what has been done; what of this may be later; what of this made a block. -/
structure DS where
  s : ES
  done : Nat
  pend : Nat
  al : Nat

def addOp (P : Program) (K : KTabs) (ops : Array Oper) (n0 : Nat) (ds : DS) (i : Nat) (o : Oper) (m : Nat) : Option DS :=
  if ds.done.testBit i || !msub m ds.done then some ds else
  match wantedA ops ds.s.t o with
  | some false => some { s := ds.s.put o.dst (.tup []), done := ds.done ||| (1 <<< i), pend := ds.pend ||| (1 <<< i), al := ds.al }
  | some true =>
    match kindOf o with
    | .r =>
      match aop P ds.s.hp.tr.get 0 (opnd ds.s.t) o with
      | some (.val v _ _) => some { s := ds.s.put o.dst v, done := ds.done ||| (1 <<< i), pend := ds.pend ||| (1 <<< i), al := ds.al }
      | _ => none
    | .a =>
      match aop P ds.s.hp.tr.get (n0 + i) (opnd ds.s.t) o with
      | some (.val v ((_, some x) :: _) _) =>
        some { s := { ds.s with hp := { ds.s.hp with tr := ds.s.hp.tr.set (n0 + i) (some x) } }.put o.dst v, done := ds.done ||| (1 <<< i), pend := ds.pend ||| (1 <<< i), al := ds.al ||| (1 <<< i) }
      | _ => none
    | .c =>
      if !isCall o then some ds else
      match aop P ds.s.hp.tr.get 0 (opnd ds.s.t) o with
      | some (.enter f args) =>
        match K i f args with
        | some (.ret v) => some { s := ds.s.put o.dst v, done := ds.done ||| (1 <<< i), pend := ds.pend ||| (1 <<< i), al := ds.al }
        | _ => some ds
      | _ => some ds
    | .x => none
  | none => none

/-- The operations with their masks and numbers. -/
def tri (ops : Array Oper) (ms : List Nat) : List ((Oper × Nat) × Nat) := (ops.toList.zip ms).zipIdx

def satGo (P : Program) (K : KTabs) (ops : Array Oper) (n0 : Nat) : List ((Oper × Nat) × Nat) → DS → Option DS
  | [], ds => some ds
  | ((o, m), i) :: l, ds =>
    match addOp P K ops n0 ds i o m with
    | some ds => satGo P K ops n0 l ds
    | none => none

/-- The blocks that an operation with this mask does not hang on. -/
def hidIds (n0 size al m : Nat) : List Nat :=
  (List.range size).filterMap fun i => if al.testBit i && !m.testBit i then some (n0 + i) else none

def trHide (t : Tr ABlk) : List Nat → Tr ABlk
  | [] => t
  | b :: bs => trHide (t.set b none) bs

def trBack (t0 t : Tr ABlk) : List Nat → Tr ABlk
  | [] => t
  | b :: bs => trBack t0 (t.set b (t0.get b)) bs

/-- What has been read would be read again. -/
def again1 (P : Program) (ops : Array Oper) (s : ES) (pend : Nat) (o : Oper) (m i : Nat) : Bool :=
  if pend.testBit i && looks o && decide (kindOf o = .r) then
    readsFine (dstsOf ops) m (opTmps ops o) && match wantedA ops s.t o with
    | some true =>
      match aop P s.hp.tr.get 0 (opnd s.t) o with
      | some (.val v _ _) => (match o.dst with | some d => eqV 30 v (s.t d) | none => true)
      | _ => false
    | some false => true
    | none => false
  else true

def again (P : Program) (ops : Array Oper) (s : ES) (pend : Nat) (l : List ((Oper × Nat) × Nat)) : Bool := l.all fun x => again1 P ops s pend x.1.1 x.1.2 x.2

/-- The first operation that has not been done. -/
def firstUndone (done : Nat) (l : List ((Oper × Nat) × Nat)) : Option ((Oper × Nat) × Nat) := l.find? fun x => !done.testBit x.2

/-- No other one can be done. -/
def onlyOne (done c : Nat) (l : List ((Oper × Nat) × Nat)) : Bool := l.all fun x => done.testBit x.2 || x.2 == c || !msub x.1.2 done

def blur (s : ES) : List Oper → ES
  | [] => s
  | o :: os => blur (s.put o.dst .any) os

def isWanted (ops : Array Oper) (t : Nat → AV) (o : Oper) : Bool := match wantedA ops t o with | some w => w | none => false

/-- From a state in which all that could be done has been. -/
def afterSat (P : Program) (ih : Rec) (rd : Bool) (ops : Array Oper) (l : List ((Oper × Nat) × Nat)) (n0 : Nat) (next : DS → Option (AExit × ES)) (ds : DS) : Option (AExit × ES) :=
  match firstUndone ds.done l with
  | none => some (.normal, ds.s)
  | some ((o, m), c) =>
    if decide (kindOf o = .c) && onlyOne ds.done c l && isWanted ops ds.s.t o then
      match operA P ih rd o { ds.s with hp := { ds.s.hp with tr := trHide ds.s.hp.tr (hidIds n0 ops.size ds.al m) } } with
      | some (.normal, s) =>
        if again P ops { s with hp := { s.hp with tr := trBack ds.s.hp.tr s.hp.tr (hidIds n0 ops.size ds.al m) } } (mdiff ds.pend m) l then
          next { s := { s with hp := { s.hp with tr := trBack ds.s.hp.tr s.hp.tr (hidIds n0 ops.size ds.al m) } }, done := ds.done ||| (1 <<< c), pend := mdiff ds.pend m, al := mdiff ds.al m }
        else none
      | some (.panic v, s) => some (.panic v, blur s ops.toList)
      | _ => none
    else none

def runD (P : Program) (K : KTabs) (ih : Rec) (rd : Bool) (ops : Array Oper) (l : List ((Oper × Nat) × Nat)) (n0 : Nat) : Nat → DS → Option (AExit × ES)
  | 0, _ => none
  | fuel + 1, ds =>
    match satGo P K ops n0 l ds with
    | none => none
    | some ds => afterSat P ih rd ops l n0 (runD P K ih rd ops l n0 fuel) ds

/-- A region that draws its order. -/
def drawA (P : Program) (K : KTabs) (ih : Rec) (rd : Bool) (ops : Array Oper) (s : ES) : Option (AExit × ES) :=
  let n0 := s.hp.n
  if fineA' ops && decide (n0 + ops.size < 2 ^ 23) && ops.toList.all (fun o => match o.dst with | some d => decide (d < s.nt) | none => true) then
    runD P K ih rd ops (tri ops (masks ops)) n0 (ops.size + 1) { s := { s with hp := { s.hp with n := n0 + ops.size } }, done := 0, pend := 0, al := 0 }
  else none
end Go.Ab

/- Regions that draw their order, fifth part: what the evaluator keeps of such a region. -/
namespace Go.Ab
open Go

theorem ES.put_facts (s : ES) (dst : Option Tmp) (v : AV) (hs : s.nt < 2 ^ 23) (hd : ∀ d, dst = some d → d < s.nt) :
    (s.put dst v).t = (fun x => if dst = some x then v else s.t x) ∧ (s.put dst v).hp = s.hp ∧ (s.put dst v).nt = s.nt ∧ (s.put dst v).d = s.d ∧ (s.put dst v).u = s.u := by
  cases dst with
  | none => exact ⟨by funext x; simp [ES.put], rfl, rfl, rfl, rfl⟩
  | some d =>
    have hd' := hd d rfl
    have e0 : s.put (some d) v = { s with ov := s.ov.set d (some v) } := by simp only [ES.put, if_pos hd']
    rw [e0]
    refine ⟨?_, rfl, rfl, rfl, rfl⟩
    funext x
    simp only [ES.t]
    rw [Tr.get_set _ _ _ (Nat.lt_trans hd' (Nat.lt_trans hs (by decide)))]
    by_cases hx : x = d
    · subst hx; simp
    · have : ¬ (some d = some x) := fun e => hx (Option.some.inj e).symm
      simp [hx, this]

theorem ASt.put_facts (σ : ASt) (dst : Option Tmp) (v : AV) (hd : ∀ d, dst = some d → d < σ.nt) :
    (σ.put dst v).t = (fun x => if dst = some x then v else σ.t x) := by
  cases dst with
  | none => funext x; simp [ASt.put]
  | some d =>
    unfold ASt.put
    simp only [if_pos (hd d rfl)]
    funext x
    by_cases hx : x = d
    · subst hx; simp
    · have : ¬ (some d = some x) := fun e => hx (Option.some.inj e).symm
      simp [hx, this]

theorem reads_congr {ops : Array Oper} {o : Oper} {t t' : Nat → AV} (h : ∀ x ∈ opTmps ops o, t x = t' x) : (∀ x ∈ o.op.operands, opnd t x = opnd t' x) ∧ wantedA ops t o = wantedA ops t' o := by
  refine ⟨fun x hx => ?_, ?_⟩
  · cases x with
    | tmp i =>
      refine h i ?_
      unfold opTmps
      refine List.mem_append_left _ (List.mem_filterMap.2 ⟨.tmp i, by simpa using hx, rfl⟩)
    | _ => rfl
  · unfold wantedA
    cases hg : o.guard with
    | none => rfl
    | some jw =>
      obtain ⟨j, want⟩ := jw
      simp only
      cases hd : (ops[j]?).bind (·.dst) with
      | none => rfl
      | some d =>
        simp only
        rw [h d ?_]
        unfold opTmps
        refine List.mem_append_right _ ?_
        rw [hg]
        simp [hd]

open Classical in
/-- What an operation finds in its temporaries, when its turn comes. -/
noncomputable def envI (ops : Array Oper) (m : Nat) (b0 t : Nat → AV) : Nat → AV :=
  fun x => if (∃ k o, ops[k]? = some o ∧ o.dst = some x ∧ m.testBit k = true) then t x else b0 x

/-- What is known of an operation that has been done, and may be done later. -/
def DRec (P : Program) (K : KTabs) (ops : Array Oper) (n0 : Nat) (e : Nat → AV) (σ : ASt) (al i : Nat) (o : Oper) : Prop :=
  (wantedA ops e o = some false ∧ al.testBit i = false ∧ ∀ d, o.dst = some d → σ.t d = .tup []) ∨
  (wantedA ops e o = some true ∧ kindOf o = .r ∧ al.testBit i = false ∧ ∃ v, (∀ d, o.dst = some d → σ.t d = v) ∧ aop P σ.h 0 (opnd e) o = some (.val v [] 0)) ∨
  (wantedA ops e o = some true ∧ kindOf o = .a ∧ al.testBit i = true ∧ ∃ v x, (∀ d, o.dst = some d → σ.t d = v) ∧ aop P σ.h (n0 + i) (opnd e) o = some (.val v [(n0 + i, some x)] (n0 + i + 1)) ∧ σ.h (n0 + i) = some x) ∨
  (wantedA ops e o = some true ∧ al.testBit i = false ∧ ∃ v f args, (∀ d, o.dst = some d → σ.t d = v) ∧ K i f args = some (.ret v) ∧ ∀ h n, aop P h n (opnd e) o = some (.enter f args))

structure DsOk (P : Program) (K : KTabs) (ops : Array Oper) (ms : List Nat) (n0 : Nat) (b0 : Nat → AV) (ds : DS) : Prop where
  pd : ∀ i, ds.pend.testBit i = true → ds.done.testBit i = true
  ap : ∀ i, ds.al.testBit i = true → ds.pend.testBit i = true
  before : ∀ i m, ms[i]? = some m → ds.done.testBit i = true → ∀ j, m.testBit j = true → ds.done.testBit j = true
  recs : ∀ i o m, ops[i]? = some o → ms[i]? = some m → ds.pend.testBit i = true → DRec P K ops n0 (envI ops m b0 ds.s.t) ds.s.den ds.al i o
  lt : ∀ i, ds.done.testBit i = true → i < ops.size
  base : ∀ x, (∀ k o, ops[k]? = some o → o.dst = some x → ds.done.testBit k = false) → ds.s.t x = b0 x
  n : n0 + ops.size ≤ ds.s.hp.n
  nt : ds.s.nt < 2 ^ 23
  dnt : ∀ (i : Nat) (o : Oper) (d : Tmp), ops[i]? = some o → o.dst = some d → d < ds.s.nt

/-- A state of the machine's run, beside the evaluator's. -/
structure Sim (ops : Array Oper) (n0 : Nat) (b0 : Nat → AV) (ds : DS) (S : Nat → Bool) (σ : ASt) : Prop where
  nt : σ.nt = ds.s.nt
  d : σ.d = ds.s.d
  u : σ.u = ds.s.u
  n : σ.n = ds.s.hp.n
  t : ∀ x, (∀ k o, ops[k]? = some o → o.dst = some x → S k = true) → σ.t x = ds.s.t x
  tb : ∀ x k o, ops[k]? = some o → o.dst = some x → S k = false → σ.t x = b0 x
  h1 : ∀ i, i < ops.size → S i = false → σ.h (n0 + i) = none
  h2 : ∀ b, (∀ i, ds.al.testBit i = true → S i = false → b ≠ n0 + i) → σ.h b = ds.s.hp.tr.get b
  sd : ∀ i, S i = true → ds.done.testBit i = true
  us : ∀ i, ds.done.testBit i = true → ds.pend.testBit i = false → S i = true
  cl : Closed ops S

section
variable {P : Program} {K : KTabs} {ops : Array Oper} {ms : List Nat} {n0 : Nat} {b0 : Nat → AV} {ds ds' : DS} {S : Nat → Bool} {σ : ASt}

theorem lt_of_get {i : Nat} {o : Oper} (h : ops[i]? = some o) : i < ops.size := (Array.getElem?_eq_some_iff.1 h).1

/-- Who reads what another one writes stands behind it, or before. -/
theorem env_now (st : Static ops ms) (ok : DsOk P K ops ms n0 b0 ds) {i : Nat} {o : Oper} {m : Nat} (hi : ops[i]? = some o) (hm : ms[i]? = some m) (hd : ds.done.testBit i = false) :
    ∀ x ∈ opTmps ops o, ds.s.t x = envI ops m b0 ds.s.t x := by
  intro x hx
  unfold envI
  split
  · rfl
  · rename_i hne
    refine ok.base x fun k o' hk hd' => ?_
    rcases st.reads i k o o' m x hi hk hm hd' hx with h1 | ⟨m', h1, h2⟩
    · exact absurd ⟨k, o', hk, hd', h1⟩ hne
    · cases hq : ds.done.testBit k with
      | false => rfl
      | true =>
        have := ok.before k m' h1 hq i h2
        rw [hd] at this
        cases this

/-- A state with one more operation done. -/
theorem add_core (st : Static ops ms) (ok : DsOk P K ops ms n0 b0 ds) (sim : Sim ops n0 b0 ds S σ) {i : Nat} {o : Oper} {m : Nat} (hi : ops[i]? = some o) (hm : ms[i]? = some m) (hd : ds.done.testBit i = false) (hsub : ∀ j, m.testBit j = true → ds.done.testBit j = true)
    {s' : ES} {v : AV} {al' : Nat} (ht : s'.t = fun x => if o.dst = some x then v else ds.s.t x) (hnt : s'.nt = ds.s.nt) (hdd : s'.d = ds.s.d) (hu : s'.u = ds.s.u) (hn : s'.hp.n = ds.s.hp.n)
    (hh : ∀ b, b ≠ n0 + i → s'.hp.tr.get b = ds.s.hp.tr.get b) (hal : ∀ k, k ≠ i → al'.testBit k = ds.al.testBit k) (hali : al'.testBit i = false → s'.hp.tr.get (n0 + i) = ds.s.hp.tr.get (n0 + i))
    (hrec : DRec P K ops n0 (envI ops m b0 s'.t) s'.den al' i o) :
    DsOk P K ops ms n0 b0 { s := s', done := ds.done ||| (1 <<< i), pend := ds.pend ||| (1 <<< i), al := al' } ∧ Sim ops n0 b0 { s := s', done := ds.done ||| (1 <<< i), pend := ds.pend ||| (1 <<< i), al := al' } S σ := by
  have hSi : S i = false := by
    cases hq : S i with
    | false => rfl
    | true => have := sim.sd i hq; rw [hd] at this; cases this
  have hnone : ds.s.hp.tr.get (n0 + i) = none := by
    rw [← sim.h2 (n0 + i) (fun k hk hS he => ?_), sim.h1 i (lt_of_get hi) hSi]
    have : k = i := by omega
    subst this
    have := ok.pd k (ok.ap k hk)
    rw [hd] at this
    cases this
  have henv : ∀ k mk, ms[k]? = some mk → ds.done.testBit k = true → envI ops mk b0 s'.t = envI ops mk b0 ds.s.t := by
    intro k mk hmk hdk
    funext x
    unfold envI
    split
    · rename_i hex
      obtain ⟨k', o', hk', hd', hb'⟩ := hex
      rw [ht]
      simp only
      rw [if_neg]
      intro hod
      have := st.dst i k' o o' x hi hk' hod hd'
      subst this
      have := ok.before k mk hmk hdk i hb'
      rw [hd] at this
      cases this
    · rfl
  refine ⟨⟨?_, ?_, ?_, ?_, ?_, ?_, by simp only [hn]; exact ok.n, by simp only [hnt]; exact ok.nt, fun k o' d hk hd' => by simp only [hnt]; exact ok.dnt k o' d hk hd'⟩, ⟨by rw [sim.nt, hnt], by rw [sim.d, hdd], by rw [sim.u, hu], by rw [sim.n, hn], ?_, sim.tb, sim.h1, ?_, ?_, ?_, sim.cl⟩⟩
  · intro k hk
    rw [madd_bit] at hk ⊢
    cases hq : ds.pend.testBit k with
    | true => rw [ok.pd k hq]; rfl
    | false => rw [hq] at hk; simp only [Bool.false_or] at hk; rw [hk]; simp
  · intro k hk
    simp only at hk ⊢
    rw [madd_bit]
    by_cases he : k = i
    · subst he; simp
    · rw [hal k he] at hk; rw [ok.ap k hk]; rfl
  · intro k mk hmk hk j hj
    simp only at hk ⊢
    rw [madd_bit] at hk ⊢
    by_cases he : i = k
    · subst he
      rw [hm] at hmk
      cases hmk
      rw [hsub j hj]; rfl
    · have : ds.done.testBit k = true := by simpa [he] using hk
      rw [ok.before k mk hmk this j hj]; rfl
  · intro k ok' mk hk hmk hpk
    simp only at hpk ⊢
    by_cases he : k = i
    · subst he
      rw [hi] at hk
      cases hk
      rw [hm] at hmk
      cases hmk
      exact hrec
    · have hpk' : ds.pend.testBit k = true := by
        rw [madd_bit] at hpk
        have : ¬ i = k := fun e => he e.symm
        simpa [this] using hpk
      have hdk := ok.pd k hpk'
      have hdst : ∀ d, ok'.dst = some d → s'.t d = ds.s.t d := by
        intro d hd'
        rw [ht]
        simp only
        rw [if_neg]
        intro hod
        exact he (st.dst k i ok' o d hk hi hd' hod)
      rw [henv k mk hmk hdk]
      rcases ok.recs k ok' mk hk hmk hpk' with ⟨r1, r2, r3⟩ | ⟨r1, r2, r3, v', r4, r5⟩ | ⟨r1, r2, r3, v', x, r4, r5, r6⟩ | ⟨r1, r3, v', f, args, r4, r5, r6⟩
      · exact .inl ⟨r1, by rw [hal k he]; exact r2, fun d hd' => by show s'.t d = _; rw [hdst d hd']; exact r3 d hd'⟩
      · refine .inr (.inl ⟨r1, r2, by rw [hal k he]; exact r3, v', fun d hd' => by show s'.t d = _; rw [hdst d hd']; exact r4 d hd', ?_⟩)
        obtain ⟨v2, e1, e2⟩ := aop_r (h' := s'.hp.tr.get) r2 (fun x _ b y _ hb => by
          rw [hh b]
          · exact hb
          · intro e
            subst e
            have hb' : ds.s.hp.tr.get (n0 + i) = some y := hb
            rw [hnone] at hb'
            cases hb') r5
        cases e1
        exact e2 0
      · refine .inr (.inr (.inl ⟨r1, r2, by rw [hal k he]; exact r3, v', x, fun d hd' => by show s'.t d = _; rw [hdst d hd']; exact r4 d hd', (aop_a r2 r5).2 _, ?_⟩))
        show s'.hp.tr.get (n0 + k) = some x
        rw [hh _ (by omega)]
        exact r6
      · exact .inr (.inr (.inr ⟨r1, by rw [hal k he]; exact r3, v', f, args, fun d hd' => by show s'.t d = _; rw [hdst d hd']; exact r4 d hd', r5, r6⟩))
  · intro k hk
    simp only at hk
    rw [madd_bit] at hk
    by_cases he : i = k
    · subst he; exact lt_of_get hi
    · exact ok.lt k (by simpa [he] using hk)
  · intro x hx
    simp only at hx ⊢
    have hne : ¬ o.dst = some x := by
      intro e
      have := hx i o hi e
      rw [madd_bit] at this
      simp at this
    rw [ht]
    simp only [if_neg hne]
    refine ok.base x fun k o' hk hd' => ?_
    have := hx k o' hk hd'
    rw [madd_bit] at this
    cases hq : ds.done.testBit k with
    | false => rfl
    | true => rw [hq] at this; simp at this
  · intro x hx
    simp only
    rw [sim.t x hx, ht]
    simp only
    rw [if_neg]
    intro e
    have := hx i o hi e
    rw [hSi] at this
    cases this
  · intro b hb
    simp only at hb ⊢
    by_cases he : b = n0 + i
    · subst he
      cases hq : al'.testBit i with
      | true => exact absurd rfl (hb i hq hSi)
      | false =>
        rw [hali hq]
        refine sim.h2 _ fun k hk hS he => ?_
        have : k = i := by omega
        subst this
        have := ok.pd k (ok.ap k hk)
        rw [hd] at this
        cases this
    · rw [hh b he]
      refine sim.h2 b fun k hk hS => ?_
      by_cases hki : k = i
      · subst hki; exact he
      · exact hb k (by rw [hal k hki]; exact hk) hS
  · intro k hk
    simp only
    rw [madd_bit, sim.sd k hk]
    rfl
  · intro k hk hp
    simp only at hk hp
    rw [madd_bit] at hk hp
    by_cases he : i = k
    · subst he; simp at hp
    · exact sim.us k (by simpa [he] using hk) (by simpa [he] using hp)

theorem addOp_ok (st : Static ops ms) (hsz : n0 + ops.size < 2 ^ 23) (ok : DsOk P K ops ms n0 b0 ds) (sim : Sim ops n0 b0 ds S σ) {i : Nat} {o : Oper} {m : Nat} (hi : ops[i]? = some o) (hm : ms[i]? = some m) (h : addOp P K ops n0 ds i o m = some ds') :
    DsOk P K ops ms n0 b0 ds' ∧ Sim ops n0 b0 ds' S σ := by
  unfold addOp at h
  split at h
  · cases h; exact ⟨ok, sim⟩
  · rename_i hc
    simp only [Bool.or_eq_true, not_or, Bool.not_eq_true, Bool.not_eq_false'] at hc
    obtain ⟨hd, hsub⟩ := hc
    have hsub' := msub_bit (by simpa using hsub)
    have hsz' := lt_of_get hi
    have hselft : ∀ (s' : ES) (v : AV), s'.t = (fun x => if o.dst = some x then v else ds.s.t x) → ∀ x ∈ opTmps ops o, ds.s.t x = envI ops m b0 s'.t x := by
      intro s' v hs' x hx
      rw [env_now st ok hi hm hd x hx]
      unfold envI
      split
      · rename_i hex
        obtain ⟨k', o', hk', hd', hb'⟩ := hex
        rw [hs']
        simp only
        rw [if_neg]
        intro hod
        have := st.dst i k' o o' x hi hk' hod hd'
        subst this
        have := hsub' i hb'
        rw [hd] at this
        cases this
      · rfl
    have hali : ds.al.testBit i = false := by
      cases hq : ds.al.testBit i with
      | false => rfl
      | true => have := ok.pd i (ok.ap i hq); rw [hd] at this; cases this
    split at h
    · rename_i hw
      cases h
      obtain ⟨p1, p2, p3, p4, p5⟩ := ES.put_facts ds.s o.dst (.tup []) ok.nt (fun d hd' => ok.dnt i o d hi hd')
      refine add_core st ok sim hi hm hd hsub' p1 p3 p4 p5 (by rw [p2]) (fun b _ => by rw [p2]) (fun _ _ => rfl) (fun _ => by rw [p2]) (.inl ⟨?_, hali, fun d hd' => ?_⟩)
      · rw [← (reads_congr (hselft _ _ p1)).2]; exact hw
      · show (ds.s.put o.dst (.tup [])).t d = _
        rw [p1]; simp [hd']
    · rename_i hw
      split at h
      · rename_i hk
        split at h
        · rename_i v us n' ha
          cases h
          obtain ⟨p1, p2, p3, p4, p5⟩ := ES.put_facts ds.s o.dst v ok.nt (fun d hd' => ok.dnt i o d hi hd')
          obtain ⟨v2, e1, e2⟩ := aop_r (h' := ds.s.hp.tr.get) hk (fun _ _ _ _ _ hb => hb) ha
          cases e1
          refine add_core st ok sim hi hm hd hsub' p1 p3 p4 p5 (by rw [p2]) (fun b _ => by rw [p2]) (fun _ _ => rfl) (fun _ => by rw [p2]) (.inr (.inl ⟨?_, hk, hali, v, fun d hd' => ?_, ?_⟩))
          · rw [← (reads_congr (hselft _ _ p1)).2]; exact hw
          · show (ds.s.put o.dst v).t d = _
            rw [p1]; simp [hd']
          · show aop P (ds.s.put o.dst v).hp.tr.get 0 _ o = _
            rw [p2, ← aop_congr (reads_congr (hselft _ _ p1)).1]
            exact ha
        · cases h
      · rename_i hk
        split at h
        · rename_i v b1 x us n' ha
          cases h
          obtain ⟨⟨v2, x2, e1⟩, e2⟩ := aop_a hk ha
          cases e1
          obtain ⟨p1, p2, p3, p4, p5⟩ := ES.put_facts { ds.s with hp := { ds.s.hp with tr := ds.s.hp.tr.set (n0 + i) (some x) } } o.dst v ok.nt (fun d hd' => ok.dnt i o d hi hd')
          have hget : ∀ b, (({ ds.s with hp := { ds.s.hp with tr := ds.s.hp.tr.set (n0 + i) (some x) } } : ES).put o.dst v).hp.tr.get b = if b = n0 + i then some x else ds.s.hp.tr.get b := by
            intro b
            rw [p2]
            exact Tr.get_set _ _ _ (by omega)
          refine add_core st ok sim hi hm hd hsub' p1 p3 p4 p5 (by rw [p2]) (fun b hb => by rw [hget, if_neg hb]) (fun k hk' => ?_) (fun hq => ?_) (.inr (.inr (.inl ⟨?_, hk, ?_, v, x, fun d hd' => ?_, ?_, ?_⟩)))
          · rw [madd_bit]
            have : ¬ i = k := fun e => hk' e.symm
            simp [this]
          · rw [madd_bit] at hq
            simp at hq
          · rw [← (reads_congr (hselft _ _ p1)).2]; exact hw
          · rw [madd_bit]; simp
          · show (ES.put _ o.dst v).t d = _
            rw [p1]; simp [hd']
          · rw [← aop_congr (reads_congr (hselft _ _ p1)).1]
            exact e2 _
          · show (ES.put _ o.dst v).hp.tr.get (n0 + i) = _
            rw [hget, if_pos rfl]
        · cases h
      · rename_i hk
        split at h
        · cases h; exact ⟨ok, sim⟩
        rename_i hcall
        split at h
        · rename_i f args ha
          split at h
          · rename_i v hK
            cases h
            obtain ⟨p1, p2, p3, p4, p5⟩ := ES.put_facts ds.s o.dst v ok.nt (fun d hd' => ok.dnt i o d hi hd')
            refine add_core st ok sim hi hm hd hsub' p1 p3 p4 p5 (by rw [p2]) (fun b _ => by rw [p2]) (fun _ _ => rfl) (fun _ => by rw [p2]) (.inr (.inr (.inr ⟨?_, hali, v, f, args, fun d hd' => ?_, hK, fun h' n' => ?_⟩)))
            · rw [← (reads_congr (hselft _ _ p1)).2]; exact hw
            · show (ds.s.put o.dst v).t d = _
              rw [p1]; simp [hd']
            · rw [← aop_congr (reads_congr (hselft _ _ p1)).1]
              exact aop_enter (by simpa using hcall) ha h' n'
          · cases h; exact ⟨ok, sim⟩
        · cases h; exact ⟨ok, sim⟩
      · cases h
    · cases h

theorem tri_mem {o : Oper} {m i : Nat} (h : ((o, m), i) ∈ tri ops ms) : ops[i]? = some o ∧ ms[i]? = some m := by
  unfold tri at h
  rw [List.mem_iff_getElem?] at h
  obtain ⟨j, hj⟩ := h
  rw [List.getElem?_zipIdx] at hj
  simp only [Option.map_eq_some_iff] at hj
  obtain ⟨⟨o', m'⟩, h1, h2⟩ := hj
  simp only [Prod.mk.injEq, Nat.zero_add] at h2
  obtain ⟨⟨rfl, rfl⟩, rfl⟩ := h2
  rw [List.getElem?_zip_eq_some] at h1
  exact ⟨by simpa using h1.1, h1.2⟩

theorem mem_tri {o : Oper} {m i : Nat} (h1 : ops[i]? = some o) (h2 : ms[i]? = some m) : ((o, m), i) ∈ tri ops ms := by
  unfold tri
  rw [List.mem_iff_getElem?]
  refine ⟨i, ?_⟩
  rw [List.getElem?_zipIdx]
  have : (ops.toList.zip ms)[i]? = some (o, m) := by
    rw [List.getElem?_zip_eq_some]
    exact ⟨by simpa using h1, h2⟩
  rw [this]
  simp

theorem satGo_ok (st : Static ops ms) (hsz : n0 + ops.size < 2 ^ 23) : ∀ (l : List ((Oper × Nat) × Nat)) (ds ds' : DS), (∀ o m i, ((o, m), i) ∈ l → ops[i]? = some o ∧ ms[i]? = some m) → DsOk P K ops ms n0 b0 ds → Sim ops n0 b0 ds S σ →
    satGo P K ops n0 l ds = some ds' → DsOk P K ops ms n0 b0 ds' ∧ Sim ops n0 b0 ds' S σ
  | [], ds, ds', _, ok, sim, h => by cases h; exact ⟨ok, sim⟩
  | ((o, m), i) :: l, ds, ds', hl, ok, sim, h => by
    unfold satGo at h
    split at h
    · rename_i ds1 h1
      obtain ⟨g1, g2⟩ := hl o m i (List.mem_cons_self ..)
      obtain ⟨ok1, sim1⟩ := addOp_ok st hsz ok sim g1 g2 h1
      exact satGo_ok st hsz l ds1 ds' (fun o m i h => hl o m i (List.mem_cons_of_mem _ h)) ok1 sim1 h
    · cases h
end
end Go.Ab

/- Regions that draw their order, sixth part: one operation of the machine's order. -/
namespace Go.Ab
open Go

def Sadd (S : Nat → Bool) (i : Nat) : Nat → Bool := fun j => S j || decide (j = i)

theorem Sadd_false {S : Nat → Bool} {i j : Nat} (h : Sadd S i j = false) : S j = false ∧ j ≠ i := by
  unfold Sadd at h
  simp only [Bool.or_eq_false_iff, decide_eq_false_iff_not] at h
  exact h

theorem Sadd_old {S : Nat → Bool} {i j : Nat} (h : S j = true) : Sadd S i j = true := by simp [Sadd, h]
theorem Sadd_new {S : Nat → Bool} {i : Nat} : Sadd S i i = true := by simp [Sadd]
theorem Sadd_true {S : Nat → Bool} {i j : Nat} (h : Sadd S i j = true) : S j = true ∨ j = i := by
  unfold Sadd at h
  simpa using h

theorem VR.at {F : Terr} {φ : Phi} {v : AV} {u : Value} (h : VR F φ v u) {b : Nat} (hb : v.at = some b) : ∃ L, φ b = some L := by
  cases h <;> simp only [AV.at, Option.some.injEq, reduceCtorEq] at hb
  all_goals (subst hb; exact ⟨_, by assumption⟩)

section
variable {P : Program} {K : KTabs} {F F' : Terr} {φ φ' : Phi} {w w' : World} {n0 n n' : Nat} {h : Nat → Option ABlk}

theorem Ext.low (hn : n0 ≤ n) (e : Ext F φ n h w F' φ' n' w') : Ext F φ n0 h w F' φ' n' w' :=
  ⟨e.terr, e.phi, Nat.le_trans hn e.nle, e.size, e.keep, e.newF, e.newP, fun b L hL hb => e.newN b L hL (Nat.lt_of_lt_of_le hb hn), e.out⟩

theorem Ext.flat (e : Ext F φ n0 h w F' φ' n' w') : Ext F φ n0 h w F' φ' n0 w' :=
  ⟨e.terr, e.phi, Nat.le_refl _, e.size, e.keep, e.newF, e.newP, e.newN, e.out⟩

variable {ops : Array Oper} {ms : List Nat} {b0 : Nat → AV} {ds : DS} {S : Nat → Bool} {σ : ASt} {b : Frame} {a : Act} {cs : List Frame} {k : List Item}

theorem mask_S (st : Static ops ms) (cl : Closed ops S) {i : Nat} {o : Oper} {m : Nat} (hi : ops[i]? = some o) (hm : ms[i]? = some m) (hr : Ready S o) {j : Nat} (hj : m.testBit j = true) : S j = true := by
  obtain ⟨o', h1, h2⟩ := st.sound i m hm
  rw [hi] at h1
  cases h1
  exact h2 j hj S cl hr

theorem env_S (st : Static ops ms) (ok : DsOk P K ops ms n0 b0 ds) (sim : Sim ops n0 b0 ds S σ) {i : Nat} {o : Oper} {m : Nat} (hi : ops[i]? = some o) (hm : ms[i]? = some m) (hr : Ready S o) (hS : S i = false) :
    ∀ x ∈ opTmps ops o, σ.t x = envI ops m b0 ds.s.t x := by
  intro x hx
  unfold envI
  split
  · rename_i hex
    obtain ⟨k', o', hk', hd', hb'⟩ := hex
    refine sim.t x fun k2 o2 hk2 hd2 => ?_
    rw [st.dst k2 k' o2 o' x hk2 hk' hd2 hd']
    exact mask_S st sim.cl hi hm hr hb'
  · rename_i hne
    by_cases hex : ∃ (k' : Nat) (o' : Oper), ops[k']? = some o' ∧ o'.dst = some x
    · obtain ⟨k', o', hk', hd'⟩ := hex
      rcases st.reads i k' o o' m x hi hk' hm hd' hx with h1 | ⟨m', h1, h2⟩
      · exact absurd ⟨k', o', hk', hd', h1⟩ hne
      · refine sim.tb x k' o' hk' hd' ?_
        cases hq : S k' with
        | false => rfl
        | true =>
          have := mask_S st sim.cl hk' h1 (sim.cl k' o' hk' hq) h2
          rw [hS] at this
          cases this
    · rw [sim.t x fun k' o' hk' hd' => absurd ⟨k', o', hk', hd'⟩ hex]
      exact ok.base x fun k' o' hk' hd' => absurd ⟨k', o', hk', hd'⟩ hex

theorem Closed.add (cl : Closed ops S) {i : Nat} {o : Oper} (hi : ops[i]? = some o) (hr : Ready S o) : Closed ops (Sadd S i) := by
  intro j o' hj hS e he hb
  rcases Sadd_true hS with h1 | h1
  · exact Sadd_old (cl j o' hj h1 e he hb)
  · subst h1
    rw [hi] at hj
    cases hj
    exact Sadd_old (hr e he hb)

theorem Sim.step (st : Static ops ms) (ok : DsOk P K ops ms n0 b0 ds) (sim : Sim ops n0 b0 ds S σ) {i : Nat} {o : Oper} (hi : ops[i]? = some o) (hp : ds.pend.testBit i = true) (hr : Ready S o) {σ' : ASt} {v : AV}
    (hnt : σ'.nt = σ.nt) (hd : σ'.d = σ.d) (hu : σ'.u = σ.u) (hn : σ'.n = σ.n) (ht : σ'.t = fun x => if o.dst = some x then v else σ.t x) (hv : ∀ d, o.dst = some d → ds.s.t d = v)
    (hh : ∀ b, b ≠ n0 + i → σ'.h b = σ.h b) (hhi : σ'.h (n0 + i) = ds.s.hp.tr.get (n0 + i)) : Sim ops n0 b0 ds (Sadd S i) σ' := by
  refine ⟨hnt.trans sim.nt, hd.trans sim.d, hu.trans sim.u, hn.trans sim.n, ?_, ?_, ?_, ?_, ?_, ?_, sim.cl.add hi hr⟩
  · intro x hx
    rw [ht]
    simp only
    by_cases hq : o.dst = some x
    · rw [if_pos hq, hv x hq]
    · rw [if_neg hq]
      refine sim.t x fun k' o' hk' hd' => ?_
      rcases Sadd_true (hx k' o' hk' hd') with h1 | h1
      · exact h1
      · subst h1
        rw [hi] at hk'
        cases hk'
        exact absurd hd' hq
  · intro x k' o' hk' hd' hS
    obtain ⟨h1, h2⟩ := Sadd_false hS
    rw [ht]
    simp only
    rw [if_neg (fun hq => h2 (st.dst k' i o' o x hk' hi hd' hq))]
    exact sim.tb x k' o' hk' hd' h1
  · intro j hj hS
    obtain ⟨h1, h2⟩ := Sadd_false hS
    rw [hh _ (by omega)]
    exact sim.h1 j hj h1
  · intro b' hb'
    by_cases he : b' = n0 + i
    · subst he; exact hhi
    · rw [hh b' he]
      refine sim.h2 b' fun k' hk' hS => ?_
      by_cases hki : k' = i
      · subst hki; exact he
      · exact hb' k' hk' (by simp [Sadd, hS, hki])
  · intro j hj
    rcases Sadd_true hj with h1 | h1
    · exact sim.sd j h1
    · subst h1; exact ok.pd _ hp
  · intro j hj hp'
    exact Sadd_old (sim.us j hj hp')

theorem own_block (sim : Sim ops n0 b0 ds S σ) {i : Nat} (ha : ds.al.testBit i = false) : σ.h (n0 + i) = ds.s.hp.tr.get (n0 + i) :=
  sim.h2 _ fun k' hk' _ he => by
    have : k' = i := by omega
    subst this
    rw [ha] at hk'
    cases hk'

/-- An operation that the evaluator has done already. -/
theorem pend_step (hP : Fit P) (hK : KsOk P K) (st : Static ops ms) (ok : DsOk P K ops ms n0 b0 ds) (sim : Sim ops n0 b0 ds S σ) (hs : SR P F φ σ b a cs w) (hφ : ∀ j, j < ops.size → S j = false → φ (n0 + j) = none)
    {i : Nat} {o : Oper} {m : Nat} {rest : List Nat} (hi : ops[i]? = some o) (hm : ms[i]? = some m) (hp : ds.pend.testBit i = true) (hS : S i = false) (hr : Ready S o) :
    ∃ σ' F' φ' a' cs' w', SR P F' φ' σ' b a' cs' w' ∧ Sim ops n0 b0 ds (Sadd S i) σ' ∧ Ext F φ n0 σ.h w F' φ' σ'.n w' ∧ (∀ b x, σ'.h b = some x → b < n0 → ∃ y, σ.h b = some y) ∧ (∀ j, j < ops.size → Sadd S i j = false → φ' (n0 + j) = none) ∧
      CsR σ.u cs cs' ∧ Steps P (lone (b.atR a (.inRegion ops (i :: rest) :: k)) cs w) (lone (b.atR a' (.inRegion ops rest :: k)) cs' w') := by
  have hsz := lt_of_get hi
  have hn0 : n0 ≤ σ.n := by rw [sim.n]; have := ok.n; omega
  have hnsz : n0 + ops.size ≤ σ.n := by rw [sim.n]; exact ok.n
  have hdn : ∀ d, o.dst = some d → d < σ.nt := fun d hd => by rw [sim.nt]; exact ok.dnt i o d hi hd
  have henv := reads_congr (env_S st ok sim hi hm hr hS)
  -- what is the same for the first two kinds
  have fin : ∀ v, ds.al.testBit i = false → (∀ d, o.dst = some d → ds.s.t d = v) → FromTo P b.roundOf.isSome [.inRegion ops (i :: rest)] [.inRegion ops rest] σ (fun e σ1 => e = .normal ∧ σ1 = σ.put o.dst v) →
      ∃ σ' F' φ' a' cs' w', SR P F' φ' σ' b a' cs' w' ∧ Sim ops n0 b0 ds (Sadd S i) σ' ∧ Ext F φ n0 σ.h w F' φ' σ'.n w' ∧ (∀ b x, σ'.h b = some x → b < n0 → ∃ y, σ.h b = some y) ∧ (∀ j, j < ops.size → Sadd S i j = false → φ' (n0 + j) = none) ∧
        CsR σ.u cs cs' ∧ Steps P (lone (b.atR a (.inRegion ops (i :: rest) :: k)) cs w) (lone (b.atR a' (.inRegion ops rest :: k)) cs' w') := by
    intro v hal hv hft
    obtain ⟨e, σ1, F1, φ1, a1, cs1, w1, ⟨rfl, rfl⟩, s1, g1, c1, r1⟩ := hft F φ b a k cs w hs rfl
    obtain ⟨p1, p2, p3, p4, p5⟩ := put_nt σ o.dst v
    refine ⟨σ.put o.dst v, F1, φ1, a1, cs1, w1, s1, ?_, g1.ext.low hn0, fun b' x hx hb' => g1.dom b' x hx (Nat.lt_of_lt_of_le hb' hn0), fun j hj hS' => ?_, c1, r1⟩
    · exact sim.step st ok hi hp hr p1 p5 p2 p4 (ASt.put_facts σ o.dst v hdn) hv (fun b' _ => by rw [p3]) (by rw [p3]; exact own_block sim hal)
    · cases hq : φ1 (n0 + j) with
      | none => rfl
      | some L =>
        have := g1.ext.newN _ L hq (by omega)
        rw [hφ j hj (Sadd_false hS').1] at this
        cases this
  rcases ok.recs i o m hi hm hp with ⟨r1, r2, r3⟩ | ⟨r1, r2, r3, v, r4, r5⟩ | ⟨r1, r2, r3, v, x, r4, r5, r6⟩ | ⟨r1, r3, v, f, args, r4, r5, r6⟩
  · exact fin (.tup []) r2 r3 (oper_skip hi (by rw [henv.2]; exact r1) ⟨rfl, rfl⟩)
  · refine fin v r3 r4 (oper_ok hP hi (by rw [henv.2]; exact r1) ?_)
    rw [← aop_congr henv.1] at r5
    obtain ⟨v2, e1, e2⟩ := aop_r (h' := σ.h) r2 (fun x hx b' y hb' hy => by
      obtain ⟨L, hL⟩ := (opnd_VR hs.tmps x).at hb'
      rw [sim.h2 b' fun k' hk' hS' he => ?_]
      · exact hy
      · rw [he, hφ k' (ok.lt k' (ok.pd k' (ok.ap k' hk'))) hS'] at hL
        cases hL) r5
    cases e1
    rw [e2 σ.n]
    exact ⟨rfl, rfl⟩
  · -- a block is made, under its number
    rw [← aop_congr henv.1] at r5
    have hwant := wantedA_sound (σ := σ) hs (by rw [henv.2]; exact r1)
    obtain ⟨u, w', φ', hrun, k1, k2, k3, k4⟩ := alloc_soundAt (n := σ.n) (h1 := σ.h) (w := w) (n0 := n0) (n1 := σ.n) r2 (opnd_VR hs.tmps) r5 hs.heap (hφ i hsz hS) ⟨hn0, by omega⟩ (Nat.le_refl _) (by omega)
    have hg := stepGR_op (P := P) (b := b) (a := a) (k := k) (cs := cs) (w := w) (rest := rest) hi hwant
    have hfin : ∀ v, (b.atR a (.inRegion ops (i :: rest) :: k)).finish v = b.atR (a.put o.dst v) (.inRegion ops rest :: k) := by
      intro v; rw [Frame.finish_atR, hi]; rfl
    have hnd : ∀ c, o.op ≠ .defer c := by
      intro c hc
      unfold kindOf at r2
      rw [hc] at r2
      cases r2
    rw [semAt_of _ (.inr hnd)] at hg
    have s1 : SR P F φ' { σ with h := hset σ.h (n0 + i) (some x) } b a cs w' := ⟨fun j => (hs.tmps j).mono k2.terr k2.phi, hs.size, hs.defs.mono k2.terr k2.phi, k1, hs.fn, hs.mode.mono k2.terr k2.phi⟩
    obtain ⟨p1, p2, p3, p4, p5⟩ := put_nt { σ with h := hset σ.h (n0 + i) (some x) } o.dst v
    refine ⟨_, F, φ', a.put o.dst u, cs, w', s1.put o.dst k3, ?_, ?_, ?_, fun j hj hS' => ?_, CsR.refl hs.mode, .one (step_lone_go ?_)⟩
    · refine sim.step st ok hi hp hr p1 p5 p2 p4 (ASt.put_facts { σ with h := hset σ.h (n0 + i) (some x) } o.dst v hdn) r4 (fun b' hb' => ?_) ?_
      · rw [p3]; exact hset_ne _ _ hb'
      · rw [p3]
        show hset σ.h (n0 + i) (some x) (n0 + i) = _
        rw [hset_same]; exact r6.symm
    · rw [p4]; exact k2
    · intro b' y hy hb'
      rw [p3] at hy
      exact ⟨y, by rw [← hset_ne σ.h (some x) (show b' ≠ n0 + i by omega)]; exact hy⟩
    · obtain ⟨h1, h2⟩ := Sadd_false hS'
      rw [k4 _ (by omega)]
      exact hφ j hj h1
    · rw [hg, ← hfin]; simp [stepG.apply, hrun]
  · -- a call whose answer is told
    refine fin v r3 r4 (oper_ok hP hi (by rw [henv.2]; exact r1) ?_)
    have ha := r6 σ.h σ.n
    rw [← aop_congr henv.1] at ha
    rw [ha]
    obtain ⟨k1, k2, k3⟩ := hK _ f args _ r5
    intro F φ cargs w h1 h2
    refine (k1.at k2 k3 σ.h σ.n F φ cargs w h1 h2).mono ?_
    rintro e1 w1 ⟨ae, F', φ', h', n', ⟨rfl, rfl, rfl⟩, rest⟩
    exact ⟨.ret v, F', φ', _, _, ⟨rfl, rfl⟩, rest⟩
end
end Go.Ab
