/- Runs, third part: an activation's end with its deferred calls; functions; rounds; ranges over functions. -/
import Derived.Test.YtgcecmiboiomhaaGreatAbA3
import Derived.RangeFuncIn
namespace Go.Ab
open Go

section
variable {P : Program} {F F' : Terr} {φ φ' : Phi} {w w' : World} {rd : Bool}

def resSem (tmps : Array Value) : ResultVar → Sem Value
  | .tmp t => pure (tmps.getD t undef)
  | .cell a t => do loadVar t (← asAddr (tmps.getD a undef))

theorem results_eq (fn : Func) (tmps : Array Value) : results fn tmps = (do
    let vs ← fn.results.mapM (resSem tmps)
    pure (if h : vs.size = 1 then vs[0] else .tuple vs)) := by
  unfold results
  congr 2

theorem resultA_sound {h : Nat → Option ABlk} {n : Nat} {t : Nat → AV} {tmps : Array Value} (hr : HR P F φ n h w) (ht : ∀ i, VR F φ (t i) (tmps.getD i undef)) {r : ResultVar} {v : AV} (hv : resultA P h t r = some v) :
    ∃ vc, (resSem tmps r).run P w = .ok vc w ∧ VR F φ v vc := by
  cases r with
  | tmp i =>
    simp only [resultA, Option.some.injEq] at hv
    subst hv
    exact ⟨_, rfl, ht i⟩
  | cell a ty =>
    simp only [resultA] at hv
    have ha := ht a
    obtain ⟨u, h1, h2⟩ := loadA_sound hr ha hv
    refine ⟨u, ?_, h2⟩
    cases hc : tmps.getD a undef with
    | pointer p =>
      rw [hc] at h1
      cases p with
      | none => simp [Instr.loadAt, Instr.sureAddr] at h1
      | some p =>
        have h1' : (loadVar ty p).run P w = .ok u w := by simpa [Instr.loadAt, Instr.sureAddr] using h1
        simp only [resSem, Sem.run_bind, hc, asAddr, Sem.run_pure, Result.andThen_ok, h1']
    | _ => rw [hc] at h1; simp [Instr.loadAt, Instr.sureAddr] at h1

theorem resultsA_sound {h : Nat → Option ABlk} {n : Nat} {t : Nat → AV} {tmps : Array Value} (hr : HR P F φ n h w) (ht : ∀ i, VR F φ (t i) (tmps.getD i undef)) {fn : Func} {v : AV} (hv : resultsA P h t fn.results.toList = some v) :
    ∃ vc, (results fn tmps).run P w = .ok vc w ∧ VR F φ v vc := by
  have key : ∀ (rs : List ResultVar) (vs : List AV), rs.mapM (resultA P h t) = some vs → ∃ vcs : List Value, (rs.mapM (resSem tmps)).run P w = .ok vcs w ∧ VRL F φ vs vcs := by
    intro rs
    induction rs with
    | nil => intro vs hvs; simp only [List.mapM_nil, pure, Option.some.injEq] at hvs; subst hvs; exact ⟨[], rfl, trivial⟩
    | cons r rs ih =>
      intro vs hvs
      rw [List.mapM_cons] at hvs
      cases hq : resultA P h t r with
      | none => simp [hq] at hvs
      | some x =>
        cases hq' : rs.mapM (resultA P h t) with
        | none => simp [hq, hq'] at hvs
        | some xs =>
          simp only [hq, hq', Option.bind_eq_bind, Option.bind_some, pure, Option.some.injEq] at hvs
          subst hvs
          obtain ⟨vc, h1, h2⟩ := resultA_sound hr ht hq
          obtain ⟨vcs, h3, h4⟩ := ih xs hq'
          refine ⟨vc :: vcs, ?_, h2, h4⟩
          rw [List.mapM_cons]
          simp only [Sem.run_bind, h1, Result.andThen_ok, h3, Sem.run_pure]
  unfold resultsA at hv
  cases hq : fn.results.toList.mapM (resultA P h t) with
  | none => simp [hq] at hv
  | some vs =>
    obtain ⟨vcs, h1, h2⟩ := key _ _ hq
    have hrun : (results fn tmps).run P w = .ok (if h : vcs.toArray.size = 1 then vcs.toArray[0] else .tuple vcs.toArray) w := by
      rw [results_eq, Array.mapM_eq_mapM_toList]
      simp only [Sem.run_bind, Sem.run_map, h1, Result.andThen_ok, Sem.run_pure]
    refine ⟨_, hrun, ?_⟩
    have hl := h2.length
    rw [hq] at hv
    match vs, hv with
    | [v'], hv =>
      cases hv
      match vcs, h2 with
      | [vc], h2 => simpa using h2.1
    | [], hv =>
      cases hv
      match vcs, h2 with
      | [], _ => exact VR.mk_tup trivial
    | x :: y :: rest, hv =>
      cases hv
      have : ¬ vcs.toArray.size = 1 := by simp at hl ⊢; omega
      rw [dif_neg this]
      exact VR.mk_tup (by simpa using h2)

/-- A deferred call, made while the frame that makes it is unwinding. -/
def DefCallOk (P : Program) (f : FuncId) (args : List AV) (m : AMode) (h : Nat → Option ABlk) (n : Nat) (Q : AMode → (Nat → Option ABlk) → Nat → Prop) : Prop :=
  ∀ F φ (cargs : Array Value) w (c0 : Frame) cs, HR P F φ n h w → VRL F φ args cargs.toList → MR F φ m c0.mode →
    ∃ m' F' φ' h' n' w' mode', Q m' h' n' ∧ HR P F' φ' n' h' w' ∧ Ext F φ n h w F' φ' n' w' ∧ (∀ b x, h' b = some x → b < n → ∃ y, h b = some y) ∧ MR F' φ' m' mode' ∧
      Steps P (lone (Frame.enter P f cargs .deferred) (c0 :: cs) w) (lone { c0 with mode := mode' } cs w')

/-- What an activation's end comes to. -/
def LeaveOk (P : Program) (fn : Func) (t : Nat → AV) (Q : AEnd → (Nat → Option ABlk) → Nat → Prop) : List (ADef ⊕ Nat) → AMode → (Nat → Option ABlk) → Nat → Prop
  | [], .ret, h, n => ∃ v, resultsA P h t fn.results.toList = some v ∧ Q (.ret v) h n
  | [], .pan v false, h, n => Q (.pan v) h n
  | [], .pan _ true, _, _ => False
  | .inr b :: ds, m, h, n => h b = some .dfd ∧ LeaveOk P fn t Q ds m (hset h b none) n
  | .inl d :: ds, m, h, n => ∃ f args, callA P d.fv d.args = some (.enter f args) ∧ DefCallOk P f args m h n fun m' h' n' => LeaveOk P fn t Q ds m' h' n'

theorem step_collected {fr : Frame} {cs : List Frame} {L : Nat} {ds calls : List Deferred} (hm : fr.mode ≠ .run) (hd : fr.defers = { target := .collected L, args := #[] } :: ds)
    (hi : (Instr.takeDeferred L).run P w = .ok calls w') : step P (lone fr cs w) = .next (lone { fr with defers := calls ++ ds } cs w') := by
  refine step_lone_go ?_
  cases hmode : fr.mode with
  | run => exact absurd hmode hm
  | returning => simp [stepG, unwind, hmode, hd, hi]
  | panicking chain => simp [stepG, unwind, hmode, hd, hi]

theorem MR.not_run {m : AMode} {u : FrameMode} (h : MR F φ m u) : u ≠ .run := by
  cases m with
  | ret => intro he; rw [he] at h; cases h
  | pan v r => obtain ⟨vc, _, h⟩ := h; intro he; rw [he] at h; cases h

theorem MR.mono {m : AMode} {u : FrameMode} (hF : ∀ B o, F B = some o → F' B = some o) (hφ : ∀ b L, φ b = some L → φ' b = some L) (h : MR F φ m u) : MR F' φ' m u := by
  cases m with
  | ret => exact h
  | pan v r => obtain ⟨vc, h1, h2⟩ := h; exact ⟨vc, h1.mono hF hφ, h2⟩

theorem leave_ok (hP : Fit P) {fn : Func} {Q : AEnd → (Nat → Option ABlk) → Nat → Prop} : ∀ (ds : List (ADef ⊕ Nat)) (m : AMode) (h : Nat → Option ABlk) (n : Nat) (t : Nat → AV), LeaveOk P fn t Q ds m h n →
    ∀ F φ (fr : Frame) cs w, HR P F φ n h w → DsR F φ ds fr.defers → MR F φ m fr.mode → (∀ i, VR F φ (t i) (fr.tmps.getD i undef)) → fr.kind = .normal → P.funcs[fr.fn]? = some fn →
      ∃ ae e F' φ' h' n' w' fr', Q ae h' n' ∧ ER F' φ' ae e ∧ HR P F' φ' n' h' w' ∧ Ext F φ n h w F' φ' n' w' ∧ (∀ b x, h' b = some x → b < n → ∃ y, h b = some y) ∧
        Steps P (lone fr cs w) (lone fr' cs w') ∧ fr'.fn = fr.fn ∧ fr'.leaving P w' e
  | [], .ret, h, n, t, hl, F, φ, fr, cs, w, hr, hd, hm, ht, hk, hf => by
    obtain ⟨v, h1, q⟩ := hl
    obtain ⟨vc, h2, h3⟩ := resultsA_sound hr ht h1
    have hd0 : fr.defers = [] := by
      cases hq : fr.defers with
      | nil => rfl
      | cons d ds => rw [hq] at hd; exact hd.elim
    exact ⟨.ret v, .returned vc, F, φ, h, n, w, fr, q, ⟨vc, h3, rfl⟩, hr, Ext.refl .., fun _ x h _ => ⟨x, h⟩, .refl _ _, rfl, hm, hd0, hk, fn, hf, h2⟩
  | [], .pan v false, h, n, t, hl, F, φ, fr, cs, w, hr, hd, hm, ht, hk, hf => by
    obtain ⟨vc, h1, h2⟩ := hm
    have hd0 : fr.defers = [] := by
      cases hq : fr.defers with
      | nil => rfl
      | cons d ds => rw [hq] at hd; exact hd.elim
    exact ⟨.pan v, .panicked _, F, φ, h, n, w, fr, hl, ⟨vc, h1, rfl⟩, hr, Ext.refl .., fun _ x h _ => ⟨x, h⟩, .refl _ _, rfl, h2, hd0, fn, hf⟩
  | [], .pan v true, h, n, t, hl, _, _, _, _, _, _, _, _, _, _, _ => hl.elim
  | .inr b :: ds, m, h, n, t, hl, F, φ, fr, cs, w, hr, hd, hm, ht, hk, hf => by
    obtain ⟨h1, h2⟩ := hl
    cases hq : fr.defers with
    | nil => rw [hq] at hd; exact hd.elim
    | cons d dds =>
      rw [hq] at hd
      obtain ⟨⟨L, hL, rfl⟩, hds⟩ := hd
      obtain ⟨L', k1, k2, k3⟩ := hr.blk b _ h1
      rw [hL] at k1
      cases k1
      have hrun : (Instr.takeDeferred L.B).run P w = .ok [] { w with heap := w.heap.setIfInBounds L.B (.deferred none) } := by
        simp [Instr.takeDeferred, r_getObj k3 (by simp), r_setObj k3 (by simp)]
      have hst := step_collected (cs := cs) hm.not_run hq hrun
      obtain ⟨k4, k5⟩ := hr.spend (w' := { w with heap := w.heap.setIfInBounds L.B (.deferred none) }) h1 hL (by simp) (fun B hB => heap_set_other hB)
      obtain ⟨ae, e, F', φ', h', n', w', fr', q, e1, e2, e3, e4, e5, e6, e7⟩ := leave_ok hP ds m _ n t h2 F φ { fr with defers := dds } cs _ k4 hds hm ht hk hf
      refine ⟨ae, e, F', φ', h', n', w', fr', q, e1, e2, k5.trans hr (fun b' x hx hb' => ?_) e3, fun b' x hx hb' => ?_, Steps.head hst e5, e6, e7⟩
      · by_cases he : b' = b
        · simp [hset, he] at hx
        · simp [hset, he] at hx; exact ⟨x, hx⟩
      · obtain ⟨y, hy⟩ := e4 b' x hx hb'
        by_cases he : b' = b
        · simp [hset, he] at hy
        · simp [hset, he] at hy; exact ⟨y, hy⟩
  | .inl d :: ds, m, h, n, t, hl, F, φ, fr, cs, w, hr, hd, hm, ht, hk, hf => by
    obtain ⟨f, args, h1, h2⟩ := hl
    cases hq : fr.defers with
    | nil => rw [hq] at hd; exact hd.elim
    | cons dd dds =>
      rw [hq] at hd
      obtain ⟨⟨g, first, captured, cap, k1, k2, k3, k4⟩, hds⟩ := hd
      -- the call
      rw [k1] at h1
      simp only [callA] at h1
      split at h1
      · rename_i hb
        cases h1
        have hargs : VRL F φ (first ++ d.args ++ captured) (dd.args ++ cap).toList := by
          rw [Array.toList_append]
          exact k4.append k3
        have hinv : (invoke dd.target dd.args).run P w = .ok (.enter f (dd.args ++ cap)) w := by
          rw [k2]
          simp only [invoke]
          exact r_callFunc hP hb
        have hst := step_defer (cs := cs) hm.not_run hq k2 hinv
        obtain ⟨m', F1, φ1, h1', n1, w1, mode', q, e1, e2, e3, e4, e5⟩ := h2 F φ (dd.args ++ cap) w { fr with defers := dds } cs hr hargs hm
        obtain ⟨ae, e, F', φ', h', n', w', fr', q', f1, f2, f3, f4, f5, f6, f7⟩ := leave_ok hP ds m' h1' n1 t q F1 φ1 { fr with defers := dds, mode := mode' } cs w1 e1 (hds.mono e2.terr e2.phi) e4 (fun i => (ht i).mono e2.terr e2.phi) hk hf
        refine ⟨ae, e, F', φ', h', n', w', fr', q', f1, f2, e2.trans hr e3 f3, fun b' x hx hb' => ?_, Steps.head hst (e5.trans f5), f6, f7⟩
        obtain ⟨y, hy⟩ := f4 b' x hx (Nat.lt_of_lt_of_le hb' e2.nle)
        exact e3 b' y hy hb'
      · cases h1

/-- The state in which a function begins. -/
def startσ (args : List AV) (ntmps : Nat) (h : Nat → Option ABlk) (n : Nat) (u : Option AMode) : ASt :=
  { t := fun i => (args[i]?).getD (.tup []), nt := args.length + (ntmps - args.length), d := [], h := h, n := n, u := u }

theorem start_SR {args : List AV} {cargs : Array Value} {f : FuncId} {fn : Func} {h : Nat → Option ABlk} {n : Nat} {u : Option AMode} {b : Frame} {cs : List Frame} (hr : HR P F φ n h w) (ha : VRL F φ args cargs.toList)
    (hb : b.fn = f) (hf : P.funcs[f]? = some fn) (hu : UR F φ u b cs) :
    SR P F φ (startσ args fn.ntmps h n u) b { tmps := cargs ++ Array.replicate (fn.ntmps - cargs.size) undef, defers := [] } cs w := by
  have hl := ha.length
  simp only [Array.length_toList] at hl
  refine ⟨fun i => ?_, by simp [startσ, hl], trivial, hr, by rw [hb, hf]; rfl, hu⟩
  simp only [startσ]
  cases hi : args[i]? with
  | some x =>
    obtain ⟨v, h1, h2⟩ := ha.some hi
    have h1' : cargs[i]? = some v := by simpa using h1
    have : (cargs ++ Array.replicate (fn.ntmps - cargs.size) undef).getD i undef = v := by
      have hlt := (Array.getElem?_eq_some_iff.1 h1').1
      rw [Array.getD_eq_getD_getElem?, Array.getElem?_append_left hlt, h1']
      rfl
    rw [this]
    exact h2
  | none =>
    have : (cargs ++ Array.replicate (fn.ntmps - cargs.size) undef).getD i undef = undef := by
      have hge : cargs.size ≤ i := by
        have := List.getElem?_eq_none_iff.1 hi
        omega
      rw [Array.getD_eq_getD_getElem?, Array.getElem?_append_right hge, Array.getElem?_replicate]
      split <;> rfl
    rw [this]
    exact VR.undef

/-- What is asked where a function's body ends. -/
def BodyPost (P : Program) (fn : Func) (Q : AEnd → (Nat → Option ABlk) → Nat → Prop) (e : AExit) (σ : ASt) : Prop :=
  match e with
  | .normal | .ret => LeaveOk P fn σ.t Q σ.d .ret σ.h σ.n
  | .panic v => LeaveOk P fn σ.t Q σ.d (.pan v false) σ.h σ.n
  | .exit _ => False

/-- A function, out of its body. -/
theorem CallOk.of_body (hP : Fit P) {f : FuncId} {fn : Func} {c : Code} {args : List AV} {h : Nat → Option ABlk} {n : Nat} {Q : AEnd → (Nat → Option ABlk) → Nat → Prop} (hf : P.funcs[f]? = some fn) (hb : fn.body = some c)
    (hc : CodeOk P false c (startσ args fn.ntmps h n none) (BodyPost P fn Q)) : CallOk P f args h n Q := by
  intro F φ cargs w hr ha cs
  let b : Frame := { (default : Frame) with fn := f, kind := .normal, roundOf := none }
  have henter : Frame.enter P f cargs .normal = b.atR { tmps := cargs ++ Array.replicate (fn.ntmps - cargs.size) undef, defers := [] } ([.code c] ++ []) := by
    simp [Frame.enter, Frame.atR, hf, hb, b]
  obtain ⟨e, σ', F', φ', a', cs', w', q, s1, g1, c1, r1⟩ := hc F φ b _ [] cs w (start_SR (b := b) (cs := cs) (u := none) hr ha rfl hf trivial) rfl
  rw [← henter] at r1
  have hcs : cs' = cs := c1
  subst hcs
  -- the frame, about to leave
  have leave : ∀ (m : AMode) (fr : Frame), LeaveOk P fn σ'.t Q σ'.d m σ'.h σ'.n → fr.defers = a'.defers → fr.tmps = a'.tmps → fr.kind = .normal → fr.fn = f → MR F' φ' m fr.mode →
      Steps P (lone (Frame.enter P f cargs .normal) cs' w) (lone fr cs' w') →
      ∃ e w'' fr', (∃ ae F2 φ2 h2 n2, Q ae h2 n2 ∧ ER F2 φ2 ae e ∧ HR P F2 φ2 n2 h2 w'' ∧ Ext F φ n h w F2 φ2 n2 w'' ∧ ∀ b x, h2 b = some x → b < n → ∃ y, h b = some y) ∧
        Comes P (lone (Frame.enter P f cargs .normal) cs' w) (lone fr' cs' w'') e ∧ fr'.fn = f ∧ fr'.leaving P w'' e := by
    intro m fr hl hd htm hk hfn hm hst
    obtain ⟨ae, e, F2, φ2, h2, n2, w2, fr2, q', e1, e2, e3, e4, e5, e6, e7⟩ := leave_ok hP σ'.d m σ'.h σ'.n σ'.t hl F' φ' fr cs' w' s1.heap (by rw [hd]; exact s1.defs) hm (fun i => by rw [htm]; exact s1.tmps i) hk (by rw [hfn]; exact hf)
    refine ⟨e, w2, fr2, ⟨ae, F2, φ2, h2, n2, q', e1, e2, g1.ext.trans hr g1.dom e3, fun b' x hx hb' => ?_⟩, ?_, by rw [e6, hfn], e7⟩
    · obtain ⟨y, hy⟩ := e4 b' x hx (Nat.lt_of_lt_of_le hb' g1.ext.nle)
      exact g1.dom b' y hy hb'
    · cases ae with
      | ret v => obtain ⟨vc, _, rfl⟩ := e1; exact hst.trans e5
      | pan v => obtain ⟨vc, _, rfl⟩ := e1; exact hst.trans e5
  cases e with
  | normal =>
    have hst : Steps P (lone (Frame.enter P f cargs .normal) cs' w) (lone { b.atR a' [] with mode := .returning } cs' w') := Steps.trans r1 (.one (stepR_end rfl))
    exact leave .ret _ q rfl rfl rfl rfl (show MR F' φ' .ret .returning from rfl) hst
  | ret =>
    obtain ⟨k0, h2⟩ := r1
    have hst : Steps P (lone (Frame.enter P f cargs .normal) cs' w) (lone { b.atR a' (.code .ret :: k0) with mode := .returning } cs' w') := Steps.trans h2 (.one (stepR_ret rfl))
    exact leave .ret _ q rfl rfl rfl rfl (show MR F' φ' .ret .returning from rfl) hst
  | exit id => exact q.elim
  | panic v =>
    obtain ⟨k0, vc, hv, h2⟩ := r1
    exact leave (.pan v false) _ q rfl rfl rfl rfl ⟨vc, hv, rfl⟩ h2

def settle' : AMode → AMode
  | .pan _ true => .ret
  | m => m

/-- A deferred function, out of its body. -/
theorem DefCallOk.of_body {f : FuncId} {fn : Func} {c : Code} {args : List AV} {m : AMode} {h : Nat → Option ABlk} {n : Nat} {Q : AMode → (Nat → Option ABlk) → Nat → Prop} (hf : P.funcs[f]? = some fn) (hb : fn.body = some c)
    (hc : CodeOk P false c (startσ args fn.ntmps h n (some m)) (fun e σ => (e = .normal ∨ e = .ret) ∧ σ.d = [] ∧ (∃ v, resultsA P σ.h σ.t fn.results.toList = some v) ∧ ∃ m', σ.u = some m' ∧ Q (settle' m') σ.h σ.n)) : DefCallOk P f args m h n Q := by
  intro F φ cargs w c0 cs hr ha hm
  let b : Frame := { (default : Frame) with fn := f, kind := .deferred, roundOf := none }
  have henter : Frame.enter P f cargs .deferred = b.atR { tmps := cargs ++ Array.replicate (fn.ntmps - cargs.size) undef, defers := [] } ([.code c] ++ []) := by
    simp [Frame.enter, Frame.atR, hf, hb, b]
  obtain ⟨e, σ', F', φ', a', cs', w', ⟨he, hd, ⟨v, hv⟩, m', hu, q⟩, s1, g1, c1, r1⟩ := hc F φ b _ [] (c0 :: cs) w (start_SR (b := b) (cs := c0 :: cs) (u := some m) hr ha rfl hf ⟨rfl, rfl, c0, cs, rfl, hm⟩) rfl
  rw [← henter] at r1
  obtain ⟨c1', cs1, mode1, h1, rfl⟩ := c1
  cases h1
  have hmode := s1.mode
  rw [hu] at hmode
  obtain ⟨_, _, c2, cs2, h2, hm'⟩ := hmode
  cases h2
  have hd0 : a'.defers = [] := by
    have := s1.defs
    rw [hd] at this
    cases hq : a'.defers with
    | nil => rfl
    | cons d ds => rw [hq] at this; exact this.elim
  obtain ⟨vc, hv1, hv2⟩ := resultsA_sound s1.heap s1.tmps hv
  have fin : ∀ fr : Frame, fr.mode = .returning → fr.defers = [] → fr.kind = .deferred → fr.fn = f → fr.tmps = a'.tmps → Steps P (lone (Frame.enter P f cargs .deferred) (c0 :: cs) w) (lone fr ({ c0 with mode := mode1 } :: cs) w') →
      Steps P (lone (Frame.enter P f cargs .deferred) (c0 :: cs) w) (lone { c0 with mode := settle mode1 } cs w') := by
    intro fr h1 h2 h3 h4 h5 hst
    refine hst.trans (.one ?_)
    have := step_going_returned (c := { c0 with mode := mode1 }) (cs := cs) h3 (v := vc) (w := w') ⟨h1, h2, fn, by rw [h4]; exact hf, by rw [h5]; exact hv1⟩
    exact this
  refine ⟨settle' m', F', φ', σ'.h, σ'.n, w', settle mode1, q, s1.heap, g1.ext, g1.dom, ?_, ?_⟩
  · cases m' with
    | ret => have : mode1 = .returning := hm'; subst this; rfl
    | pan v r =>
      obtain ⟨vc', k1, k2⟩ := hm'
      have : mode1 = .panicking [{ v := vc', recovered := r }] := k2
      subst this
      cases r with
      | true => rfl
      | false => exact ⟨vc', k1, rfl⟩
  · rcases he with rfl | rfl
    · exact fin { b.atR a' [] with mode := .returning } rfl hd0 rfl rfl rfl (Steps.trans r1 (.one (stepR_end rfl)))
    · obtain ⟨k0, h2⟩ := r1
      exact fin { b.atR a' (.code .ret :: k0) with mode := .returning } rfl hd0 rfl rfl rfl (Steps.trans h2 (.one (stepR_ret rfl)))
end

end Go.Ab

/- Runs, fourth part: rounds, and ranges over functions. -/
namespace Go.Ab
open Go

def ASt.puts (σ : ASt) : List (Tmp × AV) → ASt
  | [] => σ
  | (p, a) :: l => (σ.put (some p) a).puts l

section
variable {P : Program} {F F' : Terr} {φ φ' : Phi} {w w' : World} {rd : Bool}

theorem SR.puts : ∀ {l : List (Tmp × AV)} {vs : List Value} {σ : ASt} {b : Frame} {tmps : Array Value} {ds : List Deferred} {cs : List Frame}, SR P F φ σ b { tmps, defers := ds } cs w → VRL F φ (l.map (·.2)) vs →
    SR P F φ (σ.puts l) b { tmps := ((l.map (·.1)).zip vs).foldl (fun tmps (t, a) => tmps.setIfInBounds t a) tmps, defers := ds } cs w
  | [], [], σ, b, tmps, ds, cs, hs, _ => hs
  | [], _ :: _, _, _, _, _, _, _, h => h.elim
  | _ :: _, [], _, _, _, _, _, _, h => h.elim
  | (p, a) :: l, v :: vs, σ, b, tmps, ds, cs, hs, h => by
    have h1 := hs.put (some p) h.1
    simp only [Act.put] at h1
    exact SR.puts (l := l) h1 h.2

/-- What is asked where a round's body ends. -/
def RoundPost (l : Nat) (Q : AEnd → (Nat → Option ABlk) → Nat → Prop) (e : AExit) (σ : ASt) : Prop :=
  ∃ st pd nt t ps as bd df, σ.h l = some (.loop st pd nt t ps as bd df) ∧
    match e with
    | .normal => Q (.ret (.bool true)) (hset σ.h l (some (.loop .ready none nt t ps as bd df))) σ.n
    | .ret => Q (.ret (.bool false)) (hset σ.h l (some (.loop .done (some .ret) nt t ps as bd df))) σ.n
    | .exit id => Q (.ret (.bool false)) (hset σ.h l (some (.loop .done (some (.exit id)) nt t ps as bd df))) σ.n
    | .panic v => σ.d = [] ∧ Q (.pan v) σ.h σ.n

theorem YieldOk.of_round {l : Nat} {args : List AV} {h : Nat → Option ABlk} {n : Nat} {Q : AEnd → (Nat → Option ABlk) → Nat → Prop} {pd : Option Code} {nt : Nat} {t : Nat → AV} {ps : List Tmp} {as bd : Code} {df : Nat}
    (hl : h l = some (.loop .ready pd nt t ps as bd df)) (hps : ps.length = args.length)
    (hc : CodeOk P true as (({ t := t, nt := nt, d := [], h := h, n := n, u := none } : ASt).puts (ps.zip args)) (fun e σ => e = .normal ∧ ∃ pd' nt' t' ps' as' bd' df', σ.h l = some (.loop .ready pd' nt' t' ps' as' bd' df') ∧
      CodeOk P true bd { σ with h := hset σ.h l (some (.loop .busy pd' nt' t' ps' as' bd' df')) } (RoundPost l Q))) : YieldOk P l args h n Q := by
  intro F φ cargs w L hr hL ha
  obtain ⟨L0, k1, k2, k3⟩ := hr.blk l _ hl
  rw [hL] at k1
  cases k1
  obtain ⟨lp, g1, g2, g3, g4, g5, g6, g7, g8, g9, D, g10, g11⟩ := k3
  have hal := ha.length
  simp only [Array.length_toList] at hal
  have hpl : cargs.size = lp.params.size := by
    have : lp.params.size = ps.length := by rw [← g7]; simp
    omega
  have hfold : ((lp.params.zip cargs).foldl (fun tmps (t, a) => tmps.setIfInBounds t a) lp.tmps) = (((ps.zip args).map (·.1)).zip cargs.toList).foldl (fun tmps (t, a) => tmps.setIfInBounds t a) lp.tmps := by
    have e1 : (ps.zip args).map (·.1) = ps := by rw [List.map_fst_zip]; omega
    rw [e1, ← g7, ← Array.foldl_toList, Array.toList_zip]
  refine ⟨lp.fn, (lp.params.zip cargs).foldl (fun tmps (t, a) => tmps.setIfInBounds t a) lp.tmps, lp.assign, lp.body, ?_, ?_⟩
  · simp only [Instr.yield, Instr.getLoop, Sem.run_bind, r_getObj g1 (by simp), Result.andThen_ok, Sem.run_pure, Sem.run_ite]
    rw [if_neg (by omega)]
  intro c cs
  let b : Frame := { (default : Frame) with fn := lp.fn, kind := .normal, roundOf := some L.B }
  have hb0 : ∀ tmps, Frame.round L.B lp.fn tmps lp.assign lp.body .normal = b.atR { tmps := tmps, defers := [] } ([.code lp.assign] ++ [.beginRound, .code lp.body]) := by
    intro tmps
    simp [Frame.round, Frame.atR, b]
  have s0 : SR P F φ (({ t := t, nt := nt, d := [], h := h, n := n, u := none } : ASt)) b { tmps := lp.tmps, defers := [] } (c :: cs) w := ⟨g6, g3, trivial, hr, g2, trivial⟩
  have s0' := SR.puts (l := ps.zip args) (vs := cargs.toList) s0 (by
    have : (ps.zip args).map (·.2) = args := by rw [List.map_snd_zip]; omega
    rw [this]; exact ha)
  rw [← hfold] at s0'
  have hputs : ∀ (l : List (Tmp × AV)) (σ : ASt), (σ.puts l).n = σ.n ∧ (σ.puts l).h = σ.h ∧ (σ.puts l).u = σ.u := by
    intro l
    induction l with
    | nil => intro σ; exact ⟨rfl, rfl, rfl⟩
    | cons x l ih =>
      intro σ
      obtain ⟨e1, e2, e3⟩ := ih (σ.put (some x.1) x.2)
      obtain ⟨p1, p2, p3, p4, p5⟩ := put_nt σ (some x.1) x.2
      exact ⟨e1.trans p4, e2.trans p3, e3.trans p2⟩
  obtain ⟨pn, ph, pu⟩ := hputs (ps.zip args) ({ t := t, nt := nt, d := [], h := h, n := n, u := none } : ASt)
  rw [← g8] at hc
  obtain ⟨e, σ1, F1, φ1, a1, cs1, w1, ⟨rfl, pd', nt', t', ps', as', bd', df', hl1, hbody⟩, s1, q1, c1, r1⟩ := hc F φ b _ [.beginRound, .code lp.body] (c :: cs) w s0' rfl
  have hg1 : Ext F φ n h w F1 φ1 σ1.n w1 := by have := q1.ext; rw [pn, ph] at this; exact this
  have hd1 : ∀ b x, σ1.h b = some x → b < n → ∃ y, h b = some y := by have := q1.dom; rw [pn, ph] at this; exact this
  have hcs1 : cs1 = c :: cs := by rw [pu] at c1; exact c1
  subst hcs1
  obtain ⟨L1, m1, m2, m3⟩ := s1.heap.blk l _ hl1
  have hL1 : L1 = L := by rw [hg1.phi _ _ hL] at m1; exact (Option.some.inj m1).symm
  subst hL1
  obtain ⟨lp1, n1, n2, n3, n4, n5, n6, n7, n8, n9, D1, n10, n11⟩ := m3
  -- the round begins
  have hbr : (Instr.beginRound L1.B).run P w1 = .ok () { w1 with heap := w1.heap.setIfInBounds L1.B (.loop { lp1 with state := .busy }) } := by
    simp [Instr.beginRound, Instr.getLoop, r_getObj n1 (by simp), r_setObj n1 (by simp), n4]
  obtain ⟨t1, t2⟩ := s1.heap.turn (w' := { w1 with heap := w1.heap.setIfInBounds L1.B (.loop { lp1 with state := .busy }) }) hl1 m1 (by simp) (fun B hB => heap_set_other hB) (.loop .busy pd' nt' t' ps' as' bd' df')
    ⟨_, heap_set_same n1, n2, n3, rfl, n5, n6, n7, n8, n9, D1, n10, n11⟩
  have s2 : SR P F1 φ1 { σ1 with h := hset σ1.h l (some (.loop .busy pd' nt' t' ps' as' bd' df')) } b a1 (c :: cs) { w1 with heap := w1.heap.setIfInBounds L1.B (.loop { lp1 with state := .busy }) } := s1.ext t2 t1
  rw [← g9] at hbody
  obtain ⟨e, σ2, F2, φ2, a2, cs2, w2, hpost, s3, q2, c2, r2⟩ := hbody F1 φ1 b a1 [] (c :: cs) _ s2 rfl
  have hcs2 : cs2 = c :: cs := by
    have hu : σ1.u = none := by have := q1.u; rw [pu] at this; simpa using this
    simp only [hu] at c2
    exact c2
  subst hcs2
  obtain ⟨st, pd2, nt2, t2', ps2, as2, bd2, df2, hl2, hq⟩ := hpost
  have hstart : Steps P (lone (Frame.round L1.B lp.fn ((lp.params.zip cargs).foldl (fun tmps (t, a) => tmps.setIfInBounds t a) lp.tmps) lp.assign lp.body .normal) (c :: cs) w)
      (lone (b.atR a1 ([.code lp.body] ++ [])) (c :: cs) { w1 with heap := w1.heap.setIfInBounds L1.B (.loop { lp1 with state := .busy }) }) := by
    rw [hb0]
    exact Steps.trans r1 (.one (stepR_beginRound rfl hbr))
  -- from the round's begin to its end
  have hdom : ∀ b x, hset σ1.h l (some (.loop .busy pd' nt' t' ps' as' bd' df')) b = some x → b < n → ∃ y, h b = some y := by
    intro b' x hx hb'
    by_cases he : b' = l
    · subst he; exact ⟨_, hl⟩
    · rw [hset_ne _ _ he] at hx; exact hd1 b' x hx hb'
  have hg2 : Ext F φ n h w F2 φ2 σ2.n w2 := (hg1.trans hr hd1 t2).trans hr hdom q2.ext
  have hd2 : ∀ b x, σ2.h b = some x → b < n → ∃ y, h b = some y := by
    intro b' x hx hb'
    obtain ⟨y, hy⟩ := q2.dom b' x hx (Nat.lt_of_lt_of_le hb' hg1.nle)
    exact hdom b' y hy hb'
  obtain ⟨L2, u1, u2, u3⟩ := s3.heap.blk l _ hl2
  have hL2 : L2 = L1 := by rw [q2.ext.phi _ _ m1] at u1; exact (Option.some.inj u1).symm
  subst hL2
  obtain ⟨lp2, v1, v2, v3, v4, v5, v6, v7, v8, v9, D2, v10, v11⟩ := u3
  have hend : ∀ jump : Option Code, (Instr.endRound L2.B jump).run P w2 = .ok (.bool jump.isNone) { w2 with heap := w2.heap.setIfInBounds L2.B (.loop { lp2 with state := if jump.isNone then .ready else .done, pending := jump }) } := by
    intro jump
    simp [Instr.endRound, Instr.getLoop, r_getObj v1 (by simp), r_setObj v1 (by simp)]
  have hturn : ∀ (jump : Option Code), HR P F2 φ2 σ2.n (hset σ2.h l (some (.loop (if jump.isNone then .ready else .done) jump nt2 t2' ps2 as2 bd2 df2))) { w2 with heap := w2.heap.setIfInBounds L2.B (.loop { lp2 with state := if jump.isNone then .ready else .done, pending := jump }) } ∧
      Ext F2 φ2 σ2.n σ2.h w2 F2 φ2 σ2.n { w2 with heap := w2.heap.setIfInBounds L2.B (.loop { lp2 with state := if jump.isNone then .ready else .done, pending := jump }) } := fun jump =>
    s3.heap.turn hl2 u1 (by simp) (fun B hB => heap_set_other hB) _ ⟨_, heap_set_same v1, v2, v3, rfl, rfl, v6, v7, v8, v9, D2, v10, v11⟩
  have hdom2 : ∀ (x0 : ABlk) b x, hset σ2.h l (some x0) b = some x → b < n → ∃ y, h b = some y := by
    intro x0 b' x hx hb'
    by_cases he : b' = l
    · subst he; exact ⟨_, hl⟩
    · rw [hset_ne _ _ he] at hx; exact hd2 b' x hx hb'
  cases e with
  | normal =>
    obtain ⟨x1, x2⟩ := hturn none
    refine ⟨.ret (.bool true), F2, φ2, _, σ2.n, _, hq, x1, hg2.trans hr hd2 x2, hdom2 _, .bool true, .bool _, ?_⟩
    exact (hstart.trans r2).trans (.one (stepR_round_end rfl rfl (hend none)))
  | ret =>
    obtain ⟨k0, r2⟩ := r2
    obtain ⟨x1, x2⟩ := hturn (some .ret)
    refine ⟨.ret (.bool false), F2, φ2, _, σ2.n, _, hq, x1, hg2.trans hr hd2 x2, hdom2 _, .bool false, .bool _, ?_⟩
    exact (hstart.trans r2).trans (.one (stepR_round_ret rfl rfl (hend (some .ret))))
  | exit id =>
    obtain ⟨k0, hk0, r2⟩ := r2
    obtain ⟨x1, x2⟩ := hturn (some (.exit id))
    refine ⟨.ret (.bool false), F2, φ2, _, σ2.n, _, hq, x1, hg2.trans hr hd2 x2, hdom2 _, .bool false, .bool _, ?_⟩
    exact (hstart.trans r2).trans (.one (stepR_round_exit rfl rfl (by rw [hk0]; rfl) (hend (some (.exit id)))))
  | panic v =>
    obtain ⟨hd, hq⟩ := hq
    obtain ⟨k0, vc, hv, r2⟩ := r2
    refine ⟨.pan v, F2, φ2, _, σ2.n, _, hq, s3.heap, hg2, hd2, vc, hv, ?_⟩
    have hdef : a2.defers = [] := by
      have := s3.defs
      rw [hd] at this
      cases hq : a2.defers with
      | nil => rfl
      | cons d ds => rw [hq] at this; exact this.elim
    obtain ⟨fn, hfn⟩ := Option.isSome_iff_exists.1 g2
    refine (hstart.trans r2).trans (.one ?_)
    exact step_leave_panicked (fr := { b.atR a2 k0 with mode := .panicking [{ v := vc, recovered := false }] }) ⟨rfl, hdef, fn, hfn⟩

theorem push_get (h : Array Obj) (o : Obj) : (h.push o)[h.size]? = some o := by simp

/-- What is asked where the function that is ranged over has ended. -/
def RangePost (σ : ASt) (Q : AExit → ASt → Prop) (e : AEnd) (h' : Nat → Option ABlk) (n' : Nat) : Prop :=
  match e with
  | .ret _ => ∃ st pd nt t ps as bd df, h' (σ.n + 1) = some (.loop st pd nt t ps as bd df) ∧ st ≠ .busy ∧
      match pd with
      | none => Q .normal { σ with d := .inr σ.n :: σ.d, h := hset h' (σ.n + 1) none, n := n' }
      | some .ret => Q .ret { σ with d := .inr σ.n :: σ.d, h := hset h' (σ.n + 1) none, n := n' }
      | some (.exit id) => Q (.exit id) { σ with d := .inr σ.n :: σ.d, h := hset h' (σ.n + 1) none, n := n' }
      | _ => False
  | .pan v => Q (.panic v) { σ with d := .inr σ.n :: σ.d, h := h', n := n' }

theorem CodeOk.rangeFunc (hP : Fit P) {g : Operand} {ps : Array Tmp} {assign body : Code} {σ : ASt} {Q : AExit → ASt → Prop} {f : FuncId} {args : List AV} (hg : callA P (opnd σ.t g) [.yld (σ.n + 1)] = some (.enter f args))
    (hc : CallOk P f args (hset (hset σ.h σ.n (some .dfd)) (σ.n + 1) (some (.loop .ready none σ.nt σ.t ps.toList assign body σ.n))) (σ.n + 2) (RangePost σ Q)) : CodeOk P false (.rangeFunc g ps assign body) σ Q := by
  intro F φ b a k cs w hs hrd
  have hro : b.roundOf = none := by cases hq : b.roundOf <;> simp_all
  -- the block for deferred calls, and the record
  obtain ⟨d1, d2⟩ := hs.heap.alloc (w' := { w with heap := w.heap.push (.deferred (some [])) }) (o := .deferred (some [])) rfl .dfd 0 0 0 0 (by simp [BR])
  let w1 : World := { w with heap := w.heap.push (.deferred (some [])) }
  let lp : Loop := { state := .ready, pending := none, fn := b.fn, tmps := a.tmps, params := ps, assign := assign, body := body, defers := w.heap.size }
  obtain ⟨l1, l2⟩ := d1.alloc (w' := { w1 with heap := w1.heap.push (.loop lp) }) (o := .loop lp) rfl (.loop .ready none σ.nt σ.t ps.toList assign body σ.n) 0 0 0 0
    ⟨lp, push_get w1.heap (.loop lp), hs.fn, hs.size, rfl, rfl, fun i => ((hs.tmps i).mono d2.terr d2.phi).mono (fun _ _ h => h) (pset_mono _ (d1.fresh _ (Nat.le_refl _))), rfl, rfl, rfl, ⟨w.heap.size, 0, 0, 0, 0⟩, by simp [pset], rfl⟩
  let w2 : World := { w1 with heap := w1.heap.push (.loop lp) }
  let φ2 : Phi := pset (pset φ σ.n ⟨w.heap.size, 0, 0, 0, 0⟩) (σ.n + 1) ⟨w1.heap.size, 0, 0, 0, 0⟩
  have hdom1 : ∀ b x, hset σ.h σ.n (some .dfd) b = some x → b < σ.n → ∃ y, σ.h b = some y := by
    intro b' x hx hb'
    rw [hset_ne _ _ (by omega)] at hx
    exact ⟨x, hx⟩
  have e2 : Ext F φ σ.n σ.h w F φ2 (σ.n + 2) w2 := d2.trans hs.heap hdom1 l2
  have he : (Instr.enterLoop b.fn a.tmps ps assign body b.roundOf).run P w = .ok (w1.heap.size, [{ target := .collected w.heap.size, args := #[] }]) w2 := by
    rw [hro]
    simp only [Instr.enterLoop, Sem.run_bind, run_newObj, Result.andThen_ok, Sem.run_pure]
    rfl
  have hgv : VR F φ2 (opnd σ.t g) (a.eval g) := (opnd_VR hs.tmps g).mono e2.terr e2.phi
  have hyl : VRL F φ2 [.yld (σ.n + 1)] (#[.func (.yield w1.heap.size) #[] #[]] : Array Value).toList := ⟨.yld (L := ⟨w1.heap.size, 0, 0, 0, 0⟩) (by simp [φ2, pset]), trivial⟩
  obtain ⟨cargs, hrun, hargs⟩ := callA_sound (n := σ.n + 2) (h := hset (hset σ.h σ.n (some .dfd)) (σ.n + 1) (some (.loop .ready none σ.nt σ.t ps.toList assign body σ.n))) (w := w2) hP hgv hyl hg
  -- the call
  have hres : ∃ d, (resolve a.eval (rangeCall g w1.heap.size) 0).run P w2 = .ok d w2 ∧ (invoke d.target d.args).run P w2 = .ok (.enter f cargs) w2 := by
    have h1 : (resolve a.eval (rangeCall g w1.heap.size) 0) = Deferred.ofValue (a.eval g) #[.func (.yield w1.heap.size) #[] #[]] := by
      simp [resolve, rangeCall, Act.eval]
    rw [h1]
    simp only [Sem.run_bind] at hrun
    cases hq : (Deferred.ofValue (a.eval g) #[.func (.yield w1.heap.size) #[] #[]]).run P w2 with
    | halt hh ww => rw [hq] at hrun; simp at hrun
    | ok d ww =>
      have : ww = w2 := by
        unfold Deferred.ofValue at hq
        split at hq <;> simp_all
      subst this
      rw [hq] at hrun
      exact ⟨d, rfl, by simpa using hrun⟩
  obtain ⟨d, hr1, hr2⟩ := hres
  have henter := stepR_rangeFunc (P := P) (b := b) (a := a) (k := k) (cs := cs) (w := w) he hr1 hr2
  let a2 : Act := { a with defers := [{ target := .collected w.heap.size, args := #[] }] ++ a.defers }
  obtain ⟨e, w3, fr, ⟨ae, F3, φ3, h3, n3, q, her, k1, k2, k3⟩, hcomes, hfn, hleave⟩ := hc F φ2 cargs w2 l1 hargs (b.atR a2 (.inRangeFunc w1.heap.size :: k) :: cs)
  have hdom2 : ∀ b x, hset (hset σ.h σ.n (some .dfd)) (σ.n + 1) (some (.loop .ready none σ.nt σ.t ps.toList assign body σ.n)) b = some x → b < σ.n → ∃ y, σ.h b = some y := by
    intro b' x hx hb'
    rw [hset_ne _ _ (by omega)] at hx
    exact hdom1 b' x hx hb'
  have hdom3 : ∀ b x, h3 b = some x → b < σ.n → ∃ y, σ.h b = some y := by
    intro b' x hx hb'
    obtain ⟨y, hy⟩ := k3 b' x hx (by omega)
    exact hdom2 b' y hy hb'
  have e3 : Ext F φ σ.n σ.h w F3 φ3 n3 w3 := e2.trans hs.heap hdom2 k2
  have hds : DsR F3 φ3 (.inr σ.n :: σ.d) a2.defers := ⟨⟨⟨w.heap.size, 0, 0, 0, 0⟩, k2.phi _ _ (by simp [φ2, pset]), rfl⟩, hs.defs.mono e3.terr e3.phi⟩
  have s3 : SR P F3 φ3 { σ with d := .inr σ.n :: σ.d, h := h3, n := n3 } b a2 cs w3 := ⟨fun i => (hs.tmps i).mono e3.terr e3.phi, hs.size, hds, k1, hs.fn, hs.mode.mono e3.terr e3.phi⟩
  cases ae with
  | pan v =>
    obtain ⟨vc, hv, rfl⟩ := her
    refine ⟨.panic v, _, F3, φ3, a2, cs, w3, q, s3, ⟨e3, hdom3, rfl, rfl⟩, CsR.refl hs.mode, .inRangeFunc w1.heap.size :: k, vc, hv, ?_⟩
    refine Steps.head henter (Steps.trans hcomes (.one ?_))
    rw [step_leave_panicked hleave, Frame.raise_atR]
  | ret v =>
    obtain ⟨vc, hv, rfl⟩ := her
    obtain ⟨st, pd, nt, t, ps', as', bd', df, hl3, hst, hq⟩ := q
    obtain ⟨L, m1, m2, m3⟩ := k1.blk _ _ hl3
    have hL : L = ⟨w1.heap.size, 0, 0, 0, 0⟩ := by
      have := k2.phi (σ.n + 1) ⟨w1.heap.size, 0, 0, 0, 0⟩ (by simp [φ2, pset])
      rw [this] at m1
      exact (Option.some.inj m1).symm
    obtain ⟨lp3, v1, v2, v3, v4, v5, _⟩ := m3
    have hend : (Instr.endLoop w1.heap.size).run P w3 = .ok pd { w3 with heap := w3.heap.setIfInBounds w1.heap.size (.loop { lp3 with state := .exhausted }) } := by
      rw [hL] at v1
      have hnb : ¬ lp3.state = .busy := by
        rw [v4]
        exact hst
      simp [Instr.endLoop, Instr.getLoop, r_getObj v1 (by simp), r_setObj v1 (by simp), hnb, v5]
    obtain ⟨x1, x2⟩ := k1.spend (w' := { w3 with heap := w3.heap.setIfInBounds w1.heap.size (.loop { lp3 with state := .exhausted }) }) hl3 m1 (by simp) (fun B hB => heap_set_other (by rw [hL] at hB; exact hB))
    have e4 := e3.trans hs.heap hdom3 x2
    have hdom4 : ∀ b x, hset h3 (σ.n + 1) none b = some x → b < σ.n → ∃ y, σ.h b = some y := by
      intro b' x hx hb'
      rw [hset_ne _ _ (by omega)] at hx
      exact hdom3 b' x hx hb'
    have s4 : SR P F3 φ3 { σ with d := .inr σ.n :: σ.d, h := hset h3 (σ.n + 1) none, n := n3 } b a2 cs _ := s3.ext x2 x1
    have hsteps : Steps P (lone (b.atR a (.code (.rangeFunc g ps assign body) :: k)) cs w) (lone (b.atR a2 ((pd.map Item.code).toList ++ k)) cs { w3 with heap := w3.heap.setIfInBounds w1.heap.size (.loop { lp3 with state := .exhausted }) }) := by
      refine Steps.head henter (Steps.trans hcomes (Steps.head (m₁ := lone (b.atR a2 (.endRangeFunc w1.heap.size :: k)) cs w3) ?_ (.one (stepR_endRangeFunc hend))))
      rw [step_leave_returned hleave, finish_atR_inRangeFunc]
    cases pd with
    | none => exact ⟨.normal, _, F3, φ3, a2, cs, _, hq, s4, ⟨e4, hdom4, rfl, rfl⟩, CsR.refl hs.mode, hsteps⟩
    | some c =>
      cases c with
      | ret => exact ⟨.ret, _, F3, φ3, a2, cs, _, hq, s4, ⟨e4, hdom4, rfl, rfl⟩, CsR.refl hs.mode, k, hsteps⟩
      | exit id => exact ⟨.exit id, _, F3, φ3, a2, cs, _, hq, s4, ⟨e4, hdom4, rfl, rfl⟩, CsR.refl hs.mode, k, rfl, hsteps⟩
      | _ => exact hq.elim
end

end Go.Ab

/- Calls whose arguments and answers name no block: shown with no memory told of, they hold beside any. -/
namespace Go.Ab
open Go

/-- A value that names no block. -/
def Clo (v : AV) : Prop := ∀ F φ φ' c, VR F φ v c → VR F φ' v c

def noPhi : Phi := fun _ => none

def AEnd.clo : AEnd → Prop
  | .ret v => Clo v
  | .pan v => Clo v

/-- A call of which no block is told. -/
def ClosedCall (P : Program) (f : FuncId) (args : List AV) (ae : AEnd) : Prop :=
  ∀ F (cargs : Array Value) w, (∀ B o, F B = some o → w.heap[B]? = some o) → VRL F noPhi args cargs.toList → Calls P f cargs w fun e w' =>
    ∃ F', ER F' noPhi ae e ∧ (∀ B o, F' B = some o → w'.heap[B]? = some o) ∧ (∀ B o, F B = some o → F' B = some o) ∧ w.heap.size ≤ w'.heap.size ∧ (∀ B, B < w.heap.size → w'.heap[B]? = w.heap[B]?) ∧
      (∀ B, F' B ≠ none → F B ≠ none ∨ w.heap.size ≤ B) ∧ Out w w'

section
variable {P : Program}

theorem VRL.clo {F : Terr} {φ φ' : Phi} : ∀ {xs : List AV} {cs : List Value}, (∀ x ∈ xs, Clo x) → VRL F φ xs cs → VRL F φ' xs cs
  | [], [], _, _ => trivial
  | x :: xs, c :: cs, h, hv => ⟨h x (List.mem_cons_self ..) _ _ _ _ hv.1, VRL.clo (fun y hy => h y (List.mem_cons_of_mem _ hy)) hv.2⟩
  | [], _ :: _, _, h => h.elim
  | _ :: _, [], _, h => h.elim

theorem ER.clo {F : Terr} {φ φ' : Phi} {ae : AEnd} {e : Ending} (h : ae.clo) (he : ER F φ ae e) : ER F φ' ae e := by
  cases ae with
  | ret v => obtain ⟨vc, h1, h2⟩ := he; exact ⟨vc, h _ _ _ _ h1, h2⟩
  | pan v => obtain ⟨vc, h1, h2⟩ := he; exact ⟨vc, h _ _ _ _ h1, h2⟩

/-- Beside any memory. -/
theorem ClosedCall.at {f : FuncId} {args : List AV} {ae : AEnd} (hc : ClosedCall P f args ae) (ha : ∀ x ∈ args, Clo x) (he : ae.clo) (h : Nat → Option ABlk) (n : Nat) :
    CallOk P f args h n fun e h' n' => e = ae ∧ h' = h ∧ n' = n := by
  intro F φ cargs w hr hv
  refine (hc F cargs w hr.terr (hv.clo ha)).mono ?_
  rintro e w' ⟨F', h1, h2, h3, h4, h5, h6, h7⟩
  refine ⟨ae, F', φ, h, n, ⟨rfl, rfl, rfl⟩, h1.clo he, ⟨h2, fun b x hx => ?_, hr.inj, hr.fresh, fun b L hL => Nat.lt_of_lt_of_le (hr.below b L hL) h4⟩,
    ⟨h3, fun _ _ h => h, Nat.le_refl _, h4, fun B hB _ => h5 B hB, fun B hB => ?_, fun _ _ h => .inl h, fun _ _ h _ => h, h7⟩, fun b x hx _ => ⟨x, hx⟩⟩
  · obtain ⟨L, g1, g2, g3⟩ := hr.blk b x hx
    refine ⟨L, g1, ?_, g3.mono h3 (fun _ _ h => h) (h5 _ (hr.below _ _ g1))⟩
    cases hF : F' L.B with
    | none => rfl
    | some o =>
      rcases h6 L.B (by rw [hF]; simp) with h0 | h0
      · exact absurd g2 h0
      · have := hr.below _ _ g1; omega
  · rcases h6 B hB with h0 | h0
    · exact .inl h0
    · exact .inr (.inl h0)

/-- Out of a call from empty memory. -/
theorem ClosedCall.of_call {f : FuncId} {args : List AV} {ae : AEnd} (he : ae.clo) (hc : CallOk P f args (fun _ => none) 0 fun e _ _ => e = ae) : ClosedCall P f args ae := by
  intro F cargs w hF hv
  have hr : HR P F noPhi 0 (fun _ => none) w := ⟨hF, fun b x hx => (by cases hx), fun b b' x x' L L' h1 => (by cases h1), fun _ _ => rfl, fun b L hL => (by cases hL)⟩
  refine (hc F noPhi cargs w hr hv).mono ?_
  rintro e w' ⟨ae', F', φ', h', n', rfl, h1, h2, h3, _⟩
  refine ⟨F', h1.clo he, h2.terr, h3.terr, h3.size, fun B hB => h3.keep B hB (fun b x L hb => by cases hb), fun B hB => ?_, h3.out⟩
  rcases h3.newF B hB with h0 | h0 | ⟨b, x, L, hb, _⟩
  · exact .inl h0
  · exact .inr h0
  · cases hb

/-! ### What names no block -/
theorem Clo.int (k : IntKind) (n : Int) : Clo (.int k n) := fun _ _ _ _ h => by cases h; exact .int _ _
theorem Clo.bool (b : Bool) : Clo (.bool b) := fun _ _ _ _ h => by cases h; exact .bool _
theorem Clo.str (b : ByteArray) : Clo (.str b) := fun _ _ _ _ h => by cases h; exact .str _
theorem Clo.any : Clo .any := fun _ _ _ _ _ => .any _
theorem Clo.nili : Clo .nili := fun _ _ _ _ h => by cases h; exact .nili
theorem Clo.nilp : Clo .nilp := fun _ _ _ _ h => by cases h; exact .nilp

theorem Clo.agg {cs : List AV} (h : ∀ x ∈ cs, Clo x) : Clo (.agg cs) := fun _ _ _ _ hv => by
  cases hv with
  | agg hl h1 => exact .agg hl fun i x v hx hv => h x (List.mem_of_getElem? hx) _ _ _ _ (h1 i x v hx hv)

theorem Clo.tup {cs : List AV} (h : ∀ x ∈ cs, Clo x) : Clo (.tup cs) := fun _ _ _ _ hv => by
  cases hv with
  | tup hl h1 => exact .tup hl fun i x v hx hv => h x (List.mem_of_getElem? hx) _ _ _ _ (h1 i x v hx hv)

theorem Clo.ro {rows : List (List AV)} {t : Bool} (h : ∀ r ∈ rows, ∀ x ∈ r, Clo x) : Clo (.ro rows t) := fun _ _ _ _ hv => by
  cases hv with
  | roe ht => exact .roe ht
  | ro g hn hF hs hcap ht hsz hc h1 => exact .ro g hn hF hs hcap ht hsz hc fun i j row x hr hx => h row (List.mem_of_getElem? hr) x (List.mem_of_getElem? hx) _ _ _ _ (h1 i j row x hr hx)

theorem Clo.rop {row : List AV} {o : Nat} (h : ∀ x ∈ row, Clo x) : Clo (.rop row o) := fun _ _ _ _ hv => by
  cases hv with
  | rop g hF hc h1 => exact .rop g hF hc fun j x hx => h x (List.mem_of_getElem? hx) _ _ _ _ (h1 j x hx)
end
end Go.Ab

/- Regions that draw their order, first part: what an operation hangs on. -/
namespace Go.Ab
open Go

section
variable {P : Program} {F F' : Terr} {φ φ' : Phi} {n n' : Nat} {h h' : Nat → Option ABlk} {w w' : World}

/-- An operation looks at its operands alone. -/
theorem aop_congr {ρ ρ' : Operand → AV} {o : Oper} (hρ : ∀ x ∈ o.op.operands, ρ x = ρ' x) : aop P h n ρ o = aop P h n ρ' o := by
  unfold aop
  cases hop : o.op with
  | call c =>
    rw [hop] at hρ
    have hargs : c.args.toList.map ρ = c.args.toList.map ρ' := List.map_congr_left fun x hx => hρ x (by simp [Op.operands, Call.operands]; right; simpa using hx)
    simp only
    cases hcl : c.callee with
    | builtin b => simp only [hargs]
    | value f => simp only [hargs, hρ f (by simp [Op.operands, Call.operands, hcl])]
    | invoke r m => simp only [hargs, hρ r (by simp [Op.operands, Call.operands, hcl])]
  | defer c =>
    rw [hop] at hρ
    have hargs : c.args.toList.map ρ = c.args.toList.map ρ' := List.map_congr_left fun x hx => hρ x (by simp [Op.operands, Call.operands]; right; simpa using hx)
    simp only
    cases hcl : c.callee with
    | builtin b => simp only
    | value f => simp only [hargs, hρ f (by simp [Op.operands, Call.operands, hcl])]
    | invoke r m => simp only
  | build t parts =>
    rw [hop] at hρ
    have hargs : (parts.toList.map fun (i, x) => (i, ρ x)) = (parts.toList.map fun (i, x) => (i, ρ' x)) := List.map_congr_left fun x hx => by
      obtain ⟨i, y⟩ := x
      simp only
      rw [hρ y (by simp only [Op.operands]; simp; exact ⟨i, by simpa using hx⟩)]
    simp only [hargs]
  | buildSlice t len parts =>
    rw [hop] at hρ
    have hargs : (parts.toList.map fun (i, x) => (i, ρ x)) = (parts.toList.map fun (i, x) => (i, ρ' x)) := List.map_congr_left fun x hx => by
      obtain ⟨i, y⟩ := x
      simp only
      rw [hρ y (by simp only [Op.operands]; simp; exact ⟨i, by simpa using hx⟩)]
    simp only [hargs]
  | makeFunc f first captured =>
    rw [hop] at hρ
    have h1 : first.toList.map ρ = first.toList.map ρ' := List.map_congr_left fun x hx => hρ x (by simp only [Op.operands, Array.mem_append]; left; simpa using hx)
    have h2 : captured.toList.map ρ = captured.toList.map ρ' := List.map_congr_left fun x hx => hρ x (by simp only [Op.operands, Array.mem_append]; right; simpa using hx)
    simp only [h1, h2]
  | makeMap t r => cases r <;> rfl
  | slice t x lo hi mx =>
    rw [hop] at hρ
    have h0 := hρ x (by simp [Op.operands])
    have h1 : lo.map ρ = lo.map ρ' := by cases lo <;> simp; exact hρ _ (by simp [Op.operands])
    have h2 : hi.map ρ = hi.map ρ' := by cases hi <;> simp; exact hρ _ (by simp [Op.operands])
    have h3 : mx.map ρ = mx.map ρ' := by cases mx <;> simp; exact hρ _ (by simp [Op.operands])
    simp only [h0, h1, h2, h3]
  | pick c a b =>
    rw [hop] at hρ
    have h1 := hρ c (by simp [Op.operands])
    have h2 := hρ a (by simp [Op.operands])
    have h3 := hρ b (by simp [Op.operands])
    simp only [h1, h2, h3]
  | insert t m k x =>
    rw [hop] at hρ
    have h1 := hρ m (by simp [Op.operands])
    have h2 := hρ k (by simp [Op.operands])
    have h3 := hρ x (by simp [Op.operands])
    simp only [h1, h2, h3]
  | mapUpdate t m k x =>
    rw [hop] at hρ
    have h1 := hρ m (by simp [Op.operands])
    have h2 := hρ k (by simp [Op.operands])
    have h3 := hρ x (by simp [Op.operands])
    simp only [h1, h2, h3]
  | store t a x => rw [hop] at hρ; have h1 := hρ a (by simp [Op.operands]); have h2 := hρ x (by simp [Op.operands]); simp only [h1, h2]
  | binOp op t x y yt => rw [hop] at hρ; have h1 := hρ x (by simp [Op.operands]); have h2 := hρ y (by simp [Op.operands]); simp only [h1, h2]
  | makeSlice t a x => rw [hop] at hρ; have h1 := hρ a (by simp [Op.operands]); have h2 := hρ x (by simp [Op.operands]); simp only [h1, h2]
  | indexAddr t a x => rw [hop] at hρ; have h1 := hρ a (by simp [Op.operands]); have h2 := hρ x (by simp [Op.operands]); simp only [h1, h2]
  | index t a x => rw [hop] at hρ; have h1 := hρ a (by simp [Op.operands]); have h2 := hρ x (by simp [Op.operands]); simp only [h1, h2]
  | lookup t a x ok => rw [hop] at hρ; have h1 := hρ a (by simp [Op.operands]); have h2 := hρ x (by simp [Op.operands]); simp only [h1, h2]
  | alloc t => rfl
  | _ => first
    | rfl
    | (rename_i x; rw [hop] at hρ; have h1 := hρ x (by simp [Op.operands]); simp only [h1])
    | (rename_i x _; rw [hop] at hρ; have h1 := hρ x (by simp [Op.operands]); simp only [h1])
    | (rename_i x _ _; rw [hop] at hρ; have h1 := hρ x (by simp [Op.operands]); simp only [h1])
    | (rename_i x _ _ _; rw [hop] at hρ; have h1 := hρ x (by simp [Op.operands]); simp only [h1])

/-- Fewer blocks are told of. -/
theorem HR.sub (hr : HR P F φ n h w) (hs : ∀ b, h' b = h b ∨ h' b = none) : HR P F φ n h' w := by
  have key : ∀ b x, h' b = some x → h b = some x := fun b x hx => by
    rcases hs b with h0 | h0
    · rw [← h0]; exact hx
    · rw [h0] at hx; cases hx
  exact ⟨hr.terr, fun b x hx => hr.blk b x (key b x hx), fun b1 b2 x1 x2 L1 L2 h1 h2 => hr.inj b1 b2 x1 x2 L1 L2 (key _ _ h1) (key _ _ h2), hr.fresh, hr.below⟩

/-- Blocks that were hidden from a stretch of a run lie as they lay. -/
theorem HR.readd {hc h1 : Nat → Option ABlk} {ids : Nat → Bool} (hr : HR P F φ n h w) (hc1 : ∀ b, hc b = if ids b then none else h b) (hr' : HR P F' φ' n' h1 w') (e : Ext F φ n hc w F' φ' n' w') (hd : ∀ b x, h1 b = some x → b < n → ∃ y, hc b = some y) :
    HR P F' φ' n' (fun b => if ids b then h b else h1 b) w' ∧ Ext F φ n h w F' φ' n' w' := by
  have hsub : ∀ b x, hc b = some x → ∃ y, h b = some y := fun b x hx => by
    rw [hc1] at hx
    split at hx
    · cases hx
    · exact ⟨x, hx⟩
  -- a hidden block's place is none that the stretch touched
  have apart : ∀ b x L, ids b = true → h b = some x → φ b = some L → (∀ b1 x1 L1, hc b1 = some x1 → φ b1 = some L1 → L1.B ≠ L.B) := by
    intro b x L hi hb hL b1 x1 L1 h2 h3 he
    have h2' := h2
    rw [hc1] at h2
    split at h2
    · cases h2
    · rename_i hn
      have := hr.inj b1 b x1 x L1 L h2 hb h3 hL he
      subst this
      exact hn hi
  have same : ∀ b x L, ids b = true → h b = some x → φ b = some L → w'.heap[L.B]? = w.heap[L.B]? := fun b x L hi hb hL => e.keep L.B (hr.below _ _ hL) (apart b x L hi hb hL)
  refine ⟨⟨hr'.terr, ?_, ?_, hr'.fresh, hr'.below⟩, e.more hsub⟩
  · intro b x hx
    split at hx
    · rename_i hi
      obtain ⟨L, g1, g2, g3⟩ := hr.blk b x hx
      refine ⟨L, e.phi _ _ g1, ?_, g3.mono e.terr e.phi (same b x L hi hx g1)⟩
      cases hF : F' L.B with
      | none => rfl
      | some o =>
        rcases e.newF L.B (by rw [hF]; simp) with h0 | h0 | ⟨b1, x1, L1, h2, h3, h4⟩
        · exact absurd g2 h0
        · have := hr.below _ _ g1; omega
        · exact absurd h4 (apart b x L hi hx g1 b1 x1 L1 h2 h3)
    · exact hr'.blk b x hx
  · -- no two at one place
    have cross : ∀ b1 b2 x1 x2 L1 L2, ids b1 = true → h b1 = some x1 → ids b2 = false → h1 b2 = some x2 → φ' b1 = some L1 → φ' b2 = some L2 → L1.B = L2.B → False := by
      intro b1 b2 x1 x2 L1 L2 hi1 hx1 hi2 hx2 hL1 hL2 he
      obtain ⟨L, g1, g2, g3⟩ := hr.blk b1 x1 hx1
      have : L1 = L := by rw [e.phi _ _ g1] at hL1; exact (Option.some.inj hL1).symm
      subst this
      rcases e.newP b2 L2 hL2 with h0 | h0 | ⟨b3, x3, L3, h3, h4, h5⟩
      · by_cases hn : b2 < n
        · obtain ⟨y, hy⟩ := hd b2 x2 hx2 hn
          exact apart b1 x1 L1 hi1 hx1 g1 b2 y L2 hy h0 he.symm
        · rw [hr.fresh b2 (by omega)] at h0; cases h0
      · have := hr.below _ _ g1; omega
      · exact apart b1 x1 L1 hi1 hx1 g1 b3 x3 L3 h3 h4 (by rw [h5, he])
    intro b1 b2 x1 x2 L1 L2 k1 k2 k3 k4 k5
    by_cases hi1 : ids b1 = true <;> by_cases hi2 : ids b2 = true
    · rw [if_pos hi1] at k1
      rw [if_pos hi2] at k2
      obtain ⟨M1, g1, _⟩ := hr.blk b1 x1 k1
      obtain ⟨M2, g2, _⟩ := hr.blk b2 x2 k2
      have e1 : M1 = L1 := by rw [e.phi _ _ g1] at k3; exact Option.some.inj k3
      have e2 : M2 = L2 := by rw [e.phi _ _ g2] at k4; exact Option.some.inj k4
      subst e1; subst e2
      exact hr.inj _ _ _ _ _ _ k1 k2 g1 g2 k5
    · rw [if_pos hi1] at k1
      rw [if_neg hi2] at k2
      exact (cross b1 b2 x1 x2 L1 L2 hi1 k1 (by simpa using hi2) k2 k3 k4 k5).elim
    · rw [if_neg hi1] at k1
      rw [if_pos hi2] at k2
      exact (cross b2 b1 x2 x1 L2 L1 hi2 k2 (by simpa using hi1) k1 k4 k3 k5.symm).elim
    · rw [if_neg hi1] at k1
      rw [if_neg hi2] at k2
      exact hr'.inj _ _ _ _ _ _ k1 k2 k3 k4 k5
end

end Go.Ab

/- The evaluator is right, first part: stores by number, and single operations. -/
namespace Go.Ab
open Go

/-! ### Stores by number -/
theorem Tr.getD_leaf {α : Type} (d n : Nat) : Tr.getD d (Tr.leaf : Tr α) n = none := by
  cases d <;> cases n <;> rfl

theorem Tr.get_lt {α : Type} : ∀ (d : Nat) (t : Tr α) (n : Nat) (v : α), Tr.getD d t n = some v → n + 1 < 2 ^ (d + 1)
  | 0, .leaf, _, _, h => by simp [Tr.getD] at h
  | d + 1, .leaf, _, _, h => by simp [Tr.getD] at h
  | d, .node l v r, 0, _, _ => by
    have : 0 < 2 ^ d := Nat.two_pow_pos d
    rw [Nat.pow_succ]; omega
  | 0, .node l v r, n + 1, _, h => by simp [Tr.getD] at h
  | d + 1, .node l v r, n + 1, x, h => by
    have h2 : 2 ^ (d + 1 + 1) = 2 * 2 ^ (d + 1) := by rw [Nat.pow_succ]; omega
    simp only [Tr.getD] at h
    split at h
    · have := Tr.get_lt d l _ _ h; omega
    · have := Tr.get_lt d r _ _ h; omega

theorem Tr.getD_setD {α : Type} : ∀ (d : Nat) (t : Tr α) (n m : Nat) (x : Option α), n + 1 < 2 ^ (d + 1) → Tr.getD d (Tr.setD d t n x) m = if m = n then x else Tr.getD d t m := by
  intro d
  induction d with
  | zero =>
    intro t n m x hn
    have : n = 0 := by omega
    subst this
    cases t <;> cases m <;> simp [Tr.setD, Tr.getD]
  | succ d ih =>
    intro t n m x hn
    have h2 : 2 ^ (d + 1 + 1) = 2 * 2 ^ (d + 1) := by rw [Nat.pow_succ]; omega
    cases n with
    | zero =>
      cases t <;> cases m <;> simp [Tr.setD, Tr.getD, Tr.getD_leaf]
    | succ n =>
      have hn' : n / 2 + 1 < 2 ^ (d + 1) := by omega
      cases t with
      | leaf =>
        cases m with
        | zero => simp only [Tr.setD]; split <;> simp [Tr.getD]
        | succ m =>
          simp only [Tr.setD]
          by_cases hp : n % 2 = 0 <;> by_cases hq : m % 2 = 0 <;> simp only [hp, hq, if_true, if_false, Tr.getD, ih _ _ _ _ hn', Tr.getD_leaf]
          · by_cases he : m = n
            · subst he; simp
            · have : m / 2 ≠ n / 2 := by omega
              simp [this, he]
          · have : m ≠ n := fun e => by subst e; exact hq hp
            simp [this]
          · have : m ≠ n := fun e => by subst e; exact hp hq
            simp [this]
          · by_cases he : m = n
            · subst he; simp
            · have : m / 2 ≠ n / 2 := by omega
              simp [this, he]
      | node l v r =>
        cases m with
        | zero => simp only [Tr.setD]; split <;> simp [Tr.getD]
        | succ m =>
          simp only [Tr.setD]
          by_cases hp : n % 2 = 0 <;> by_cases hq : m % 2 = 0 <;> simp only [hp, hq, if_true, if_false, Tr.getD, ih _ _ _ _ hn']
          · by_cases he : m = n
            · subst he; simp
            · have : m / 2 ≠ n / 2 := by omega
              simp [this, he]
          · have : m ≠ n := fun e => by subst e; exact hq hp
            simp [this]
          · have : m ≠ n := fun e => by subst e; exact hp hq
            simp [this]
          · by_cases he : m = n
            · subst he; simp
            · have : m / 2 ≠ n / 2 := by omega
              simp [this, he]

theorem Tr.get_set {α : Type} (t : Tr α) {n : Nat} (m : Nat) (x : Option α) (hn : n < 2 ^ 24) : (t.set n x).get m = if m = n then x else t.get m :=
  Tr.getD_setD 24 t n m x (by omega)

theorem Tr.set_hset (t : Tr ABlk) {b : Nat} (x : Option ABlk) (hb : b < 2 ^ 24) : (t.set b x).get = hset t.get b x := by
  funext i
  rw [Tr.get_set t i x hb]
  rfl

theorem Tr.lt_of_get {t : Tr ABlk} {b : Nat} {x : ABlk} (h : t.get b = some x) : b < 2 ^ 25 := by
  have := Tr.get_lt 24 t b x h
  omega

theorem Tr.set_hset' (t : Tr ABlk) {b : Nat} (x : Option ABlk) {y : ABlk} (hb : t.get b = some y) : (t.set b x).get = hset t.get b x := by
  funext i
  have := Tr.get_lt 24 t b y hb
  exact Tr.getD_setD 24 t b i x this

theorem HP.ups_hups : ∀ (us : List (Nat × Option ABlk)) (h : HP), (∀ u ∈ us, u.1 < 2 ^ 24) → (h.ups us).get = hups h.tr.get us
  | [], h, _ => rfl
  | (b, x) :: us, h, hu => by
    simp only [HP.ups, hups]
    rw [HP.ups_hups us { h with tr := h.tr.set b x } fun u hm => hu u (List.mem_cons_of_mem _ hm), Tr.set_hset _ _ (hu _ (List.mem_cons_self ..))]

theorem HP.apply_some {h h' : HP} {us : List (Nat × Option ABlk)} {n : Nat} (ha : h.apply us n = some h') : h'.tr.get = hups h.tr.get us ∧ h'.n = n := by
  unfold HP.apply at ha
  split at ha
  · rename_i hc
    cases ha
    refine ⟨HP.ups_hups us h fun u hu => ?_, rfl⟩
    have := List.all_eq_true.1 hc.2 u hu
    simp at this
    omega
  · cases ha

def ES.den (s : ES) : ASt := { t := s.t, nt := s.nt, d := s.d, h := s.hp.tr.get, n := s.hp.n, u := s.u }

theorem ES.den_put (s : ES) (dst : Option Tmp) (v : AV) (hs : s.nt < 2 ^ 23) : (s.put dst v).den = s.den.put dst v ∧ (s.put dst v).nt = s.nt := by
  cases dst with
  | none => exact ⟨rfl, rfl⟩
  | some d =>
    unfold ES.put ASt.put
    simp only
    by_cases hd : d < s.nt
    · rw [if_pos hd, if_pos (show d < s.den.nt from hd)]
      refine ⟨?_, rfl⟩
      have : ({ s with ov := s.ov.set d (some v) } : ES).t = fun i => if i = d then v else s.t i := by
        funext i
        simp only [ES.t]
        rw [Tr.get_set _ _ _ (Nat.lt_trans hd (Nat.lt_trans hs (by decide)))]
        split <;> rfl
      simp only [ES.den, this]
    · rw [if_neg hd, if_neg (show ¬ d < s.den.nt from hd)]
      exact ⟨rfl, rfl⟩

theorem ES.den_hp (s : ES) (hp : HP) : ({ s with hp := hp } : ES).den = { s.den with h := hp.tr.get, n := hp.n } := rfl

/-- What the evaluator says is so. -/
structure RecOk (P : Program) (ih : Rec) : Prop where
  code : ∀ rd c s e s', ih.code rd c s = some (e, s') → s.nt < 2 ^ 23 → s'.nt = s.nt ∧ CodeOk P rd c s.den fun e1 σ1 => e1 = e ∧ σ1 = s'.den
  call : ∀ f args hp e hp', ih.call f args hp = some (e, hp') → CallOk P f args hp.tr.get hp.n fun e1 h1 n1 => e1 = e ∧ h1 = hp'.tr.get ∧ n1 = hp'.n

section
variable {P : Program} {ih : Rec} {rd : Bool}

theorem putsA_den : ∀ (l : List (Tmp × AV)) (s : ES), s.nt < 2 ^ 23 → (putsA s l).den = s.den.puts l ∧ (putsA s l).nt = s.nt
  | [], s, _ => ⟨rfl, rfl⟩
  | (p, a) :: l, s, hs => by
    obtain ⟨h1, h2⟩ := ES.den_put s (some p) a hs
    obtain ⟨h3, h4⟩ := putsA_den l (s.put (some p) a) (by rw [h2]; exact hs)
    exact ⟨by simp only [putsA, ASt.puts]; rw [h3, h1], by simp only [putsA]; rw [h4, h2]⟩

theorem roundA_sound (hi : RecOk P ih) {l : Nat} {args : List AV} {hp hp' : HP} {e : AEnd} (h : roundA ih l args hp = some (e, hp')) :
    YieldOk P l args hp.tr.get hp.n fun e1 h1 n1 => e1 = e ∧ h1 = hp'.tr.get ∧ n1 = hp'.n := by
  unfold roundA at h
  split at h
  · rename_i pd nt t ps as bd df hl
    split at h
    · cases h
    · rename_i hlen
      have hlen' : ps.length = args.length ∧ nt < 2 ^ 23 := by
        refine ⟨?_, ?_⟩
        · by_cases hq : ps.length = args.length
          · exact hq
          · exact absurd (.inl hq) hlen
        · by_cases hq : nt < 2 ^ 23
          · exact hq
          · exact absurd (.inr hq) hlen
      split at h
      · rename_i s1 hs1
        obtain ⟨p1, p2⟩ := putsA_den (ps.zip args) { ov := .leaf, base := t, nt := nt, d := [], hp := hp, u := none } hlen'.2
        obtain ⟨k1, k2⟩ := hi.code _ _ _ _ _ hs1 (by rw [p2]; exact hlen'.2)
        have hnt1 : s1.nt < 2 ^ 23 := by rw [k1, p2]; exact hlen'.2
        split at h
        · rename_i pd1 nt1 t1 ps1 as1 bd1 df1 hl1
          split at h
          · rename_i e2 s2 hs2
            obtain ⟨k3, k4⟩ := hi.code _ _ _ _ _ hs2 hnt1
            split at h
            · rename_i st2 pd2 nt2 t2 ps2 as2 bd2 df2 hl2
              refine YieldOk.of_round hl hlen'.1 ?_
              have hbase : ({ ov := .leaf, base := t, nt := nt, d := [], hp := hp, u := none } : ES).den = { t := t, nt := nt, d := [], h := hp.tr.get, n := hp.n, u := none } := by
                have : ({ ov := .leaf, base := t, nt := nt, d := [], hp := hp, u := none } : ES).t = t := by
                  funext i
                  simp [ES.t, Tr.get, Tr.getD_leaf]
                simp only [ES.den, this]
              rw [p1, hbase] at k2
              refine k2.mono ?_
              rintro e1 σ1 ⟨rfl, rfl⟩
              refine ⟨rfl, pd1, nt1, t1, ps1, as1, bd1, df1, hl1, ?_⟩
              have hden : ({ s1 with hp := { s1.hp with tr := s1.hp.tr.set l (some (.loop .busy pd1 nt1 t1 ps1 as1 bd1 df1)) } } : ES).den = { s1.den with h := hset s1.den.h l (some (.loop .busy pd1 nt1 t1 ps1 as1 bd1 df1)) } := by
                simp only [ES.den]
                rw [Tr.set_hset' _ _ hl1]
                rfl
              rw [hden] at k4
              -- the body that runs is the one of the record at first
              refine k4.mono ?_
              rintro e1 σ1 ⟨rfl, rfl⟩
              refine ⟨st2, pd2, nt2, t2, ps2, as2, bd2, df2, hl2, ?_⟩
              cases e1 with
              | normal =>
                simp only [Option.some.injEq, Prod.mk.injEq] at h
                obtain ⟨rfl, rfl⟩ := h
                exact ⟨rfl, (Tr.set_hset' _ _ hl2).symm, rfl⟩
              | ret =>
                simp only [Option.some.injEq, Prod.mk.injEq] at h
                obtain ⟨rfl, rfl⟩ := h
                exact ⟨rfl, (Tr.set_hset' _ _ hl2).symm, rfl⟩
              | exit id =>
                simp only [Option.some.injEq, Prod.mk.injEq] at h
                obtain ⟨rfl, rfl⟩ := h
                exact ⟨rfl, (Tr.set_hset' _ _ hl2).symm, rfl⟩
              | panic v =>
                simp only at h
                split at h
                · rename_i hd
                  simp only [Option.some.injEq, Prod.mk.injEq] at h
                  obtain ⟨rfl, rfl⟩ := h
                  refine ⟨?_, rfl, rfl, rfl⟩
                  simpa [ES.den] using hd
                · cases h
            · cases h
          · cases h
        · cases h
      · cases h
  · cases h

theorem operA_sound (hi : RecOk P ih) {o : Oper} {s s' : ES} {e : AExit} (h : operA P ih rd o s = some (e, s')) (hs : s.nt < 2 ^ 23) :
    s'.nt = s.nt ∧ OperPost P rd o s.den (fun e1 σ1 => e1 = e ∧ σ1 = s'.den) (aop P s.den.h s.den.n (opnd s.den.t) o) := by
  unfold operA at h
  simp only [show s.den.h = s.hp.tr.get from rfl, show s.den.n = s.hp.n from rfl, show s.den.t = s.t from rfl]
  cases ha : aop P s.hp.tr.get s.hp.n (opnd s.t) o with
  | none => rw [ha] at h; cases h
  | some nx =>
    rw [ha] at h
    cases nx with
    | val v us n =>
      simp only at h
      cases hq : s.hp.apply us n with
      | none => rw [hq] at h; cases h
      | some hp' =>
        rw [hq] at h
        simp only [Option.map_some, Option.some.injEq, Prod.mk.injEq] at h
        obtain ⟨rfl, rfl⟩ := h
        obtain ⟨h1, h2⟩ := HP.apply_some hq
        obtain ⟨p1, p2⟩ := ES.den_put { s with hp := hp' } o.dst v hs
        refine ⟨p2, rfl, ?_⟩
        have hd : ({ s with hp := hp' } : ES).den = { s.den with h := hups s.den.h us, n := n } := by
          rw [ES.den_hp, h1, h2]; rfl
        rw [p1, hd]
    | enter f args =>
      simp only at h
      cases hq : ih.call f args s.hp with
      | none => rw [hq] at h; cases h
      | some r =>
        obtain ⟨r, hp'⟩ := r
        rw [hq] at h
        have hc := hi.call _ _ _ _ _ hq
        cases r with
        | ret v =>
          simp only [Option.some.injEq, Prod.mk.injEq] at h
          obtain ⟨rfl, rfl⟩ := h
          obtain ⟨p1, p2⟩ := ES.den_put { s with hp := hp' } o.dst v hs
          refine ⟨p2, fun F φ cargs w h1 h2 => (hc F φ cargs w h1 h2).mono ?_⟩
          rintro e1 w1 ⟨ae, F', φ', h', n', ⟨rfl, rfl, rfl⟩, rest⟩
          exact ⟨.ret v, F', φ', _, _, ⟨rfl, p1.symm⟩, rest⟩
        | pan v =>
          simp only [Option.some.injEq, Prod.mk.injEq] at h
          obtain ⟨rfl, rfl⟩ := h
          refine ⟨rfl, fun F φ cargs w h1 h2 => (hc F φ cargs w h1 h2).mono ?_⟩
          rintro e1 w1 ⟨ae, F', φ', h', n', ⟨rfl, rfl, rfl⟩, rest⟩
          exact ⟨.pan v, F', φ', _, _, ⟨rfl, rfl⟩, rest⟩
    | yield l args =>
      simp only at h
      cases hq : roundA ih l args s.hp with
      | none => rw [hq] at h; cases h
      | some r =>
        obtain ⟨r, hp'⟩ := r
        rw [hq] at h
        have hc := roundA_sound hi hq
        cases r with
        | ret v =>
          simp only [Option.some.injEq, Prod.mk.injEq] at h
          obtain ⟨rfl, rfl⟩ := h
          obtain ⟨p1, p2⟩ := ES.den_put { s with hp := hp' } o.dst v hs
          refine ⟨p2, fun F φ cargs w L h1 h2 h3 => ?_⟩
          obtain ⟨fn, tmps, assign, body, k1, k2⟩ := hc F φ cargs w L h1 h2 h3
          refine ⟨fn, tmps, assign, body, k1, fun c cs => ?_⟩
          obtain ⟨ae, F', φ', h', n', w', ⟨rfl, rfl, rfl⟩, rest⟩ := k2 c cs
          exact ⟨.ret v, F', φ', _, _, w', ⟨rfl, p1.symm⟩, rest⟩
        | pan v =>
          simp only [Option.some.injEq, Prod.mk.injEq] at h
          obtain ⟨rfl, rfl⟩ := h
          refine ⟨rfl, fun F φ cargs w L h1 h2 h3 => ?_⟩
          obtain ⟨fn, tmps, assign, body, k1, k2⟩ := hc F φ cargs w L h1 h2 h3
          refine ⟨fn, tmps, assign, body, k1, fun c cs => ?_⟩
          obtain ⟨ae, F', φ', h', n', w', ⟨rfl, rfl, rfl⟩, rest⟩ := k2 c cs
          exact ⟨.pan v, F', φ', _, _, w', ⟨rfl, rfl⟩, rest⟩
    | defer d =>
      simp only at h
      split at h
      · cases h
      · rename_i hrd
        simp only [Option.some.injEq, Prod.mk.injEq] at h
        obtain ⟨rfl, rfl⟩ := h
        obtain ⟨p1, p2⟩ := ES.den_put { s with d := .inl d :: s.d } o.dst (.tup []) hs
        exact ⟨p2, by simpa using hrd, rfl, p1.symm⟩
    | panic v =>
      simp only [Option.some.injEq, Prod.mk.injEq] at h
      obtain ⟨rfl, rfl⟩ := h
      exact ⟨rfl, rfl, rfl⟩
    | recover =>
      simp only at h
      simp only [OperPost, show s.den.u = s.u from rfl]
      split at h
      · rename_i v hu
        simp only [Option.some.injEq, Prod.mk.injEq] at h
        obtain ⟨rfl, rfl⟩ := h
        obtain ⟨p1, p2⟩ := ES.den_put { s with u := some (.pan v true) } o.dst v hs
        rw [hu]
        exact ⟨p2, rfl, p1.symm⟩
      · rename_i hu
        simp only [Option.some.injEq, Prod.mk.injEq] at h
        obtain ⟨rfl, rfl⟩ := h
        obtain ⟨p1, p2⟩ := ES.den_put s o.dst .nili hs
        rw [hu]
        exact ⟨p2, rfl, p1.symm⟩
      · cases h

theorem OperPost.mono {o : Oper} {σ : ASt} {Q Q' : AExit → ASt → Prop} (hq : ∀ e σ', Q e σ' → Q' e σ') {nx : Option ANext} (h : OperPost P rd o σ Q nx) : OperPost P rd o σ Q' nx := by
  cases nx with
  | none => exact h
  | some nx =>
    cases nx with
    | val v ups n' => exact hq _ _ h
    | enter f args =>
      intro F φ cargs w h1 h2
      refine (h F φ cargs w h1 h2).mono ?_
      rintro e w' ⟨ae, F', φ', h', n', q, rest⟩
      refine ⟨ae, F', φ', h', n', ?_, rest⟩
      cases ae <;> exact hq _ _ q
    | yield l args =>
      intro F φ cargs w L h1 h2 h3
      obtain ⟨fn, tmps, assign, body, k1, k2⟩ := h F φ cargs w L h1 h2 h3
      refine ⟨fn, tmps, assign, body, k1, fun c cs => ?_⟩
      obtain ⟨ae, F', φ', h', n', w', q, rest⟩ := k2 c cs
      refine ⟨ae, F', φ', h', n', w', ?_, rest⟩
      cases ae <;> exact hq _ _ q
    | defer d => exact ⟨h.1, hq _ _ h.2⟩
    | panic v => exact hq _ _ h
    | recover =>
      simp only [OperPost] at h ⊢
      split at h
      · exact hq _ _ h
      · exact hq _ _ h
      · exact h.elim
end

end Go.Ab
