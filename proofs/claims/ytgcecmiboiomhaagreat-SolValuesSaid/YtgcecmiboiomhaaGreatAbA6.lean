/- Regions that draw their order, seventh part: a call in the machine's order. -/
import Derived.Test.YtgcecmiboiomhaaGreatAbA5
import Derived.Orders
namespace Go.Ab
open Go

/-- Two states that differ in some temporaries alone. -/
structure Agree (g : Nat → AV) (X : Nat → Prop) (σ σ' : ASt) : Prop where
  nt : σ'.nt = σ.nt
  d : σ'.d = σ.d
  h : σ'.h = σ.h
  n : σ'.n = σ.n
  u : σ'.u = σ.u
  tX : ∀ x, X x → σ'.t x = g x
  t : ∀ x, ¬ X x → σ'.t x = σ.t x

theorem Agree.put {g : Nat → AV} {X : Nat → Prop} {σ σ' : ASt} (ag : Agree g X σ σ') {dst : Option Tmp} (v : AV) (hX : ∀ d, dst = some d → ¬ X d) : Agree g X (σ.put dst v) (σ'.put dst v) := by
  obtain ⟨p1, p2, p3, p4, p5⟩ := put_nt σ dst v
  obtain ⟨q1, q2, q3, q4, q5⟩ := put_nt σ' dst v
  refine ⟨by rw [q1, p1, ag.nt], by rw [q5, p5, ag.d], by rw [q3, p3, ag.h], by rw [q4, p4, ag.n], by rw [q2, p2, ag.u], ?_, ?_⟩
  · intro x hx
    cases dst with
    | none => exact ag.tX x hx
    | some d =>
      have hne : x ≠ d := fun e => hX d rfl (e ▸ hx)
      unfold ASt.put
      simp only
      split
      · simp only [if_neg hne]; exact ag.tX x hx
      · exact ag.tX x hx
  · intro x hx
    cases dst with
    | none => exact ag.t x hx
    | some d =>
      unfold ASt.put
      simp only [ag.nt]
      split
      · simp only
        split
        · rfl
        · exact ag.t x hx
      · exact ag.t x hx

theorem OperPost.agree {P : Program} {rd : Bool} {o : Oper} {g : Nat → AV} {X : Nat → Prop} {σ σ' : ASt} {Q Q' : AExit → ASt → Prop} (ag : Agree g X σ σ') (hX : ∀ d, o.dst = some d → ¬ X d)
    (hq : ∀ e σ1 σ1', Q e σ1 → Agree g X σ1 σ1' → Q' e σ1') {nx : Option ANext} (h : OperPost P rd o σ Q nx) : OperPost P rd o σ' Q' nx := by
  have mk : ∀ h1 n1, Agree g X { σ with h := h1, n := n1 } { σ' with h := h1, n := n1 } := fun h1 n1 => ⟨ag.nt, ag.d, rfl, rfl, ag.u, ag.tX, ag.t⟩
  cases nx with
  | none => exact h
  | some nx =>
    cases nx with
    | val v ups n' =>
      simp only [OperPost] at h ⊢
      rw [ag.h]
      exact hq _ _ _ h ((mk _ _).put v hX)
    | enter f args =>
      simp only [OperPost] at h ⊢
      rw [ag.h, ag.n]
      intro F φ cargs w h1 h2
      refine (h F φ cargs w h1 h2).mono ?_
      rintro e w' ⟨ae, F', φ', h', n', q, rest⟩
      refine ⟨ae, F', φ', h', n', ?_, rest⟩
      cases ae with
      | ret v => exact hq _ _ _ q ((mk _ _).put v hX)
      | pan v => exact hq _ _ _ q (mk _ _)
    | yield l args =>
      simp only [OperPost] at h ⊢
      rw [ag.h, ag.n]
      intro F φ cargs w L h1 h2 h3
      obtain ⟨fn, tmps, assign, body, k1, k2⟩ := h F φ cargs w L h1 h2 h3
      refine ⟨fn, tmps, assign, body, k1, fun c cs => ?_⟩
      obtain ⟨ae, F', φ', h', n', w', q, rest⟩ := k2 c cs
      refine ⟨ae, F', φ', h', n', w', ?_, rest⟩
      cases ae with
      | ret v => exact hq _ _ _ q ((mk _ _).put v hX)
      | pan v => exact hq _ _ _ q (mk _ _)
    | defer d =>
      have ag' : Agree g X { σ with d := .inl d :: σ.d } { σ' with d := .inl d :: σ'.d } := ⟨ag.nt, by simp only [ag.d], ag.h, ag.n, ag.u, ag.tX, ag.t⟩
      exact ⟨h.1, hq _ _ _ h.2 (ag'.put _ hX)⟩
    | panic v => exact hq _ _ _ h ag
    | recover =>
      simp only [OperPost] at h ⊢
      rw [ag.u]
      split at h
      · rename_i v _
        have ag' : Agree g X { σ with u := some (.pan v true) } { σ' with u := some (.pan v true) } := ⟨ag.nt, ag.d, ag.h, ag.n, rfl, ag.tX, ag.t⟩
        exact hq _ _ _ h (ag'.put _ hX)
      · exact hq _ _ _ h (ag.put _ hX)
      · exact h.elim

theorem ES.put_t_ne (s : ES) {dst : Option Tmp} (v : AV) (hs : s.nt < 2 ^ 23) {x : Nat} (hx : dst ≠ some x) : (s.put dst v).t x = s.t x := by
  cases dst with
  | none => rfl
  | some d =>
    unfold ES.put
    simp only
    split
    · rename_i hd
      simp only [ES.t]
      rw [Tr.get_set _ _ _ (Nat.lt_trans hd (Nat.lt_trans hs (by decide)))]
      rw [if_neg (fun e => hx (by rw [e]))]
    · rfl

/-- An operation writes its own temporary alone. -/
theorem operA_t {P : Program} {ih : Rec} {rd : Bool} {o : Oper} {s s' : ES} {e : AExit} (h : operA P ih rd o s = some (e, s')) (hs : s.nt < 2 ^ 23) {x : Nat} (hx : o.dst ≠ some x) : s'.t x = s.t x := by
  unfold operA at h
  split at h
  · cases hq : s.hp.apply _ _ with
    | none => rw [hq] at h; cases h
    | some hp' =>
      rw [hq] at h
      simp only [Option.map_some, Option.some.injEq, Prod.mk.injEq] at h
      obtain ⟨-, rfl⟩ := h
      exact (ES.put_t_ne _ _ (by exact hs) hx).trans rfl
  · split at h
    · cases h; exact (ES.put_t_ne _ _ (by exact hs) hx).trans rfl
    · cases h; rfl
    · cases h
  · split at h
    · cases h; exact (ES.put_t_ne _ _ (by exact hs) hx).trans rfl
    · cases h; rfl
    · cases h
  · split at h
    · cases h
    · cases h; exact (ES.put_t_ne _ _ (by exact hs) hx).trans rfl
  · cases h; rfl
  · split at h
    · cases h; exact (ES.put_t_ne _ _ (by exact hs) hx).trans rfl
    · cases h; exact (ES.put_t_ne _ _ (by exact hs) hx).trans rfl
    · cases h
  · cases h

theorem trHide_get : ∀ (ids : List Nat) (t : Tr ABlk) (b : Nat), (∀ i ∈ ids, i < 2 ^ 24) → (trHide t ids).get b = if b ∈ ids then none else t.get b
  | [], t, b, _ => by simp [trHide]
  | i :: ids, t, b, h => by
    unfold trHide
    rw [trHide_get ids _ b fun j hj => h j (List.mem_cons_of_mem _ hj), Tr.get_set _ _ _ (h i (List.mem_cons_self ..))]
    by_cases h1 : b ∈ ids
    · simp [h1]
    · by_cases h2 : b = i
      · simp [h2]
      · simp [h1, h2]

theorem trBack_get (t0 : Tr ABlk) : ∀ (ids : List Nat) (t : Tr ABlk) (b : Nat), (∀ i ∈ ids, i < 2 ^ 24) → (trBack t0 t ids).get b = if b ∈ ids then t0.get b else t.get b
  | [], t, b, _ => by simp [trBack]
  | i :: ids, t, b, h => by
    unfold trBack
    rw [trBack_get t0 ids _ b fun j hj => h j (List.mem_cons_of_mem _ hj), Tr.get_set _ _ _ (h i (List.mem_cons_self ..))]
    by_cases h1 : b ∈ ids
    · simp [h1]
    · by_cases h2 : b = i
      · simp [h2]
      · simp [h1, h2]

theorem mem_hidIds {n0 size al m b : Nat} : b ∈ hidIds n0 size al m ↔ ∃ i, i < size ∧ al.testBit i = true ∧ m.testBit i = false ∧ b = n0 + i := by
  unfold hidIds
  rw [List.mem_filterMap]
  constructor
  · rintro ⟨i, h1, h2⟩
    split at h2
    · rename_i hc
      cases h2
      simp only [Bool.and_eq_true, Bool.not_eq_true'] at hc
      exact ⟨i, List.mem_range.1 h1, hc.1, hc.2, rfl⟩
    · cases h2
  · rintro ⟨i, h1, h2, h3, rfl⟩
    exact ⟨i, List.mem_range.2 h1, by simp [h2, h3]⟩

theorem blur_facts : ∀ (os : List Oper) (s : ES), s.nt < 2 ^ 23 → (∀ o ∈ os, ∀ d, o.dst = some d → d < s.nt) →
    (blur s os).nt = s.nt ∧ (blur s os).d = s.d ∧ (blur s os).u = s.u ∧ (blur s os).hp = s.hp ∧ ∀ x, (blur s os).t x = .any ∨ ((blur s os).t x = s.t x ∧ ∀ o ∈ os, o.dst ≠ some x)
  | [], s, _, _ => ⟨rfl, rfl, rfl, rfl, fun x => .inr ⟨rfl, fun o ho => by simp at ho⟩⟩
  | o :: os, s, hs, hd => by
    obtain ⟨p1, p2, p3, p4, p5⟩ := ES.put_facts s o.dst .any hs (hd o (List.mem_cons_self ..))
    obtain ⟨q1, q2, q3, q4, q5⟩ := blur_facts os (s.put o.dst .any) (by rw [p3]; exact hs) (fun o' ho' d hd' => by rw [p3]; exact hd o' (List.mem_cons_of_mem _ ho') d hd')
    refine ⟨q1.trans p3, q2.trans p4, q3.trans p5, q4.trans p2, fun x => ?_⟩
    show (blur (s.put o.dst .any) os).t x = .any ∨ _
    rcases q5 x with h1 | ⟨h1, h2⟩
    · exact .inl h1
    · by_cases hq : o.dst = some x
      · left; rw [h1, p1]; simp [hq]
      · right
        refine ⟨?_, fun o' ho' => ?_⟩
        · show (blur (s.put o.dst .any) os).t x = _
          rw [h1, p1]; simp [hq]
        · rcases List.mem_cons.1 ho' with rfl | h3
          · exact hq
          · exact h2 o' h3

section
variable {P : Program} {K : KTabs} {F F' : Terr} {φ φ' : Phi} {w w' : World} {n0 : Nat} {ih : Rec} {rd : Bool} {ops : Array Oper} {ms : List Nat} {b0 : Nat → AV} {ds : DS} {S : Nat → Bool} {σ : ASt} {b : Frame} {a : Act} {cs : List Frame} {k : List Item}

/-- The evaluator's state in which a call is made. -/
def hidES (ops : Array Oper) (n0 : Nat) (ds : DS) (m : Nat) : ES := { ds.s with hp := { ds.s.hp with tr := trHide ds.s.hp.tr (hidIds n0 ops.size ds.al m) } }

/-- And the one behind it. -/
def backES (ops : Array Oper) (n0 : Nat) (ds : DS) (m : Nat) (s : ES) : ES := { s with hp := { s.hp with tr := trBack ds.s.hp.tr s.hp.tr (hidIds n0 ops.size ds.al m) } }

def backDS (ops : Array Oper) (n0 : Nat) (ds : DS) (m c : Nat) (s : ES) : DS := { s := backES ops n0 ds m s, done := ds.done ||| (1 <<< c), pend := mdiff ds.pend m, al := mdiff ds.al m }

/-- What was known of the operations that may be later is known still. -/
theorem back_ok (st : Static ops ms) (hsz : n0 + ops.size < 2 ^ 23) (ok : DsOk P K ops ms n0 b0 ds) {c : Nat} {o : Oper} {m : Nat} {s2 : ES} {e : AExit} (hc : ops[c]? = some o) (hm : ms[c]? = some m) (hd : ds.done.testBit c = false)
    (hsub : ∀ j, m.testBit j = true → ds.done.testBit j = true) (hop : operA P ih rd o (hidES ops n0 ds m) = some (e, s2)) (hnt : s2.nt = ds.s.nt) (hn : ds.s.hp.n ≤ s2.hp.n)
    (hag : again P ops (backES ops n0 ds m s2) (mdiff ds.pend m) (tri ops ms) = true) : DsOk P K ops ms n0 b0 (backDS ops n0 ds m c s2) := by
  have hids : ∀ i ∈ hidIds n0 ops.size ds.al m, i < 2 ^ 24 := by
    intro i hi
    obtain ⟨j, h1, _, _, rfl⟩ := mem_hidIds.1 hi
    omega
  have hget : ∀ b, (backES ops n0 ds m s2).hp.tr.get b = if b ∈ hidIds n0 ops.size ds.al m then ds.s.hp.tr.get b else s2.hp.tr.get b := fun b => trBack_get _ _ _ _ hids
  have ht : ∀ x, o.dst ≠ some x → (backES ops n0 ds m s2).t x = ds.s.t x := fun x hx => operA_t hop ok.nt hx
  have henv : ∀ k mk, ms[k]? = some mk → ds.done.testBit k = true → envI ops mk b0 (backES ops n0 ds m s2).t = envI ops mk b0 ds.s.t := by
    intro k mk hmk hdk
    funext x
    unfold envI
    split
    · rename_i hex
      obtain ⟨k', o', hk', hd', hb'⟩ := hex
      refine ht x fun hod => ?_
      have := st.dst c k' o o' x hc hk' hod hd'
      subst this
      have := ok.before k mk hmk hdk c hb'
      rw [hd] at this
      cases this
    · rfl
  refine ⟨?_, ?_, ?_, ?_, ?_, ?_, Nat.le_trans ok.n hn, by show s2.nt < _; rw [hnt]; exact ok.nt, fun i o' d hi hd' => by show d < s2.nt; rw [hnt]; exact ok.dnt i o' d hi hd'⟩
  · intro i hi
    simp only [backDS, mdiff_bit, madd_bit, Bool.and_eq_true] at hi ⊢
    rw [ok.pd i hi.1]; rfl
  · intro i hi
    simp only [backDS, mdiff_bit, Bool.and_eq_true] at hi ⊢
    exact ⟨ok.ap i hi.1, hi.2⟩
  · intro i mi hmi hi j hj
    simp only [backDS, madd_bit] at hi ⊢
    by_cases he : c = i
    · subst he
      rw [hm] at hmi
      cases hmi
      rw [hsub j hj]; rfl
    · have : ds.done.testBit i = true := by simpa [he] using hi
      rw [ok.before i mi hmi this j hj]; rfl
  · intro i oi mi hi hmi hpi
    simp only [backDS, mdiff_bit, Bool.and_eq_true, Bool.not_eq_true'] at hpi
    obtain ⟨hpi, hmc⟩ := hpi
    have hdi := ok.pd i hpi
    have hic : i ≠ c := fun e => by subst e; rw [hd] at hdi; cases hdi
    have hdst : ∀ d, oi.dst = some d → (backES ops n0 ds m s2).t d = ds.s.t d := fun d hd' => ht d fun hod => hic (st.dst i c oi o d hi hc hd' hod)
    show DRec P K ops n0 (envI ops mi b0 (backES ops n0 ds m s2).t) (backES ops n0 ds m s2).den (mdiff ds.al m) i oi
    rw [henv i mi hmi hdi]
    rcases ok.recs i oi mi hi hmi hpi with ⟨r1, r2, r3⟩ | ⟨r1, r2, r3, v, r4, r5⟩ | ⟨r1, r2, r3, v, x, r4, r5, r6⟩ | ⟨r1, r3, v, f, args, r4, r5, r6⟩
    · exact .inl ⟨r1, by rw [mdiff_bit, r2]; rfl, fun d hd' => (hdst d hd').trans (r3 d hd')⟩
    · cases hl : looks oi with
      | false =>
        refine .inr (.inl ⟨r1, r2, by rw [mdiff_bit, r3]; rfl, v, fun d hd' => (hdst d hd').trans (r4 d hd'), ?_⟩)
        rw [← aop_free (h := ds.s.hp.tr.get) r2 hl]
        exact r5
      | true =>
        -- it was looked at again
        have h1 := List.all_eq_true.1 hag ((oi, mi), i) (mem_tri hi hmi)
        simp only [again1, mdiff_bit, hpi, hmc, hl, r2, Bool.not_false, Bool.and_self, decide_true, if_true, Bool.and_eq_true] at h1
        obtain ⟨h1, h2⟩ := h1
        have hreads : ∀ x ∈ opTmps ops oi, (backES ops n0 ds m s2).t x = envI ops mi b0 (backES ops n0 ds m s2).t x := by
          intro x hx
          unfold envI
          split
          · rfl
          · rename_i hne
            by_cases hex : ∃ (k' : Nat) (o' : Oper), ops[k']? = some o' ∧ o'.dst = some x
            · obtain ⟨k', o', hk', hd'⟩ := hex
              exact absurd ⟨k', o', hk', hd', readsFine_spec h1 hk' hd' hx⟩ hne
            · rw [ht x fun hod => hex ⟨c, o, hc, hod⟩]
              exact ok.base x fun k' o' hk' hd' => absurd ⟨k', o', hk', hd'⟩ hex
        rw [henv i mi hmi hdi] at hreads
        have hcong := reads_congr hreads
        rw [hcong.2, r1] at h2
        simp only at h2
        rw [aop_congr hcong.1] at h2
        split at h2
        · rename_i v' us n' ha
          obtain ⟨v2, e1, e2⟩ := aop_r (h' := (backES ops n0 ds m s2).hp.tr.get) r2 (fun _ _ _ _ _ hb => hb) ha
          cases e1
          refine .inr (.inl ⟨r1, r2, by rw [mdiff_bit, r3]; rfl, v', fun d hd' => ?_, ha⟩)
          rw [hd'] at h2
          exact (eqV_eq _ _ _ h2).symm
        · cases h2
    · have hmem : n0 + i ∈ hidIds n0 ops.size ds.al m := mem_hidIds.2 ⟨i, lt_of_get hi, r3, hmc, rfl⟩
      refine .inr (.inr (.inl ⟨r1, r2, by rw [mdiff_bit, r3, hmc]; rfl, v, x, fun d hd' => (hdst d hd').trans (r4 d hd'), (aop_a r2 r5).2 _, ?_⟩))
      show (backES ops n0 ds m s2).hp.tr.get (n0 + i) = some x
      rw [hget, if_pos hmem]
      exact r6
    · exact .inr (.inr (.inr ⟨r1, by rw [mdiff_bit, r3]; rfl, v, f, args, fun d hd' => (hdst d hd').trans (r4 d hd'), r5, r6⟩))
  · intro i hi
    simp only [backDS, madd_bit] at hi
    by_cases he : c = i
    · subst he; exact lt_of_get hc
    · exact ok.lt i (by simpa [he] using hi)
  · intro x hx
    simp only [backDS, madd_bit] at hx ⊢
    rw [ht x fun hod => by have := hx c o hc hod; simp at this]
    refine ok.base x fun k' o' hk' hd' => ?_
    have := hx k' o' hk' hd'
    cases hq : ds.done.testBit k' with
    | false => rfl
    | true => rw [hq] at this; simp at this
end
end Go.Ab

/- Regions that draw their order, eighth part: the whole way. -/
namespace Go.Ab
open Go

section
variable {P : Program} {K : KTabs} {F F' : Terr} {φ φ' : Phi} {w w' : World} {n0 : Nat} {ih : Rec} {rd : Bool} {ops : Array Oper} {ms : List Nat} {b0 : Nat → AV} {ds : DS} {S : Nat → Bool} {σ : ASt} {b : Frame} {a : Act} {cs : List Frame} {k : List Item}

/-- A call, from a state of the machine's run. -/
theorem c_step (hP : Fit P) (hih : RecOk P ih) (st : Static ops ms) (hsz : n0 + ops.size < 2 ^ 23) (ok : DsOk P K ops ms n0 b0 ds) (sim : Sim ops n0 b0 ds S σ) (hs : SR P F φ σ b a cs w) (hφ : ∀ j, j < ops.size → S j = false → φ (n0 + j) = none)
    {c : Nat} {o : Oper} {m : Nat} {rest : List Nat} (hc : ops[c]? = some o) (hm : ms[c]? = some m) (hd : ds.done.testBit c = false) (hr : Ready S o) (hw : wantedA ops ds.s.t o = some true)
    {e : AExit} {s2 : ES} (hop : operA P ih b.roundOf.isSome o (hidES ops n0 ds m) = some (e, s2)) :
    ∃ σ1 F' φ' a' cs' w', s2.nt = ds.s.nt ∧ ds.s.hp.n ≤ s2.hp.n ∧ σ1.nt = s2.nt ∧ σ1.d = s2.d ∧ σ1.u = s2.u ∧ σ1.n = s2.hp.n ∧ σ1.u.isSome = σ.u.isSome ∧
      Agree σ.t (fun x => (∃ k o', ops[k]? = some o' ∧ o'.dst = some x ∧ S k = false) ∧ o.dst ≠ some x) s2.den σ1 ∧
      SR P F' φ' { σ1 with h := fun b => if decide (b ∈ hidIds n0 ops.size ds.al m) then σ.h b else σ1.h b } b a' cs' w' ∧ SR P F' φ' σ1 b a' cs' w' ∧
      Ext F φ n0 σ.h w F' φ' σ1.n w' ∧ (∀ b x, σ1.h b = some x → b < n0 → ∃ y, σ.h b = some y) ∧ (∀ j, j < ops.size → S j = false → φ' (n0 + j) = none) ∧
      CsR σ.u cs cs' ∧ Arr P F' φ' (lone (b.atR a ([.inRegion ops (c :: rest)] ++ k)) cs w) b (.inRegion ops rest :: k) cs' e a' w' := by
  have hn0 : n0 ≤ σ.n := by rw [sim.n]; have := ok.n; omega
  have hnsz : n0 + ops.size ≤ σ.n := by rw [sim.n]; exact ok.n
  have hSc : S c = false := by
    cases hq : S c with
    | false => rfl
    | true => have := sim.sd c hq; rw [hd] at this; cases this
  have hids : ∀ i ∈ hidIds n0 ops.size ds.al m, i < 2 ^ 24 := by
    intro i hi
    obtain ⟨j, h1, _, _, rfl⟩ := mem_hidIds.1 hi
    omega
  let ids : Nat → Bool := fun b => decide (b ∈ hidIds n0 ops.size ds.al m)
  let σc : ASt := { σ with h := fun b => if ids b then none else σ.h b }
  have hhid : ∀ b, (hidES ops n0 ds m).hp.tr.get b = if b ∈ hidIds n0 ops.size ds.al m then none else ds.s.hp.tr.get b := fun b => trHide_get _ _ _ hids
  have hheap : σc.h = (hidES ops n0 ds m).hp.tr.get := by
    funext b'
    rw [hhid]
    show (if ids b' then none else σ.h b') = _
    by_cases hb' : b' ∈ hidIds n0 ops.size ds.al m
    · have h1 : ids b' = true := by simp only [ids]; exact decide_eq_true hb'
      rw [if_pos hb', if_pos h1]
    · have h1 : ids b' = false := by simp only [ids]; exact decide_eq_false hb'
      rw [if_neg hb', h1]
      simp only [Bool.false_eq_true, if_false]
      refine sim.h2 b' fun i hi hS he => hb' ?_
      refine mem_hidIds.2 ⟨i, ok.lt i (ok.pd i (ok.ap i hi)), hi, ?_, he⟩
      cases hq : m.testBit i with
      | false => rfl
      | true => have := mask_S st sim.cl hc hm hr hq; rw [hS] at this; cases this
  have hs' : SR P F φ σc b a cs w := ⟨hs.tmps, hs.size, hs.defs, hs.heap.sub (fun b' => by
    show (if ids b' then none else σ.h b') = _ ∨ (if ids b' then none else σ.h b') = _
    split
    · exact .inr rfl
    · exact .inl rfl), hs.fn, hs.mode⟩
  have e1 := env_S st ok sim hc hm hr hSc
  have e2 := env_now st ok hc hm hd
  have hcong := reads_congr (t := σ.t) (t' := ds.s.t) (fun x hx => (e1 x hx).trans (e2 x hx).symm)
  obtain ⟨k1, k2⟩ := operA_sound hih hop ok.nt
  have hX : ∀ d, o.dst = some d → ¬ ((∃ k o', ops[k]? = some o' ∧ o'.dst = some d ∧ S k = false) ∧ o.dst ≠ some d) := fun d hd' h => h.2 hd'
  have ag : Agree σ.t (fun x => (∃ k o', ops[k]? = some o' ∧ o'.dst = some x ∧ S k = false) ∧ o.dst ≠ some x) (hidES ops n0 ds m).den σc := by
    refine ⟨sim.nt, sim.d, hheap, sim.n, sim.u, fun x _ => rfl, fun x hx => ?_⟩
    show σ.t x = ds.s.t x
    by_cases hod : o.dst = some x
    · rw [sim.tb x c o hc hod hSc]
      symm
      refine ok.base x fun k' o' hk' hd' => ?_
      rw [st.dst k' c o' o x hk' hc hd' hod]
      exact hd
    · refine sim.t x fun k' o' hk' hd' => ?_
      cases hq : S k' with
      | true => rfl
      | false => exact absurd ⟨⟨k', o', hk', hd', hq⟩, hod⟩ hx
  have hpost : OperPost P b.roundOf.isSome o σc (fun e1 σ1 => e1 = e ∧ Agree σ.t (fun x => (∃ k o', ops[k]? = some o' ∧ o'.dst = some x ∧ S k = false) ∧ o.dst ≠ some x) s2.den σ1) (aop P σc.h σc.n (opnd σc.t) o) := by
    have := k2.agree (Q' := fun e1 σ1 => e1 = e ∧ Agree σ.t (fun x => (∃ k o', ops[k]? = some o' ∧ o'.dst = some x ∧ S k = false) ∧ o.dst ≠ some x) s2.den σ1) ag hX (by
      rintro e1 σ1 σ1' ⟨rfl, rfl⟩ hag
      exact ⟨rfl, hag⟩)
    have ha : aop P σc.h σc.n (opnd σc.t) o = aop P (hidES ops n0 ds m).den.h (hidES ops n0 ds m).den.n (opnd (hidES ops n0 ds m).den.t) o := by
      rw [hheap]
      show aop P _ σ.n (opnd σ.t) o = aop P _ ds.s.hp.n (opnd ds.s.t) o
      rw [sim.n, aop_congr hcong.1]
      rfl
    rw [ha]
    exact this
  have hft := oper_ok (rest := rest) hP hc (σ := σc) (by show wantedA ops σ.t o = _; rw [hcong.2]; exact hw) hpost
  obtain ⟨e', σ1, F1, φ1, a1, cs1, w1, ⟨rfl, hag⟩, s1, g1, c1, r1⟩ := hft F φ b a k cs w hs' rfl
  have hsub : ∀ b x, σc.h b = some x → σ.h b = some x := by
    intro b' x hx
    have hx' : (if ids b' then none else σ.h b') = some x := hx
    split at hx'
    · cases hx'
    · exact hx'
  obtain ⟨q1, q2⟩ := hs.heap.readd (ids := ids) (hc := σc.h) (fun b' => rfl) s1.heap g1.ext g1.dom
  refine ⟨σ1, F1, φ1, a1, cs1, w1, k1, ?_, hag.nt, hag.d, hag.u, hag.n, g1.u, hag, ⟨s1.tmps, s1.size, s1.defs, q1, s1.fn, s1.mode⟩, s1, q2.low hn0, fun b' x hx hb' => ?_, fun j hj hS => ?_, c1, r1⟩
  · have h1 : σ.n ≤ σ1.n := g1.ext.nle
    rw [sim.n, hag.n] at h1
    exact h1
  · obtain ⟨y, hy⟩ := g1.dom b' x hx (Nat.lt_of_lt_of_le hb' hn0)
    exact ⟨y, hsub _ _ hy⟩
  · cases hq : φ1 (n0 + j) with
    | none => rfl
    | some L =>
      have := q2.newN _ L hq (by omega)
      rw [hφ j hj hS] at this
      cases this

theorem Sim.back (st : Static ops ms) (hsz : n0 + ops.size < 2 ^ 23) (ok : DsOk P K ops ms n0 b0 ds) (sim : Sim ops n0 b0 ds S σ) {c : Nat} {o : Oper} {m : Nat} (hc : ops[c]? = some o) (hm : ms[c]? = some m) (hd : ds.done.testBit c = false) (hr : Ready S o) {s2 : ES} {σ1 : ASt}
    (hag : Agree σ.t (fun x => (∃ k o', ops[k]? = some o' ∧ o'.dst = some x ∧ S k = false) ∧ o.dst ≠ some x) s2.den σ1) (hnone : ∀ j, j < ops.size → S j = false → σ1.h (n0 + j) = none) :
    Sim ops n0 b0 (backDS ops n0 ds m c s2) (Sadd S c) { σ1 with h := fun b => if decide (b ∈ hidIds n0 ops.size ds.al m) then σ.h b else σ1.h b } := by
  have hids : ∀ i ∈ hidIds n0 ops.size ds.al m, i < 2 ^ 24 := by
    intro i hi
    obtain ⟨j, h1, _, _, rfl⟩ := mem_hidIds.1 hi
    omega
  have hget : ∀ b, (backES ops n0 ds m s2).hp.tr.get b = if b ∈ hidIds n0 ops.size ds.al m then ds.s.hp.tr.get b else s2.hp.tr.get b := fun b => trBack_get _ _ _ _ hids
  refine ⟨hag.nt, hag.d, hag.u, hag.n, ?_, ?_, ?_, ?_, ?_, ?_, sim.cl.add hc hr⟩
  · intro x hx
    show σ1.t x = s2.t x
    refine hag.t x ?_
    rintro ⟨⟨k', o', hk', hd', hS⟩, hod⟩
    rcases Sadd_true (hx k' o' hk' hd') with h1 | h1
    · rw [hS] at h1; cases h1
    · subst h1
      rw [hc] at hk'
      cases hk'
      exact hod hd'
  · intro x k' o' hk' hd' hS
    obtain ⟨h1, h2⟩ := Sadd_false hS
    show σ1.t x = b0 x
    rw [hag.tX x ⟨⟨k', o', hk', hd', h1⟩, fun hod => h2 (st.dst k' c o' o x hk' hc hd' hod)⟩]
    exact sim.tb x k' o' hk' hd' h1
  · intro j hj hS
    obtain ⟨h1, h2⟩ := Sadd_false hS
    show (if decide (n0 + j ∈ hidIds n0 ops.size ds.al m) = true then σ.h (n0 + j) else σ1.h (n0 + j)) = none
    split
    · exact sim.h1 j hj h1
    · exact hnone j hj h1
  · intro b' hb'
    show (if decide (b' ∈ hidIds n0 ops.size ds.al m) = true then σ.h b' else σ1.h b') = (backES ops n0 ds m s2).hp.tr.get b'
    rw [hget]
    by_cases hmem : b' ∈ hidIds n0 ops.size ds.al m
    · simp only [hmem, decide_true, if_true]
      refine sim.h2 b' fun i hi hS he => hb' i ?_ ?_ he
      · show (mdiff ds.al m).testBit i = true
        rw [mdiff_bit, hi]
        cases hq : m.testBit i with
        | false => rfl
        | true => have := mask_S st sim.cl hc hm hr hq; rw [hS] at this; cases this
      · have : i ≠ c := fun e => by
          subst e
          have := ok.pd i (ok.ap i hi)
          rw [hd] at this
          cases this
        simp [Sadd, hS, this]
    · simp only [hmem, decide_false, Bool.false_eq_true, if_false]
      rw [hag.h]
      rfl
  · intro j hj
    show (ds.done ||| (1 <<< c)).testBit j = true
    rw [madd_bit]
    rcases Sadd_true hj with h1 | h1
    · rw [sim.sd j h1]; rfl
    · subst h1; simp
  · intro j hj hp
    have hj' : (ds.done ||| (1 <<< c)).testBit j = true := hj
    have hp' : (mdiff ds.pend m).testBit j = false := hp
    rw [madd_bit] at hj'
    rw [mdiff_bit] at hp'
    by_cases he : c = j
    · subst he; exact Sadd_new
    · have hdj : ds.done.testBit j = true := by simpa [he] using hj'
      cases hq : ds.pend.testBit j with
      | false => exact Sadd_old (sim.us j hdj hq)
      | true =>
        rw [hq] at hp'
        simp only [Bool.true_and, Bool.not_eq_false'] at hp'
        exact Sadd_old (mask_S st sim.cl hc hm hr hp')
end
end Go.Ab

/- Regions that draw their order, ninth part: the rule. -/
namespace Go.Ab
open Go

section
variable {P : Program} {K : KTabs} {n0 : Nat} {ih : Rec} {ops : Array Oper} {ms : List Nat} {b0 : Nat → AV} {b : Frame} {k : List Item}

def listS (listed : Array Bool) : Nat → Bool := fun i => listed.getD i false

theorem ready_mem {listed : Array Bool} (hl : listed.size = ops.size) {i : Nat} : i ∈ Region.ready .any ops listed ↔ ∃ o, ops[i]? = some o ∧ listS listed i = false ∧ Ready (listS listed) o := by
  unfold Region.ready
  rw [List.mem_filter, List.mem_range]
  constructor
  · rintro ⟨h1, h2⟩
    simp only [Bool.and_eq_true, Bool.not_eq_true'] at h2
    obtain ⟨h2, h3⟩ := h2
    cases hq : ops[i]? with
    | none => rw [hq] at h3; cases h3
    | some o =>
      rw [hq] at h3
      simp only [Option.map_some, Option.getD_some, Array.all_eq_true_iff_forall_mem, Bool.or_eq_true, Bool.not_eq_true'] at h3
      refine ⟨o, rfl, ?_, fun e he hb => ?_⟩
      · unfold listS
        rw [Array.getD_eq_getD_getElem?] at h2 ⊢
        have : i < listed.size := by omega
        rw [Array.getElem?_eq_getElem this] at h2 ⊢
        exact h2
      · rcases h3 e he with h4 | h4
        · rw [hb] at h4; cases h4
        · exact h4
  · rintro ⟨o, h1, h2, h3⟩
    have hlt := lt_of_get h1
    refine ⟨hlt, ?_⟩
    rw [h1]
    simp only [Option.map_some, Option.getD_some, Bool.and_eq_true, Bool.not_eq_true', Array.all_eq_true_iff_forall_mem, Bool.or_eq_true]
    refine ⟨?_, fun e he => ?_⟩
    · unfold listS at h2
      rw [Array.getD_eq_getD_getElem?] at h2 ⊢
      have : i < listed.size := by omega
      rw [Array.getElem?_eq_getElem this] at h2 ⊢
      exact h2
    · cases hb : Region.binds .any e with
      | false => exact .inl rfl
      | true => exact .inr (h3 e he hb)

theorem listS_set {listed : Array Bool} {i : Nat} (hi : i < listed.size) : listS (listed.setIfInBounds i true) = Sadd (listS listed) i := by
  funext j
  show (listed.setIfInBounds i true).getD j false = (listed.getD j false || decide (j = i))
  rw [Array.getD_eq_getD_getElem?, Array.getD_eq_getD_getElem?, Array.getElem?_setIfInBounds]
  by_cases h : i = j
  · subst h
    simp [hi]
  · have : ¬ j = i := fun e => h e.symm
    simp [h, this]

/-- Where none is ready, all have been. -/
theorem all_of_none (st : Static ops ms) {listed : Array Bool} (hl : listed.size = ops.size) (h : Region.ready .any ops listed = []) : ∀ i, i < ops.size → listS listed i = true := by
  intro i
  induction i using Nat.strongRecOn with
  | _ i ih =>
    intro hi
    cases hq : listS listed i with
    | true => rfl
    | false =>
      exfalso
      have : i ∈ Region.ready .any ops listed := (ready_mem hl).2 ⟨ops[i], by simp [hi], hq, fun e he hb => by
        have hlt := st.edge i ops[i] (by simp [hi]) e he hb
        exact ih e.on hlt (by omega)⟩
      rw [h] at this
      cases this

theorem Sim.full {ds : DS} {S : Nat → Bool} {σ : ASt} (ok : DsOk P K ops ms n0 b0 ds) (sim : Sim ops n0 b0 ds S σ) (hS : ∀ i, i < ops.size → S i = true) : σ = ds.s.den := by
  have ht : σ.t = ds.s.t := by
    funext x
    exact sim.t x fun k' o' hk' _ => hS k' (lt_of_get hk')
  have hh : σ.h = ds.s.hp.tr.get := by
    funext b'
    refine sim.h2 b' fun i hi hSi => ?_
    rw [hS i (ok.lt i (ok.pd i (ok.ap i hi)))] at hSi
    cases hSi
  have h1 := sim.nt
  have h2 := sim.d
  have h3 := sim.u
  have h4 := sim.n
  cases σ
  simp only [ES.den] at *
  subst h1 h2 h3 h4 ht hh
  rfl

theorem draw_go (hP : Fit P) (hK : KsOk P K) (hih : RecOk P ih) (st : Static ops ms) (hsz : n0 + ops.size < 2 ^ 23) {F0 : Terr} {φ0 : Phi} {h0 : Nat → Option ABlk} {w0 : World} (hr0 : HR P F0 φ0 n0 h0 w0) {u0 : Option AMode} {cs0 : List Frame} {m0 : Machine} {e0 : AExit} {sf : ES} :
    ∀ (fuel t : Nat) (listed : Array Bool) (fd : Nat) (ds : DS) (σ : ASt) (F : Terr) (φ : Phi) (a : Act) (cs : List Frame) (w : World), listed.size = ops.size →
      ((List.range ops.size).filter fun i => !listS listed i).length ≤ fuel → SR P F φ σ b a cs w → DsOk P K ops ms n0 b0 ds → Sim ops n0 b0 ds (listS listed) σ → (∀ j, j < ops.size → listS listed j = false → φ (n0 + j) = none) →
      afterSat P ih b.roundOf.isSome ops (tri ops ms) n0 (runD P K ih b.roundOf.isSome ops (tri ops ms) n0 fd) ds = some (e0, sf) →
      Ext F0 φ0 n0 h0 w0 F φ n0 w → (∀ b x, σ.h b = some x → b < n0 → ∃ y, h0 b = some y) → CsR u0 cs0 cs → σ.u.isSome = u0.isSome →
      Steps P m0 (lone (b.atR a (.inRegion ops (Region.linearise.go .any ops fuel t listed []) :: k)) cs w) →
      ∃ F' φ' a' cs' w', SR P F' φ' sf.den b a' cs' w' ∧ Ext F0 φ0 n0 h0 w0 F' φ' sf.hp.n w' ∧ (∀ b x, sf.den.h b = some x → b < n0 → ∃ y, h0 b = some y) ∧ sf.nt = ds.s.nt ∧ CsR u0 cs0 cs' ∧ sf.u.isSome = u0.isSome ∧
        Arr P F' φ' m0 b k cs' e0 a' w' := by
  intro fuel
  induction fuel with
  | zero =>
    intro t listed fd ds σ F φ a cs w hl hlen hs ok sim hφ hrun hE hdom hcs hu hst
    -- all have been
    have hall : ∀ i, i < ops.size → listS listed i = true := by
      intro i hi
      cases hq : listS listed i with
      | true => rfl
      | false =>
        have : i ∈ (List.range ops.size).filter fun i => !listS listed i := List.mem_filter.2 ⟨List.mem_range.2 hi, by simp [hq]⟩
        rw [List.length_eq_zero_iff.1 (Nat.le_zero.1 hlen)] at this
        cases this
    have hfu : firstUndone ds.done (tri ops ms) = none := by
      unfold firstUndone
      rw [List.find?_eq_none]
      rintro ⟨⟨o, m⟩, i⟩ hm
      simp [sim.sd i (hall i (lt_of_get (tri_mem hm).1))]
    unfold afterSat at hrun
    rw [hfu] at hrun
    simp only [Option.some.injEq, Prod.mk.injEq] at hrun
    obtain ⟨rfl, rfl⟩ := hrun
    have hσ := sim.full ok hall
    subst hσ
    refine ⟨F, φ, a, cs, w, hs, ⟨hE.terr, hE.phi, ?_, hE.size, hE.keep, hE.newF, hE.newP, hE.newN, hE.out⟩, hdom, rfl, hcs, hu, ?_⟩
    · have := ok.n; omega
    · simp only [Region.linearise.go, List.reverse_nil] at hst
      exact hst.trans (.one stepR_region_end)
  | succ fuel ih' =>
    intro t listed fd ds σ F φ a cs w hl hlen hs ok sim hφ hrun hE hdom hcs hu hst
    simp only [Region.linearise.go] at hst
    cases hq : (Region.ready .any ops listed)[t % (Region.ready .any ops listed).length]? with
    | none =>
      have hnil : Region.ready .any ops listed = [] := by
        cases hrs : Region.ready .any ops listed with
        | nil => rfl
        | cons x xs =>
          rw [hrs, List.getElem?_eq_none_iff] at hq
          have := Nat.mod_lt t (show 0 < (x :: xs).length by simp)
          omega
      have hall := all_of_none st hl hnil
      have hfu : firstUndone ds.done (tri ops ms) = none := by
        unfold firstUndone
        rw [List.find?_eq_none]
        rintro ⟨⟨o, m⟩, i⟩ hm
        simp [sim.sd i (hall i (lt_of_get (tri_mem hm).1))]
      unfold afterSat at hrun
      rw [hfu] at hrun
      simp only [Option.some.injEq, Prod.mk.injEq] at hrun
      obtain ⟨rfl, rfl⟩ := hrun
      have hσ := sim.full ok hall
      subst hσ
      refine ⟨F, φ, a, cs, w, hs, ⟨hE.terr, hE.phi, ?_, hE.size, hE.keep, hE.newF, hE.newP, hE.newN, hE.out⟩, hdom, rfl, hcs, hu, ?_⟩
      · have := ok.n; omega
      · have hq' := hq
        unfold Region.ready at hq'
        rw [hq'] at hst
        simp only [List.reverse_nil] at hst
        exact hst.trans (.one stepR_region_end)
    | some i =>
      have hmem : i ∈ Region.ready .any ops listed := List.mem_of_getElem? hq
      obtain ⟨o, hi, hSi, hr⟩ := (ready_mem hl).1 hmem
      obtain ⟨m, hm⟩ := st.mask i o hi
      have hilt := lt_of_get hi
      have hq' := hq
      unfold Region.ready at hq'
      rw [hq'] at hst
      simp only at hst
      rw [linearise_go_acc] at hst
      simp only [List.reverse_cons, List.reverse_nil, List.nil_append, List.singleton_append] at hst
      have hset : listS (listed.setIfInBounds i true) = Sadd (listS listed) i := listS_set (by omega)
      have hlen' : ((List.range ops.size).filter fun j => !listS (listed.setIfInBounds i true) j).length ≤ fuel := by
        have h1 : ((List.range ops.size).filter fun j => !listS (listed.setIfInBounds i true) j) = ((List.range ops.size).filter fun j => !listS listed j).filter fun j => !decide (j = i) := by
          rw [List.filter_filter]
          refine List.filter_congr fun j _ => ?_
          rw [hset]
          unfold Sadd
          cases listS listed j <;> simp
        have h2 : (((List.range ops.size).filter fun j => !listS listed j).filter fun j => !decide (j = i)).length < ((List.range ops.size).filter fun j => !listS listed j).length := by
          rw [List.length_filter_lt_length_iff_exists]
          exact ⟨i, List.mem_filter.2 ⟨List.mem_range.2 hilt, by simp [hSi]⟩, by simp⟩
        rw [h1]
        omega
      have hl' : (listed.setIfInBounds i true).size = ops.size := by simpa using hl
      cases hdone : ds.done.testBit i with
      | true =>
        have hp : ds.pend.testBit i = true := by
          cases hq : ds.pend.testBit i with
          | true => rfl
          | false => have := sim.us i hdone hq; rw [hSi] at this; cases this
        obtain ⟨σ', F', φ', a', cs', w', s1, sim1, e1, d1, p1, c1, r1⟩ := pend_step (rest := Region.linearise.go .any ops fuel (t / (Region.ready .any ops listed).length) (listed.setIfInBounds i true) []) (k := k) hP hK st ok sim hs hφ hi hm hp hSi hr
        refine ih' (t / (Region.ready .any ops listed).length) (listed.setIfInBounds i true) fd ds σ' F' φ' a' cs' w' hl' hlen' s1 ok (by rw [hset]; exact sim1) (by rw [hset]; exact p1) hrun ?_ ?_ ?_ ?_ (hst.trans r1)
        · exact (hE.trans hr0 hdom e1).flat
        · intro b' x hx hb'
          obtain ⟨y, hy⟩ := d1 b' x hx hb'
          exact hdom b' y hy hb'
        · exact CsR.trans hu hcs c1
        · rw [sim1.u, ← sim.u]; exact hu
      | false =>
        -- it is the call that the evaluator makes
        unfold afterSat at hrun
        split at hrun
        · rename_i hfu
          unfold firstUndone at hfu
          rw [List.find?_eq_none] at hfu
          have := hfu ((o, m), i) (mem_tri hi hm)
          simp [hdone] at this
        · rename_i o' m' c hfu
          split at hrun
          · rename_i hcond
            simp only [Bool.and_eq_true, decide_eq_true_eq] at hcond
            obtain ⟨⟨hk, hone⟩, hw⟩ := hcond
            have hci : c = i := by
              have h1 := List.all_eq_true.1 hone ((o, m), i) (mem_tri hi hm)
              simp only [hdone, Bool.false_or, Bool.or_eq_true, beq_iff_eq, Bool.not_eq_true'] at h1
              rcases h1 with h1 | h1
              · exact h1.symm
              · have : msub m ds.done = true := by
                  unfold msub
                  rw [beq_iff_eq]
                  refine Nat.eq_of_testBit_eq fun j => ?_
                  rw [Nat.testBit_and]
                  cases hj : m.testBit j with
                  | false => rfl
                  | true => rw [sim.sd j (mask_S st sim.cl hi hm hr hj)]; rfl
                rw [this] at h1
                cases h1
            subst hci
            have hmem' := List.mem_of_find?_eq_some hfu
            obtain ⟨g1, g2⟩ := tri_mem hmem'
            rw [hi] at g1
            cases g1
            rw [hm] at g2
            cases g2
            have hw' : wantedA ops ds.s.t o = some true := by
              revert hw
              unfold isWanted
              cases wantedA ops ds.s.t o with
              | none => intro h; cases h
              | some r => intro h; rw [show r = true from h]
            have hsub : ∀ j, m.testBit j = true → ds.done.testBit j = true := fun j hj => sim.sd j (mask_S st sim.cl hi hm hr hj)
            split at hrun
            · rename_i s2 hop
              split at hrun
              · rename_i hag0
                obtain ⟨σ1, F', φ', a', cs', w', k1, k2, k3, k4, k5, k6, k7, hag, s1, s1', e1, d1, p1, c1, r1⟩ := c_step (rest := Region.linearise.go .any ops fuel (t / (Region.ready .any ops listed).length) (listed.setIfInBounds c true) []) (k := k) hP hih st hsz ok sim hs hφ hi hm hdone hr hw' hop
                have ok1 := back_ok st hsz ok hi hm hdone hsub hop k1 k2 hag0
                have hnone : ∀ j, j < ops.size → listS listed j = false → σ1.h (n0 + j) = none := by
                  intro j hj hS
                  cases hq : σ1.h (n0 + j) with
                  | none => rfl
                  | some x =>
                    obtain ⟨L, hL, _⟩ := s1'.heap.blk _ _ hq
                    rw [p1 j hj hS] at hL
                    cases hL
                have sim1 := sim.back st hsz ok hi hm hdone hr hag hnone
                cases fd with
                | zero => cases hrun
                | succ fd =>
                  change runD P K ih b.roundOf.isSome ops (tri ops ms) n0 (fd + 1) (backDS ops n0 ds m c s2) = _ at hrun
                  unfold runD at hrun
                  split at hrun
                  · cases hrun
                  · rename_i ds2 hsat
                    obtain ⟨ok2, sim2⟩ := satGo_ok st hsz _ _ _ (fun o m i h => tri_mem h) ok1 sim1 hsat
                    have hnt2 : ds2.s.nt = ds.s.nt := by
                      have h1 := sim2.nt
                      have h2 := sim1.nt
                      rw [← h1, h2]
                      exact k1
                    obtain ⟨F2, φ2, a2, cs2, w2, x1, x2, x3, x4, x5, x6, x7⟩ := ih' (t / (Region.ready .any ops listed).length) (listed.setIfInBounds c true) fd ds2 _ F' φ' a' cs' w' hl' hlen' s1 ok2 (by rw [hset]; exact sim2) (by rw [hset]; intro j hj hS; exact p1 j hj (Sadd_false hS).1) hrun
                      ((hE.trans hr0 hdom e1).flat) (fun b' x hx hb' => by
                        have hx' : (if decide (b' ∈ hidIds n0 ops.size ds.al m) = true then σ.h b' else σ1.h b') = some x := hx
                        split at hx'
                        · exact hdom b' x hx' hb'
                        · obtain ⟨y, hy⟩ := d1 b' x hx' hb'
                          exact hdom b' y hy hb') (CsR.trans hu hcs c1) (k7.trans hu) (hst.trans r1)
                    exact ⟨F2, φ2, a2, cs2, w2, x1, x2, x3, x4.trans hnt2, x5, x6, x7⟩
              · cases hrun
            · rename_i v s2 hop
              simp only [Option.some.injEq, Prod.mk.injEq] at hrun
              obtain ⟨rfl, rfl⟩ := hrun
              obtain ⟨σ1, F', φ', a', cs', w', k1, k2, k3, k4, k5, k6, k7, hag, s1, s1', e1, d1, p1, c1, r1⟩ := c_step (rest := Region.linearise.go .any ops fuel (t / (Region.ready .any ops listed).length) (listed.setIfInBounds c true) []) (k := k) hP hih st hsz ok sim hs hφ hi hm hdone hr hw' hop
              obtain ⟨f1, f2, f3, f4, f5⟩ := blur_facts ops.toList s2 (by rw [k1]; exact ok.nt) (fun o' ho' d hd' => by
                obtain ⟨j, hj⟩ := List.mem_iff_getElem?.1 ho'
                rw [k1]
                exact ok.dnt j o' d (by simpa using hj) hd')
              have hden : (blur s2 ops.toList).den.h = σ1.h := by
                show (blur s2 ops.toList).hp.tr.get = _
                rw [f4, hag.h]; rfl
              refine ⟨F', φ', a', cs', w', ⟨fun x => ?_, ?_, ?_, ?_, s1'.fn, ?_⟩, ?_, ?_, f1.trans k1, CsR.trans hu hcs c1, ?_, ?_⟩
              · show VR F' φ' ((blur s2 ops.toList).t x) _
                rcases f5 x with h1 | ⟨h1, h2⟩
                · rw [h1]; exact .any _
                · rw [h1]
                  have := s1'.tmps x
                  rw [hag.t x ?_] at this
                  · exact this
                  · rintro ⟨⟨k', o', hk', hd', _⟩, _⟩
                    exact h2 o' (List.mem_iff_getElem?.2 ⟨k', by simpa using hk'⟩) hd'
              · show a'.tmps.size = (blur s2 ops.toList).nt
                rw [f1, s1'.size, k3]
              · show DsR F' φ' (blur s2 ops.toList).d _
                rw [f2, ← k4]; exact s1'.defs
              · rw [hden]
                show HR P F' φ' (blur s2 ops.toList).hp.n _ _
                rw [f4, ← k6]
                exact s1'.heap
              · show UR F' φ' (blur s2 ops.toList).u _ _
                rw [f3, ← k5]; exact s1'.mode
              · rw [f4, ← k6]
                exact hE.trans hr0 hdom e1
              · intro b' x hx hb'
                rw [hden] at hx
                obtain ⟨y, hy⟩ := d1 b' x hx hb'
                exact hdom b' y hy hb'
              · rw [f3, ← k5, k7]; exact hu
              · obtain ⟨k0, vc, hv, h2⟩ := r1
                exact ⟨k0, vc, hv, hst.trans h2⟩
            · cases hrun
          · cases hrun

theorem ES.put_nt' (s : ES) (dst : Option Tmp) (v : AV) : (s.put dst v).nt = s.nt := by
  cases dst with
  | none => rfl
  | some d =>
    unfold ES.put
    simp only
    split <;> rfl

theorem addOp_nt {ds ds' : DS} {i : Nat} {o : Oper} {m : Nat} (h : addOp P K ops n0 ds i o m = some ds') : ds'.s.nt = ds.s.nt := by
  unfold addOp at h
  repeat' split at h
  all_goals first
    | (cases h; done)
    | (cases h; exact ES.put_nt' _ _ _)
    | (cases h; rfl)
    | (cases h; exact (ES.put_nt' _ _ _).trans rfl)

theorem satGo_nt : ∀ (l : List ((Oper × Nat) × Nat)) (ds ds' : DS), satGo P K ops n0 l ds = some ds' → ds'.s.nt = ds.s.nt
  | [], ds, ds', h => by cases h; rfl
  | ((o, m), i) :: l, ds, ds', h => by
    unfold satGo at h
    split at h
    · rename_i ds1 h1
      exact (satGo_nt l ds1 ds' h).trans (addOp_nt h1)
    · cases h

theorem blur_nt : ∀ (os : List Oper) (s : ES), (blur s os).nt = s.nt
  | [], _ => rfl
  | o :: os, s => (blur_nt os _).trans (ES.put_nt' s o.dst .any)

theorem afterSat_nt (hih : RecOk P ih) {rd : Bool} {l : List ((Oper × Nat) × Nat)} {next : DS → Option (AExit × ES)} {ds : DS} {e : AExit} {s' : ES} (hn : ∀ ds', next ds' = some (e, s') → ds'.s.nt < 2 ^ 23 → s'.nt = ds'.s.nt)
    (h : afterSat P ih rd ops l n0 next ds = some (e, s')) (hs : ds.s.nt < 2 ^ 23) : s'.nt = ds.s.nt := by
  unfold afterSat at h
  split at h
  · cases h; rfl
  · split at h
    · split at h
      · rename_i s2 hop
        have h1 := (operA_sound hih hop hs).1
        split at h
        · exact (hn _ h (by show s2.nt < _; rw [h1]; exact hs)).trans h1
        · cases h
      · rename_i v s2 hop
        have h1 := (operA_sound hih hop hs).1
        cases h
        exact (blur_nt _ _).trans h1
      · cases h
    · cases h

theorem runD_nt (hih : RecOk P ih) {rd : Bool} {l : List ((Oper × Nat) × Nat)} {e : AExit} {s' : ES} : ∀ (fd : Nat) (ds : DS), runD P K ih rd ops l n0 fd ds = some (e, s') → ds.s.nt < 2 ^ 23 → s'.nt = ds.s.nt
  | 0, _, h, _ => by cases h
  | fd + 1, ds, h, hs => by
    unfold runD at h
    split at h
    · cases h
    · rename_i ds1 hsat
      have h1 := satGo_nt _ _ _ hsat
      exact (afterSat_nt hih (fun ds' h' hn' => runD_nt hih fd ds' h' hn') h (by rw [h1]; exact hs)).trans h1

/-- A region that draws its order. -/
theorem drawA_sound (hP : Fit P) (hK : KsOk P K) (hM : P.follows .mixedOrders = true) (hih : RecOk P ih) {id : Nat} {rd : Bool} {s s' : ES} {e : AExit} (h : drawA P K ih rd ops s = some (e, s')) (hs : s.nt < 2 ^ 23) :
    s'.nt = s.nt ∧ CodeOk P rd (.region id ops true) s.den fun e1 σ1 => e1 = e ∧ σ1 = s'.den := by
  unfold drawA at h
  simp only at h
  split at h
  · rename_i hc
    simp only [Bool.and_eq_true, decide_eq_true_eq] at hc
    obtain ⟨⟨hf, hsz⟩, hdn⟩ := hc
    have st := static_of hf
    have hdnt : ∀ (i : Nat) (o : Oper) (d : Tmp), ops[i]? = some o → o.dst = some d → d < s.nt := by
      intro i o d hi hd
      have := List.all_eq_true.1 hdn o (List.mem_iff_getElem?.2 ⟨i, by simpa using hi⟩)
      rw [hd] at this
      simpa using this
    unfold runD at h
    split at h
    · cases h
    · rename_i ds1 hsat
      have hbit : ∀ i, (0 : Nat).testBit i = false := fun i => Nat.zero_testBit i
      have ok0 : DsOk P K ops (masks ops) s.hp.n s.t { s := { s with hp := { s.hp with n := s.hp.n + ops.size } }, done := 0, pend := 0, al := 0 } :=
        ⟨fun i hi => by simp [hbit] at hi, fun i hi => by simp [hbit] at hi, fun i m _ hi => by simp [hbit] at hi, fun i o m _ _ hi => by simp [hbit] at hi, fun i hi => by simp [hbit] at hi, fun x _ => rfl, Nat.le_refl _, hs, hdnt⟩
      -- what the machine's run gives
      have key : ∀ F φ (b : Frame) a (cs : List Frame) w, SR P F φ s.den b a cs w → SR P F φ { s.den with n := s.hp.n + ops.size } b a cs w ∧
          Sim ops s.hp.n s.t { s := { s with hp := { s.hp with n := s.hp.n + ops.size } }, done := 0, pend := 0, al := 0 } (listS (Array.replicate ops.size false)) { s.den with n := s.hp.n + ops.size } := by
        intro F φ b a cs w hsr
        have hlist : ∀ i, listS (Array.replicate ops.size false) i = false := by
          intro i
          unfold listS
          rw [Array.getD_eq_getD_getElem?, Array.getElem?_replicate]
          split <;> rfl
        have hr := hsr.heap
        refine ⟨⟨hsr.tmps, hsr.size, hsr.defs, ⟨hr.terr, hr.blk, hr.inj, fun b' hb' => hr.fresh b' (Nat.le_trans (Nat.le_add_right _ _) hb'), hr.below⟩, hsr.fn, hsr.mode⟩, ⟨rfl, rfl, rfl, rfl, fun x _ => rfl, fun x _ _ _ _ _ => rfl, fun i hi _ => ?_, fun b' _ => rfl, fun i hi => ?_, fun i hi => by simp [hbit] at hi, fun i o hi hS => ?_⟩⟩
        · show s.den.h (s.hp.n + i) = none
          cases hq : s.den.h (s.hp.n + i) with
          | none => rfl
          | some x =>
            obtain ⟨L, hL, _⟩ := hr.blk _ _ hq
            rw [hr.fresh (s.hp.n + i) (Nat.le_add_right s.hp.n i)] at hL
            cases hL
        · rw [hlist] at hi; cases hi
        · rw [hlist] at hS; cases hS
      have run : ∀ F φ (b : Frame) a k (cs : List Frame) w, SR P F φ s.den b a cs w → b.roundOf.isSome = rd →
          ∃ F' φ' a' cs' w', SR P F' φ' s'.den b a' cs' w' ∧ Ext F φ s.hp.n s.den.h w F' φ' s'.hp.n w' ∧ (∀ b x, s'.den.h b = some x → b < s.hp.n → ∃ y, s.den.h b = some y) ∧ s'.nt = s.nt ∧ CsR s.u cs cs' ∧ s'.u.isSome = s.u.isSome ∧
            Arr P F' φ' (lone (b.atR a ([.code (.region id ops true)] ++ k)) cs w) b k cs' e a' w' := by
        intro F φ b a k cs w hsr hrd
        subst hrd
        obtain ⟨s0, sim0⟩ := key F φ b a cs w hsr
        obtain ⟨ok1, sim1⟩ := satGo_ok st hsz _ _ _ (fun o m i h => tri_mem h) ok0 sim0 hsat
        let w1 : World := { w with drawn := w.drawn + 1 }
        have hw1 : HR P F φ s.hp.n s.den.h w1 := hsr.heap.heap rfl
        have s1 : SR P F φ { s.den with n := s.hp.n + ops.size } b a cs w1 := ⟨s0.tmps, s0.size, s0.defs, s0.heap.heap rfl, s0.fn, s0.mode⟩
        have hst := stepR_region_draw (P := P) (b := b) (a := a) (k := k) (cs := cs) (w := w) (ops := ops) (id := id)
        have hnt1 : ds1.s.nt = s.nt := by rw [← sim1.nt]; rfl
        obtain ⟨F', φ', a', cs', w', x1, x2, x3, x4, x5, x6, x7⟩ := draw_go (k := k) (m0 := lone (b.atR a (.code (.region id ops true) :: k)) cs w) (u0 := s.u) (cs0 := cs) hP hK hih st hsz (h0 := s.den.h) (w0 := w1) hw1 ops.size (w.tape w.drawn (.order b.fn id)) (Array.replicate ops.size false) ops.size ds1 _ F φ a cs w1 (by simp)
          (Nat.le_trans (List.length_filter_le _ _) (by simp)) s1 ok1 sim1 (fun j _ _ => hsr.heap.fresh _ (Nat.le_add_right _ _)) h (Ext.refl ..) (fun b' x hx _ => ⟨x, hx⟩) (CsR.refl hsr.mode) rfl (.one (by
            rw [hst]
            unfold Region.schedule Region.linearise
            rw [hM]
            rfl))
        refine ⟨F', φ', a', cs', w', x1, ?_, x3, x4.trans hnt1, x5, x6, x7⟩
        exact ⟨x2.terr, x2.phi, x2.nle, x2.size, x2.keep, x2.newF, x2.newP, x2.newN, x2.out⟩
      refine ⟨?_, ?_⟩
      · have h1 := satGo_nt _ _ _ hsat
        have h2 := afterSat_nt hih (fun ds' h' hn' => runD_nt hih _ _ h' hn') h (by rw [h1]; exact hs)
        exact h2.trans h1
      · intro F φ b a k cs w hsr hrd
        obtain ⟨F', φ', a', cs', w', x1, x2, x3, x4, x5, x6, x7⟩ := run F φ b a k cs w hsr hrd
        exact ⟨e, s'.den, F', φ', a', cs', w', ⟨rfl, rfl⟩, x1, ⟨x2, x3, x4, x6⟩, x5, x7⟩
  · cases h
end
end Go.Ab

/- The evaluator, whole. -/
namespace Go.Ab
open Go

def stepCode (P : Program) (K : KTab) (ih : Rec) (rd : Bool) (c : Code) (s : ES) : Option (AExit × ES) :=
  match c with
  | .skip => some (.normal, s)
  | .ret => some (.ret, s)
  | .exit id => some (.exit id, s)
  | .seq a b =>
    match ih.code rd a s with
    | some (.normal, s) => ih.code rd b s
    | r => r
  | .cond c a b =>
    match opnd s.t c with
    | .bool true => ih.code rd a s
    | .bool false => ih.code rd b s
    | _ => none
  | .block id c =>
    match ih.code rd c s with
    | some (.exit id', s) => if id' = id then some (.normal, s) else some (.exit id', s)
    | r => r
  | .loop c =>
    match ih.code rd c s with
    | some (.normal, s) => ih.code rd (.loop c) s
    | r => r
  | .region _ ops true => drawA P (fun _ => K) ih rd ops s
  | .region _ ops false => opersA P ih rd ops ops.toList s
  | .rangeFunc g ps assign body =>
    if rd then none else
    let n := s.hp.n
    match s.hp.apply [(n, some .dfd), (n + 1, some (.loop .ready none s.nt s.t ps.toList assign body n))] (n + 2) with
    | none => none
    | some h =>
      let s := { s with d := .inr n :: s.d, hp := h }
      match (match callA P (opnd s.t g) [.yld (n + 1)] with
        | some (.enter f args) => ih.call f args h
        | _ => none) with
      | some (.ret _, h) =>
        match h.tr.get (n + 1) with
        | some (.loop st pending _ _ _ _ _ _) =>
          if st = .busy then none else
          let s := { s with hp := { h with tr := h.tr.set (n + 1) none } }
          match pending with
          | none => some (.normal, s)
          | some .ret => some (.ret, s)
          | some (.exit id) => some (.exit id, s)
          | _ => none
        | _ => none
      | some (.pan v, h) => some (.panic v, { s with hp := h })
      | none => none
  | _ => none

/-- The deferred calls of a frame, the last one first. -/
def leaveA (P : Program) (ih : Rec) : List (ADef ⊕ Nat) → AMode → HP → Option (AMode × HP)
  | [], m, h => some (m, h)
  | .inr b :: ds, m, h =>
    match h.tr.get b with
    | some .dfd => leaveA P ih ds m { h with tr := h.tr.set b none }
    | _ => none
  | .inl d :: ds, m, h =>
    match callA P d.fv d.args with
    | some (.enter f args) =>
      match P.funcs[f]? with
      | some fn =>
        match fn.body with
        | some c =>
          match (if args.length + (fn.ntmps - args.length) < 2 ^ 23 then ih.code false c (startES args fn.ntmps h (some m)) else none) with
          | some (.normal, s) | some (.ret, s) =>
            match s.d, s.u, resultsA P s.hp.tr.get s.t fn.results.toList with
            | [], some m', some _ => leaveA P ih ds (settleA m') s.hp
            | _, _, _ => none
          | _ => none
        | none => none
      | none => none
    | _ => none

def stepCall (P : Program) (ih : Rec) (f : FuncId) (args : List AV) (h : HP) : Option (AEnd × HP) :=
  match P.funcs[f]? with
  | some fn =>
    match fn.body with
    | some c =>
      match (if args.length + (fn.ntmps - args.length) < 2 ^ 23 then ih.code false c (startES args fn.ntmps h none) else none) with
      | some (e, s) =>
        match (match e with
          | .normal | .ret => some AMode.ret
          | .panic v => some (.pan v false)
          | .exit _ => none) with
        | some m =>
          match leaveA P ih s.d m s.hp with
          | some (.ret, h) => (resultsA P h.tr.get s.t fn.results.toList).map fun v => (.ret v, h)
          | some (.pan v false, h) => some (.pan v, h)
          | _ => none
        | none => none
      | none => none
    | none => none
  | none => none

def stepRec (P : Program) (K : KTab) (ih : Rec) : Rec := ⟨stepCode P K ih, stepCall P ih⟩

/-- Calls whose answers are told are not made. -/
def overK (K : KTab) (ih : Rec) : Rec :=
  ⟨ih.code, fun f args hp => match K f args with | some ae => some (ae, hp) | none => ih.call f args hp⟩

def noK : KTab := fun _ _ => none

def evRec (P : Program) (K : KTab) : Nat → Rec
  | 0 => overK K ⟨fun _ _ _ => none, fun _ _ _ => none⟩
  | k + 1 => overK K (stepRec P K (evRec P K k))

end Go.Ab

/- The evaluator is right. -/
namespace Go.Ab
open Go

section
variable {P : Program} {K : KTab} {ih : Rec} {rd : Bool}

theorem opersA_sound (hi : RecOk P ih) {ops : Array Oper} {e : AExit} {s' : ES} : ∀ (os : List Oper) (i : Nat) (s : ES), ops.toList.drop i = os → opersA P ih rd ops os s = some (e, s') → s.nt < 2 ^ 23 →
    s'.nt = s.nt ∧ OpersOk P rd ops (fun e1 σ1 => e1 = e ∧ σ1 = s'.den) (List.range' i (ops.size - i)) s.den
  | [], i, s, hd, h, hs => by
    have hle : ops.toList.length ≤ i := List.drop_eq_nil_iff.1 hd
    simp only [Array.length_toList] at hle
    rw [Nat.sub_eq_zero_of_le hle]
    simp only [opersA, Option.some.injEq, Prod.mk.injEq] at h
    obtain ⟨rfl, rfl⟩ := h
    exact ⟨rfl, rfl, rfl⟩
  | o :: os, i, s, hd, h, hs => by
    have ho : ops[i]? = some o := by
      have : (ops.toList.drop i)[0]? = some o := by rw [hd]; rfl
      rw [List.getElem?_drop] at this
      simpa using this
    have hlt := lt_of_get ho
    have hd' : ops.toList.drop (i + 1) = os := by
      have : (ops.toList.drop i).drop 1 = os := by rw [hd]; rfl
      rw [List.drop_drop] at this
      exact this
    have hr : List.range' i (ops.size - i) = i :: List.range' (i + 1) (ops.size - (i + 1)) := by
      have : ops.size - i = (ops.size - (i + 1)) + 1 := by omega
      rw [this, List.range'_succ]
    rw [hr]
    unfold opersA operGA at h
    unfold OpersOk
    simp only [ho, show s.den.t = s.t from rfl]
    cases hw : wantedA ops s.t o with
    | none => simp only [hw] at h; cases h
    | some r =>
      simp only [hw] at h
      cases r with
      | false =>
        simp only at h ⊢
        obtain ⟨p1, p2⟩ := ES.den_put s o.dst (.tup []) hs
        obtain ⟨k1, k2⟩ := opersA_sound hi os (i + 1) _ hd' h (by rw [p2]; exact hs)
        rw [p1] at k2
        exact ⟨k1.trans p2, k2⟩
      | true =>
        simp only at h ⊢
        cases hq : operA P ih rd o s with
        | none => rw [hq] at h; cases h
        | some x =>
          obtain ⟨e1, s1⟩ := x
          obtain ⟨k1, k2⟩ := operA_sound hi hq hs
          rw [hq] at h
          cases e1 with
          | normal =>
            simp only at h
            obtain ⟨k3, k4⟩ := opersA_sound hi os (i + 1) s1 hd' h (by rw [k1]; exact hs)
            refine ⟨k3.trans k1, k2.mono ?_⟩
            rintro e2 σ2 ⟨rfl, rfl⟩
            exact k4
          | exit id =>
            simp only [Option.some.injEq, Prod.mk.injEq] at h
            obtain ⟨rfl, rfl⟩ := h
            refine ⟨k1, k2.mono ?_⟩
            rintro e2 σ2 ⟨rfl, rfl⟩
            exact ⟨rfl, rfl⟩
          | ret =>
            simp only [Option.some.injEq, Prod.mk.injEq] at h
            obtain ⟨rfl, rfl⟩ := h
            refine ⟨k1, k2.mono ?_⟩
            rintro e2 σ2 ⟨rfl, rfl⟩
            exact ⟨rfl, rfl⟩
          | panic v =>
            simp only [Option.some.injEq, Prod.mk.injEq] at h
            obtain ⟨rfl, rfl⟩ := h
            refine ⟨k1, k2.mono ?_⟩
            rintro e2 σ2 ⟨rfl, rfl⟩
            exact ⟨rfl, rfl⟩

theorem stepCode_sound (hP : Fit P) (hK : KOk P K) (hi : RecOk P ih) {c : Code} {s s' : ES} {e : AExit} (h : stepCode P K ih rd c s = some (e, s')) (hs : s.nt < 2 ^ 23) :
    s'.nt = s.nt ∧ CodeOk P rd c s.den fun e1 σ1 => e1 = e ∧ σ1 = s'.den := by
  unfold stepCode at h
  split at h
  · cases h; exact ⟨rfl, CodeOk.skip ⟨rfl, rfl⟩⟩
  · cases h; exact ⟨rfl, CodeOk.ret ⟨rfl, rfl⟩⟩
  · cases h; exact ⟨rfl, CodeOk.exit ⟨rfl, rfl⟩⟩
  · rename_i x y
    split at h
    · rename_i s1 h1
      obtain ⟨k1, k2⟩ := hi.code _ _ _ _ _ h1 hs
      obtain ⟨k3, k4⟩ := hi.code _ _ _ _ _ h (by rw [k1]; exact hs)
      refine ⟨k3.trans k1, CodeOk.seq (k2.mono ?_)⟩
      rintro e1 σ1 ⟨rfl, rfl⟩
      exact k4
    · rename_i hne
      obtain ⟨k1, k2⟩ := hi.code _ _ _ _ _ h hs
      refine ⟨k1, CodeOk.seq (k2.mono ?_)⟩
      rintro e1 σ1 ⟨rfl, rfl⟩
      cases e1 with
      | normal => exact absurd h (hne s')
      | _ => exact ⟨rfl, rfl⟩
  · rename_i c x y
    split at h
    · rename_i hc
      obtain ⟨k1, k2⟩ := hi.code _ _ _ _ _ h hs
      exact ⟨k1, CodeOk.cond (t := true) hc k2⟩
    · rename_i hc
      obtain ⟨k1, k2⟩ := hi.code _ _ _ _ _ h hs
      exact ⟨k1, CodeOk.cond (t := false) hc k2⟩
    · cases h
  · rename_i id c
    split at h
    · rename_i id' s1 h1
      obtain ⟨k1, k2⟩ := hi.code _ _ _ _ _ h1 hs
      split at h
      · rename_i he
        cases h
        refine ⟨k1, CodeOk.block (k2.mono ?_)⟩
        rintro e1 σ1 ⟨rfl, rfl⟩
        show (if id' = id then _ else _)
        rw [if_pos he]
        exact ⟨rfl, rfl⟩
      · rename_i he
        cases h
        refine ⟨k1, CodeOk.block (k2.mono ?_)⟩
        rintro e1 σ1 ⟨rfl, rfl⟩
        show (if id' = id then _ else _)
        rw [if_neg he]
        exact ⟨rfl, rfl⟩
    · rename_i hne
      obtain ⟨k1, k2⟩ := hi.code _ _ _ _ _ h hs
      refine ⟨k1, CodeOk.block (k2.mono ?_)⟩
      rintro e1 σ1 ⟨rfl, rfl⟩
      cases e1 with
      | exit id' => exact absurd h (hne id' s')
      | _ => exact ⟨rfl, rfl⟩
  · rename_i c
    split at h
    · rename_i s1 h1
      obtain ⟨k1, k2⟩ := hi.code _ _ _ _ _ h1 hs
      obtain ⟨k3, k4⟩ := hi.code _ _ _ _ _ h (by rw [k1]; exact hs)
      refine ⟨k3.trans k1, CodeOk.loop (LoopOk.round (k2.mono ?_))⟩
      rintro e1 σ1 ⟨rfl, rfl⟩
      exact LoopOk.of_loop k4
    · rename_i hne
      obtain ⟨k1, k2⟩ := hi.code _ _ _ _ _ h hs
      refine ⟨k1, CodeOk.loop (LoopOk.round (k2.mono ?_))⟩
      rintro e1 σ1 ⟨rfl, rfl⟩
      cases e1 with
      | normal => exact absurd h (hne s')
      | _ => exact ⟨rfl, rfl⟩
  · exact drawA_sound hP (fun _ => hK) hP.mixed hi h hs
  · rename_i id ops
    obtain ⟨k1, k2⟩ := opersA_sound hi ops.toList 0 s (by simp) h hs
    refine ⟨k1, CodeOk.region hP ?_⟩
    rw [List.range_eq_range']
    exact k2
  · rename_i g ps assign body
    split at h
    · cases h
    · rename_i hrd
      have hrd' : rd = false := by simpa using hrd
      subst hrd'
      simp only at h
      split at h
      · cases h
      · rename_i hp1 happ
        obtain ⟨a1, a2⟩ := HP.apply_some happ
        have ht : ({ s with d := .inr s.hp.n :: s.d, hp := hp1 } : ES).t = s.t := rfl
        rw [ht] at h
        cases hcall : callA P (opnd s.t g) [.yld (s.hp.n + 1)] with
        | none => rw [hcall] at h; cases h
        | some nx =>
          rw [hcall] at h
          cases nx with
          | enter f args =>
            simp only at h
            cases hq : ih.call f args hp1 with
            | none => rw [hq] at h; cases h
            | some r =>
              obtain ⟨r, hp2⟩ := r
              rw [hq] at h
              have hc := hi.call _ _ _ _ _ hq
              rw [a1, a2] at hc
              cases r with
              | pan v =>
                simp only [Option.some.injEq, Prod.mk.injEq] at h
                obtain ⟨rfl, rfl⟩ := h
                refine ⟨rfl, CodeOk.rangeFunc hP hcall fun F φ cargs w h1 h2 => (hc F φ cargs w h1 h2).mono ?_⟩
                rintro e1 w1 ⟨ae, F', φ', h', n', ⟨rfl, rfl, rfl⟩, rest⟩
                exact ⟨.pan v, F', φ', _, _, ⟨rfl, rfl⟩, rest⟩
              | ret v =>
                simp only at h
                split at h
                · rename_i st pending nt t params assign' body' df hl
                  split at h
                  · cases h
                  · rename_i hbusy
                    have hset0 := Tr.set_hset' hp2.tr none hl
                    have fin : ∀ (e1 : AExit) (x : Option Code), s' = { s with d := .inr s.hp.n :: s.d, hp := { hp2 with tr := hp2.tr.set (s.hp.n + 1) none } } → e1 = e → pending = x →
                        (∀ σ2 : ASt, σ2 = s'.den → match x with | none => (AExit.normal = e ∧ σ2 = s'.den) | some .ret => (AExit.ret = e ∧ σ2 = s'.den) | some (.exit id) => (AExit.exit id = e ∧ σ2 = s'.den) | _ => False) →
                        s'.nt = s.nt ∧ CodeOk P false (.rangeFunc g ps assign body) s.den fun e1 σ1 => e1 = e ∧ σ1 = s'.den := by
                      intro e1 x hs' he hx hk
                      subst hx
                      refine ⟨by rw [hs'], CodeOk.rangeFunc hP hcall fun F φ cargs w h1 h2 => (hc F φ cargs w h1 h2).mono ?_⟩
                      rintro e1 w1 ⟨ae, F', φ', h', n', ⟨rfl, rfl, rfl⟩, rest⟩
                      refine ⟨.ret v, F', φ', _, _, ⟨st, pending, nt, t, params, assign', body', df, hl, hbusy, ?_⟩, rest⟩
                      have hk' := hk _ rfl
                      have hden : s'.den = { s.den with d := .inr s.den.n :: s.den.d, h := hset hp2.tr.get (s.den.n + 1) none, n := hp2.n } := by
                        rw [hs']
                        simp only [ES.den]
                        rw [Tr.set_hset' hp2.tr none hl]
                        rfl
                      cases pending with
                      | none => exact ⟨hk'.1, hden.symm⟩
                      | some c =>
                        cases c with
                        | ret => exact ⟨hk'.1, hden.symm⟩
                        | exit id => exact ⟨hk'.1, hden.symm⟩
                        | _ => exact hk'.elim
                    split at h
                    · cases h; exact fin _ none rfl rfl rfl (fun σ2 h2 => ⟨rfl, h2⟩)
                    · cases h; exact fin _ (some .ret) rfl rfl rfl (fun σ2 h2 => ⟨rfl, h2⟩)
                    · rename_i id
                      cases h; exact fin _ (some (.exit id)) rfl rfl rfl (fun σ2 h2 => ⟨rfl, h2⟩)
                    · cases h
                · cases h
          | _ => cases h
  · cases h

theorem startES_fold : ∀ (l : List AV) (k : Nat) (o : Tr AV) (j : Nat), k + l.length < 2 ^ 24 → ((l.zipIdx k).foldl (fun o (a, i) => o.set i (some a)) o).get j = if k ≤ j ∧ j < k + l.length then l[j - k]? else o.get j
  | [], k, o, j, _ => by
    simp only [List.zipIdx_nil, List.foldl_nil, List.length_nil]
    rw [if_neg (by omega)]
  | x :: l, k, o, j, h => by
    simp only [List.length_cons] at h
    rw [List.zipIdx_cons, List.foldl_cons, startES_fold l (k + 1) _ j (by omega), Tr.get_set _ _ _ (by omega)]
    simp only [List.length_cons]
    by_cases h1 : k + 1 ≤ j ∧ j < k + 1 + l.length
    · rw [if_pos h1, if_pos (by omega)]
      have : j - k = (j - (k + 1)) + 1 := by omega
      rw [this, List.getElem?_cons_succ]
    · rw [if_neg h1]
      by_cases h2 : j = k
      · subst h2
        simp
      · rw [if_neg h2, if_neg (by omega)]

theorem startES_den {args : List AV} {ntmps : Nat} {hp : HP} {u : Option AMode} (hn : args.length + (ntmps - args.length) < 2 ^ 23) : (startES args ntmps hp u).den = startσ args ntmps hp.tr.get hp.n u := by
  unfold startES startσ ES.den
  simp only [ASt.mk.injEq, and_true, true_and]
  funext j
  simp only [ES.t]
  rw [startES_fold args 0 .leaf j (by omega)]
  by_cases hj : j < args.length
  · rw [if_pos (by omega)]; rfl
  · rw [if_neg (by omega), List.getElem?_eq_none (by omega)]
    simp [Tr.get, Tr.getD_leaf]

theorem settle_eq (m : AMode) : settle' m = settleA m := by
  cases m with
  | ret => rfl
  | pan v r => cases r <;> rfl

theorem leaveA_sound (hP : Fit P) (hi : RecOk P ih) {fn : Func} {t : Nat → AV} {Q : AEnd → (Nat → Option ABlk) → Nat → Prop} {m' : AMode} {hp' : HP}
    (hq : match m' with | .ret => ∃ v, resultsA P hp'.tr.get t fn.results.toList = some v ∧ Q (.ret v) hp'.tr.get hp'.n | .pan v false => Q (.pan v) hp'.tr.get hp'.n | .pan _ true => False) :
    ∀ (ds : List (ADef ⊕ Nat)) (m : AMode) (hp : HP), leaveA P ih ds m hp = some (m', hp') → LeaveOk P fn t Q ds m hp.tr.get hp.n
  | [], m, hp, h => by
    simp only [leaveA, Option.some.injEq, Prod.mk.injEq] at h
    obtain ⟨rfl, rfl⟩ := h
    cases m with
    | ret => exact hq
    | pan v r => cases r <;> exact hq
  | .inr b :: ds, m, hp, h => by
    unfold leaveA at h
    split at h
    · rename_i hb
      have := leaveA_sound hP hi hq ds m _ h
      refine ⟨hb, ?_⟩
      rw [← Tr.set_hset' _ _ hb]
      exact this
    · cases h
  | .inl d :: ds, m, hp, h => by
    unfold leaveA at h
    split at h
    · rename_i f args hcall
      split at h
      · rename_i g hf
        split at h
        · rename_i c hb
          refine ⟨f, args, hcall, DefCallOk.of_body hf hb ?_⟩
          have key : ∀ e s, (if args.length + (g.ntmps - args.length) < 2 ^ 23 then ih.code false c (startES args g.ntmps hp (some m)) else none) = some (e, s) → (e = .normal ∨ e = .ret) →
              (match s.d, s.u, resultsA P s.hp.tr.get s.t g.results.toList with | [], some m', some _ => leaveA P ih ds (settleA m') s.hp | _, _, _ => none) = some (m', hp') →
              CodeOk P false c (startσ args g.ntmps hp.tr.get hp.n (some m)) (fun e σ => (e = .normal ∨ e = .ret) ∧ σ.d = [] ∧ (∃ v, resultsA P σ.h σ.t g.results.toList = some v) ∧ ∃ m', σ.u = some m' ∧ LeaveOk P fn t Q ds (settle' m') σ.h σ.n) := by
            intro e s h1 he h2
            split at h1
            · rename_i hn
              obtain ⟨k1, k2⟩ := hi.code _ _ _ _ _ h1 hn
              rw [startES_den hn] at k2
              refine k2.mono ?_
              rintro e1 σ1 ⟨rfl, rfl⟩
              split at h2
              · rename_i m2 v hd hu hv
                refine ⟨he, hd, ⟨v, hv⟩, m2, hu, ?_⟩
                rw [settle_eq]
                exact leaveA_sound hP hi hq ds _ _ h2
              · cases h2
            · cases h1
          split at h
          · rename_i s h1
            exact key _ s h1 (.inl rfl) h
          · rename_i s h1
            exact key _ s h1 (.inr rfl) h
          · cases h
        · cases h
      · cases h
    · cases h

theorem stepCall_sound (hP : Fit P) (hi : RecOk P ih) {f : FuncId} {args : List AV} {hp hp' : HP} {e : AEnd} (h : stepCall P ih f args hp = some (e, hp')) :
    CallOk P f args hp.tr.get hp.n fun e1 h1 n1 => e1 = e ∧ h1 = hp'.tr.get ∧ n1 = hp'.n := by
  unfold stepCall at h
  split at h
  · rename_i fn hf
    split at h
    · rename_i c hb
      split at h
      · rename_i e1 s1 h1
        split at h1
        · rename_i hn
          obtain ⟨k1, k2⟩ := hi.code _ _ _ _ _ h1 hn
          rw [startES_den hn] at k2
          refine CallOk.of_body hP hf hb (k2.mono ?_)
          rintro e2 σ2 ⟨rfl, rfl⟩
          have key : ∀ m, (match leaveA P ih s1.d m s1.hp with | some (.ret, h) => (resultsA P h.tr.get s1.t fn.results.toList).map fun v => (AEnd.ret v, h) | some (.pan v false, h) => some (.pan v, h) | _ => none) = some (e, hp') →
              LeaveOk P fn s1.t (fun e1 h1 n1 => e1 = e ∧ h1 = hp'.tr.get ∧ n1 = hp'.n) s1.d m s1.hp.tr.get s1.hp.n := by
            intro m hm
            split at hm
            · rename_i hp2 hl
              cases hr : resultsA P hp2.tr.get s1.t fn.results.toList with
              | none => rw [hr] at hm; cases hm
              | some v =>
                rw [hr] at hm
                simp only [Option.map_some, Option.some.injEq, Prod.mk.injEq] at hm
                obtain ⟨rfl, rfl⟩ := hm
                exact leaveA_sound hP hi (m' := .ret) ⟨v, hr, rfl, rfl, rfl⟩ _ _ _ hl
            · rename_i v hp2 hl
              cases hm
              exact leaveA_sound hP hi (m' := .pan v false) ⟨rfl, rfl, rfl⟩ _ _ _ hl
            · cases hm
          cases e2 with
          | normal => exact key .ret h
          | ret => exact key .ret h
          | panic v => exact key (.pan v false) h
          | exit id => cases h
        · cases h1
      · cases h
    · cases h
  · cases h

theorem stepRec_ok (hP : Fit P) (hK : KOk P K) (hi : RecOk P ih) : RecOk P (stepRec P K ih) :=
  ⟨fun _ _ _ _ _ h hs => stepCode_sound hP hK hi h hs, fun _ _ _ _ _ h => stepCall_sound hP hi h⟩

theorem overK_ok (hK : KOk P K) (hi : RecOk P ih) : RecOk P (overK K ih) := by
  refine ⟨hi.code, fun f args hp e hp' h => ?_⟩
  simp only [overK] at h
  cases hk : K f args with
  | none => rw [hk] at h; exact hi.call _ _ _ _ _ h
  | some ae =>
    rw [hk] at h
    simp only [Option.some.injEq, Prod.mk.injEq] at h
    obtain ⟨rfl, rfl⟩ := h
    obtain ⟨k1, k2, k3⟩ := hK f args _ hk
    exact k1.at k2 k3 _ _

theorem noK_ok : KOk P noK := fun _ _ _ h => (by cases h)

/-- What the evaluator says of the program's code is so. -/
theorem evRec_ok (hP : Fit P) (hK : KOk P K) : ∀ k, RecOk P (evRec P K k)
  | 0 => overK_ok hK ⟨fun _ _ _ _ _ h => (by cases h), fun _ _ _ _ _ h => (by cases h)⟩
  | k + 1 => overK_ok hK (stepRec_ok hP hK (evRec_ok hP hK k))
end
end Go.Ab
