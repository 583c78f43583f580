/- What the tree tells is so: regions that draw their order, and code. -/
import Derived.Test.YtgcecmiboiomhaaGreatAbA7
namespace Go.Ab
open Go

section
variable {P : Program} {n0 : Nat} {rd : Bool} {Q : AExit → ES → Prop}

theorem satGo_congr {K K' : KTabs} {ops : Array Oper} {m0 : Nat} : ∀ (l : List ((Oper × Nat) × Nat)) (ds : DS), (∀ x ∈ l, K x.2 = K' x.2) → satGo P K ops m0 l ds = satGo P K' ops m0 l ds
  | [], _, _ => rfl
  | ((o, m), i) :: l, ds, h => by
    unfold satGo
    have : addOp P K ops m0 ds i o m = addOp P K' ops m0 ds i o m := by
      unfold addOp
      rw [show K i = K' i from h _ (List.mem_cons_self ..)]
    rw [this]
    split
    · exact satGo_congr l _ fun x hx => h x (List.mem_cons_of_mem _ hx)
    · rfl

theorem done_step (i : Nat) : (2 ^ i - 1) ||| (1 <<< i) = 2 ^ (i + 1) - 1 := by
  apply Nat.eq_of_testBit_eq
  intro j
  rw [madd_bit, Nat.testBit_two_pow_sub_one, Nat.testBit_two_pow_sub_one]
  by_cases h1 : j < i
  · simp [h1, Nat.lt_succ_of_lt h1]
  · by_cases h2 : i = j
    · subst h2; simp
    · have : ¬ j < i + 1 := by omega
      simp [h1, h2, this]

open Classical in
theorem evPure_sound {ops : Array Oper} {m0 : Nat} {k : AExit → Nat → ES → T} : ∀ (os : List Oper) (ms : List Nat) (i kn : Nat) (ds : DS), os.length = ms.length → (∀ x ∈ ms.zipIdx i, msub x.1 (2 ^ x.2 - 1) = true) → ds.done = 2 ^ i - 1 →
    (evPure P ops m0 i os kn ds.s k).Holds P n0 rd Q →
    ∃ K ds' kn', KsOk P K ∧ satGo P K ops m0 ((os.zip ms).zipIdx i) ds = some ds' ∧ ds'.done = 2 ^ (i + os.length) - 1 ∧ (k .normal kn' ds'.s).Holds P n0 rd Q
  | [], ms, i, kn, ds, hl, hm, hd, h => ⟨fun _ _ _ => none, ds, kn, fun _ _ _ _ h => (by cases h), rfl, hd, h⟩
  | o :: os, [], i, kn, ds, hl, hm, hd, h => by simp at hl
  | o :: os, m :: ms, i, kn, ds, hl, hm, hd, h => by
    unfold evPure at h
    obtain ⟨r, kn', hw, h⟩ := evGuard_sound h
    have hl' : os.length = ms.length := by simpa using hl
    have hm' : ∀ x ∈ ms.zipIdx (i + 1), msub x.1 (2 ^ x.2 - 1) = true := fun x hx => hm x (by rw [List.zipIdx_cons]; exact List.mem_cons_of_mem _ hx)
    have hsub : msub m ds.done = true := by rw [hd]; exact hm (m, i) (by rw [List.zipIdx_cons]; exact List.mem_cons_self ..)
    have hnd : ds.done.testBit i = false := by rw [hd, Nat.testBit_two_pow_sub_one]; simp
    have hif : ¬ ((ds.done.testBit i || !msub m ds.done) = true) := by rw [hnd, hsub]; simp
    -- one operation, then the others
    have go : ∀ (s' : ES) (al' kn2 : Nat) (c : FuncId → List AV → Option AEnd), KOk P c → (∀ K : KTabs, K i = c → addOp P K ops m0 ds i o m = some { s := s', done := ds.done ||| (1 <<< i), pend := ds.pend ||| (1 <<< i), al := al' }) →
        (evPure P ops m0 (i + 1) os kn2 s' k).Holds P n0 rd Q →
        ∃ K ds' kn', KsOk P K ∧ satGo P K ops m0 (((o :: os).zip (m :: ms)).zipIdx i) ds = some ds' ∧ ds'.done = 2 ^ (i + (o :: os).length) - 1 ∧ (k .normal kn' ds'.s).Holds P n0 rd Q := by
      intro s' al' kn2 c hc hadd h2
      obtain ⟨K, ds', kn3, k1, k2, k3, k4⟩ := evPure_sound os ms (i + 1) kn2 { s := s', done := ds.done ||| (1 <<< i), pend := ds.pend ||| (1 <<< i), al := al' } hl' hm' (by rw [hd]; exact done_step i) h2
      refine ⟨fun j => if j = i then c else K j, ds', kn3, fun j => ?_, ?_, ?_, k4⟩
      · by_cases hj : j = i
        · simp only [hj, if_true]; exact hc
        · simp only [hj, if_false]; exact k1 j
      · rw [List.zip_cons_cons, List.zipIdx_cons]
        unfold satGo
        rw [hadd _ (by simp)]
        rw [← k2]
        refine satGo_congr _ _ fun x hx => ?_
        have : x.2 ≠ i := by
          rw [List.mem_iff_getElem?] at hx
          obtain ⟨j, hj⟩ := hx
          rw [List.getElem?_zipIdx] at hj
          simp only [Option.map_eq_some_iff] at hj
          obtain ⟨y, _, rfl⟩ := hj
          simp only
          omega
        simp [this]
      · rw [k3, List.length_cons]
        congr 2
        omega
    have hno : KOk P (fun _ _ => none) := fun _ _ _ h => by cases h
    cases r with
    | false =>
      refine go (ds.s.put o.dst (.tup [])) ds.al _ _ hno (fun K _ => ?_) h
      unfold addOp
      rw [if_neg hif]
      simp only [hw]
    | true =>
      simp only at h
      split at h
      · rename_i hkind
        have hval : ∀ v, aop P ds.s.hp.tr.get 0 (opnd ds.s.t) o = some (.val v [] 0) ∨ (∃ us n, aop P ds.s.hp.tr.get 0 (opnd ds.s.t) o = some (.val v us n)) → ∀ K : KTabs, addOp P K ops m0 ds i o m = some { s := ds.s.put o.dst v, done := ds.done ||| (1 <<< i), pend := ds.pend ||| (1 <<< i), al := ds.al } := by
          intro v hv K
          unfold addOp
          rw [if_neg hif]
          simp only [hw, hkind]
          rcases hv with hv | ⟨us, n, hv⟩
          · rw [hv]
          · rw [hv]
        rcases evSpec_sound h with ⟨v, kn2, ha, h2⟩ | h2
        · exact go _ _ _ _ hno (fun K _ => hval v (.inl (ha 0)) K) h2
        · split at h2
          · rename_i v us n ha
            exact go _ _ _ _ hno (fun K _ => hval v (.inr ⟨us, n, ha⟩) K) h2
          · exact h2.elim
      · rename_i hkind
        split at h
        · rename_i v b x us n ha
          refine go ({ ds.s with hp := { ds.s.hp with tr := ds.s.hp.tr.set (m0 + i) (some x) } }.put o.dst v) (ds.al ||| (1 <<< i)) _ _ hno (fun K _ => ?_) h
          unfold addOp
          rw [if_neg hif]
          simp only [hw, hkind, ha]
        · exact h.elim
      · rename_i hkind
        split at h
        · rename_i hcall
          split at h
          · rename_i f args ha
            obtain ⟨v, ⟨c1, c2, c3⟩, h2⟩ := h
            refine go (ds.s.put o.dst v) ds.al _ (fun f' args' => if f' = f ∧ args' = args then some (.ret v) else none) ?_ (fun K hK => ?_) h2
            · intro f' args' ae hq
              simp only at hq
              split at hq
              · rename_i he
                obtain ⟨rfl, rfl⟩ := he
                cases hq
                exact ⟨c1, c2, c3⟩
              · cases hq
            · unfold addOp
              rw [if_neg hif]
              simp only [hw, hkind, hcall, Bool.not_true, Bool.false_eq_true, if_false, ha, hK, and_self, if_true]
          · exact h.elim
        · exact h.elim
      · exact h.elim

theorem masksGo_length : ∀ (os : List Oper) (acc : List Nat), (masksGo os acc).length = acc.length + os.length
  | [], acc => rfl
  | o :: os, acc => by
    unfold masksGo
    rw [masksGo_length os, List.length_append, List.length_cons, List.length_cons, List.length_nil]
    omega

theorem evCode_sound (hP : Fit P) {asks : Nat → Nat → Bool} {nt : Nat} (hn : nt < 2 ^ 23) : ∀ (c : Code) (kn : Nat) (s : ES) (k : AExit → Nat → ES → T), s.nt = nt → (evCode P rd asks c kn s k).Holds P n0 rd Q →
    CodeW P n0 rd c s.den fun e σ => ∃ kn' s', σ = s'.den ∧ s'.nt = nt ∧ (k e kn' s').Holds P n0 rd Q
  | .skip, kn, s, k, hs, h => (CodeOk.skip ⟨kn, s, rfl, hs, h⟩).weak
  | .ret, kn, s, k, hs, h => (CodeOk.ret ⟨kn, s, rfl, hs, h⟩).weak
  | .exit id, kn, s, k, hs, h => (CodeOk.exit ⟨kn, s, rfl, hs, h⟩).weak
  | .seq a b, kn, s, k, hs, h => by
    unfold evCode at h
    refine CodeW.seq ((evCode_sound hP hn a kn s _ hs h).mono ?_)
    rintro e σ ⟨kn1, s1, rfl, h1, h2⟩
    cases e with
    | normal => exact evCode_sound hP hn b kn1 s1 k h1 h2
    | exit id => exact ⟨kn1, s1, rfl, h1, h2⟩
    | ret => exact ⟨kn1, s1, rfl, h1, h2⟩
    | panic v => exact ⟨kn1, s1, rfl, h1, h2⟩
  | .cond c a b, kn, s, k, hs, h => by
    unfold evCode at h
    obtain ⟨r, kn1, hc, h1⟩ := evCond_sound h
    refine CodeW.cond hc ?_
    cases r with
    | true => exact evCode_sound hP hn a kn1 s k hs h1
    | false => exact evCode_sound hP hn b kn1 s k hs h1
  | .block id c, kn, s, k, hs, h => by
    unfold evCode at h
    refine CodeW.block ((evCode_sound hP hn c kn s _ hs h).mono ?_)
    rintro e σ ⟨kn1, s1, rfl, h1, h2⟩
    cases e with
    | normal => exact ⟨kn1, s1, rfl, h1, h2⟩
    | exit id' =>
      simp only at h2 ⊢
      split at h2
      · rename_i he; rw [if_pos he]; exact ⟨kn1, s1, rfl, h1, h2⟩
      · rename_i he; rw [if_neg he]; exact ⟨kn1, s1, rfl, h1, h2⟩
    | ret => exact ⟨kn1, s1, rfl, h1, h2⟩
    | panic v => exact ⟨kn1, s1, rfl, h1, h2⟩
  | .loop c, kn, s, k, hs, h => by
    unfold evCode at h
    refine CodeW.loop (ItemsW.mono h ?_)
    rintro e σ ⟨s1, rfl, h1, h2⟩
    exact ⟨0, s1, rfl, h1.trans hs, h2⟩
  | .region id ops false, kn, s, k, hs, h => by
    unfold evCode at h
    refine (CodeOk.region hP ?_).weak
    rw [List.range_eq_range']
    exact evOps_sound (nt := nt) (R := fun e σ => ∃ kn' s', σ = s'.den ∧ s'.nt = nt ∧ (k e kn' s').Holds P n0 rd Q) (fun e kn' s' h1 h2 => ⟨kn', s', rfl, h1, h2⟩) ops.toList 0 kn s hs rfl h hn
  | .region id ops true, kn, s, k, hs, h => by
    unfold evCode at h
    split at h
    · rename_i hc
      simp only [Bool.and_eq_true, decide_eq_true_eq] at hc
      obtain ⟨⟨⟨h1, h2⟩, h3⟩, h4⟩ := hc
      have hlen : (masks ops).length = ops.toList.length := by unfold masks; rw [masksGo_length]; simp
      obtain ⟨K, ds', kn', k1, k2, k3, k4⟩ := evPure_sound ops.toList (masks ops) 0 kn { s := { s with hp := { s.hp with n := s.hp.n + ops.size } }, done := 0, pend := 0, al := 0 } hlen.symm
        (fun x hx => List.all_eq_true.1 h2 x hx) rfl h
      have hdraw : drawA P K ⟨fun _ _ _ => none, fun _ _ _ => none⟩ rd ops s = some (.normal, ds'.s) := by
        unfold drawA
        simp only
        rw [if_pos (by simp only [Bool.and_eq_true, decide_eq_true_eq]; exact ⟨⟨h1, h3⟩, h4⟩)]
        unfold runD
        rw [show tri ops (masks ops) = (ops.toList.zip (masks ops)).zipIdx 0 from rfl, k2]
        simp only
        unfold afterSat
        have : firstUndone ds'.done ((ops.toList.zip (masks ops)).zipIdx 0) = none := by
          unfold firstUndone
          rw [List.find?_eq_none]
          intro x hx
          obtain ⟨y1, y2⟩ := tri_mem (o := x.1.1) (m := x.1.2) (i := x.2) (ops := ops) (ms := masks ops) hx
          have := lt_of_get y1
          rw [k3, Nat.testBit_two_pow_sub_one]
          simp [this]
        rw [this]
      have hrec : RecOk P ⟨fun _ _ _ => none, fun _ _ _ => none⟩ := ⟨fun _ _ _ _ _ h => (by cases h), fun _ _ _ _ _ h => (by cases h)⟩
      obtain ⟨j1, j2⟩ := drawA_sound hP k1 hP.mixed hrec (id := id) hdraw (by rw [hs]; exact hn)
      refine (j2.mono ?_).weak
      rintro e σ ⟨rfl, rfl⟩
      exact ⟨kn', ds'.s, rfl, j1.trans hs, k4⟩
    · exact h.elim
  | .rangeFunc g ps as bd, kn, s, k, hs, h => h.elim
  | .scope _, kn, s, k, hs, h => h.elim
  | .label _, kn, s, k, hs, h => h.elim
  | .goto _, kn, s, k, hs, h => h.elim

/-- What the tree of a piece of code tells is so. -/
theorem tree_sound (hP : Fit P) {asks : Nat → Nat → Bool} {c : Code} {s : ES} (hn : s.nt < 2 ^ 23) (h : (tree P rd asks c s).Holds P n0 rd Q) : CodeW P n0 rd c s.den fun e σ => ∃ s', σ = s'.den ∧ s'.nt = s.nt ∧ Q e s' :=
  (evCode_sound hP hn c 0 s _ rfl h).mono fun _ _ ⟨_, s', h1, h2, h3⟩ => ⟨s', h1, h2, h3⟩
end
end Go.Ab

/- Calls, by the trees of their bodies; and what is told of a state, set down anew. -/
namespace Go.Ab
open Go

def theFn (P : Program) (f : FuncId) : Func := (P.funcs[f]?).getD default
def theCode (P : Program) (f : FuncId) : Code := (theFn P f).body.getD .skip

/-- How an activation ends. -/
def endA (P : Program) (fn : Func) (e : AExit) (s : ES) : Option (AEnd × HP) :=
  match (match e with
    | .normal | .ret => some AMode.ret
    | .panic v => some (.pan v false)
    | .exit _ => none) with
  | some m =>
    match leaveA P (evRec P noK 40) s.d m s.hp with
    | some (.ret, h) => (resultsA P h.tr.get s.t fn.results.toList).map fun v => (.ret v, h)
    | some (.pan v false, h) => some (.pan v, h)
    | _ => none
  | none => none

/-- The tree of a call. -/
def treeOf (P : Program) (asks : Nat → Nat → Bool) (f : FuncId) (args : List AV) (hp : HP) : T := tree P false asks (theCode P f) (startES args (theFn P f).ntmps hp none)

/-- An end of a call, with what is told of memory. -/
def EndR (P : Program) (fn : Func) (R : AEnd → HP → Prop) : AExit → ES → Prop := fun e s => ∃ ae hp', endA P fn e s = some (ae, hp') ∧ R ae hp'

section
variable {P : Program}

theorem CallOk.of_tree (hP : Fit P) {asks : Nat → Nat → Bool} {f : FuncId} {args : List AV} {hp : HP} {R : AEnd → HP → Prop} (hb : hasBody P f = true) (hn : args.length + ((theFn P f).ntmps - args.length) < 2 ^ 23)
    (h : (treeOf P asks f args hp).Fine P hp.n false (EndR P (theFn P f) R)) : CallOk P f args hp.tr.get hp.n fun e h' n' => ∃ hp', R e hp' ∧ h' = hp'.tr.get ∧ n' = hp'.n := by
  unfold hasBody at hb
  split at hb
  · rename_i fn hf
    cases hc : fn.body with
    | none => rw [hc] at hb; cases hb
    | some c =>
      have hfn : theFn P f = fn := by unfold theFn; rw [hf]; rfl
      have hcode : theCode P f = c := by unfold theCode; rw [hfn, hc]; rfl
      replace h := h.out
      unfold treeOf at h
      rw [hcode, hfn] at h
      rw [hfn] at hn
      have := tree_sound hP (s := startES args fn.ntmps hp none) hn h
      rw [startES_den hn] at this
      refine CallOk.of_bodyW hP hf hc (this.mono ?_)
      rintro e σ ⟨s1, rfl, _, ae, hp', h1, h2⟩
      have key : ∀ m, (match leaveA P (evRec P noK 40) s1.d m s1.hp with | some (.ret, h) => (resultsA P h.tr.get s1.t fn.results.toList).map fun v => (AEnd.ret v, h) | some (.pan v false, h) => some (.pan v, h) | _ => none) = some (ae, hp') →
          LeaveOk P fn s1.t (fun e h' n' => ∃ hp', R e hp' ∧ h' = hp'.tr.get ∧ n' = hp'.n) s1.d m s1.hp.tr.get s1.hp.n := by
        intro m hm
        split at hm
        · rename_i hp2 hl
          cases hr : resultsA P hp2.tr.get s1.t fn.results.toList with
          | none => rw [hr] at hm; cases hm
          | some v =>
            rw [hr] at hm
            simp only [Option.map_some, Option.some.injEq, Prod.mk.injEq] at hm
            obtain ⟨rfl, rfl⟩ := hm
            exact leaveA_sound hP (evRec_ok hP noK_ok 40) (m' := .ret) ⟨v, hr, _, h2, rfl, rfl⟩ _ _ _ hl
        · rename_i v hp2 hl
          cases hm
          exact leaveA_sound hP (evRec_ok hP noK_ok 40) (m' := .pan v false) ⟨_, h2, rfl, rfl⟩ _ _ _ hl
        · cases hm
      unfold endA at h1
      cases e with
      | normal => exact key .ret h1
      | ret => exact key .ret h1
      | panic v => exact key (.pan v false) h1
      | exit id => cases h1
  · cases hb

def hp0 : HP := ⟨.leaf, 0⟩

/-- An end of a call. -/
def EndIs (P : Program) (fn : Func) (ae : AEnd) : AExit → ES → Prop := fun e s => ∃ hp', endA P fn e s = some (ae, hp')

theorem T.at_end {t : T} {n0 : Nat} {rd : Bool} {fn : Func} {ae : AEnd} (v : AEnd) (h : t.tag = 0) (h1 : (endA P fn t.exit t.st).map Prod.fst = some v) (h2 : v = ae) : t.Fine P n0 rd (EndIs P fn ae) := by
  subst h2
  refine T.at_ok h ?_
  cases hq : endA P fn t.exit t.st with
  | none => rw [hq] at h1; cases h1
  | some x =>
    rw [hq] at h1
    simp only [Option.map_some, Option.some.injEq] at h1
    exact ⟨x.2, by rw [hq, ← h1]⟩

/-- The memory at a call's end. -/
def endHP (P : Program) (fn : Func) (t : T) : HP := ((endA P fn t.exit t.st).map Prod.snd).getD hp0

theorem T.at_endR {t : T} {n0 : Nat} {rd : Bool} {fn : Func} {R : AEnd → HP → Prop} (v : AEnd) (h : t.tag = 0) (h1 : (endA P fn t.exit t.st).map Prod.fst = some v) (h2 : R v (endHP P fn t)) : t.Fine P n0 rd (EndR P fn R) := by
  refine T.at_ok h ?_
  unfold endHP at h2
  cases hq : endA P fn t.exit t.st with
  | none => rw [hq] at h1; cases h1
  | some x =>
    rw [hq] at h1 h2
    simp only [Option.map_some, Option.some.injEq] at h1
    subst h1
    exact ⟨x.1, x.2, by rw [hq], h2⟩

theorem ClosedCall.of_tree (hP : Fit P) {asks : Nat → Nat → Bool} {f : FuncId} {args : List AV} {ae : AEnd} (hb : hasBody P f = true) (hn : decide (args.length + ((theFn P f).ntmps - args.length) < 2 ^ 23) = true) (hclo : ae.clo)
    (h : (treeOf P asks f args hp0).Fine P 0 false (EndIs P (theFn P f) ae)) : ClosedCall P f args ae := by
  have hleaf : hp0.tr.get = fun _ => none := by funext i; exact Tr.getD_leaf _ _
  refine ClosedCall.of_call hclo ?_
  have := CallOk.of_tree (asks := asks) (hp := hp0) hP (R := fun e _ => e = ae) hb (of_decide_eq_true hn) ⟨T.Holds.mono h.out fun e s ⟨hp', h⟩ => ⟨ae, hp', h, rfl⟩⟩
  rw [hleaf] at this
  exact this.mono fun e h n ⟨hp', h1, _⟩ => h1
end

/-! ### A state, set down anew -/
def trOf {α : Type} (l : List (Nat × α)) : Tr α := l.foldl (fun o x => o.set x.1 (some x.2)) .leaf

/-- The state that tells only of some temporaries and blocks. -/
def mkES (l : List (Nat × AV)) (hl : List (Nat × ABlk)) (m nt : Nat) (d : List (ADef ⊕ Nat)) : ES :=
  { ov := trOf l, base := fun _ => .any, nt := nt, d := d, hp := ⟨trOf hl, m⟩, u := none }

theorem trOf_get {α : Type} : ∀ (l : List (Nat × α)) (o : Tr α) (i : Nat) (v : α), (∀ x ∈ l, x.1 < 2 ^ 24) → (l.foldl (fun o x => o.set x.1 (some x.2)) o).get i = some v → (i, v) ∈ l ∨ o.get i = some v
  | [], o, i, v, _, h => .inr h
  | x :: l, o, i, v, hx, h => by
    rcases trOf_get l _ i v (fun y hy => hx y (List.mem_cons_of_mem _ hy)) h with h0 | h0
    · exact .inl (List.mem_cons_of_mem _ h0)
    · rw [Tr.get_set _ _ _ (hx x (List.mem_cons_self ..))] at h0
      split at h0
      · rename_i he
        cases h0
        rw [he]
        exact .inl (List.mem_cons_self ..)
      · exact .inr h0

def lowD (m : Nat) (d : List (ADef ⊕ Nat)) : Prop :=
  ∀ x ∈ d, ∃ a, x = .inl a ∧ (∃ g first captured, a.fv = .fn (.func g) first captured ∧ (∀ v ∈ first, Low m v) ∧ (∀ v ∈ captured, Low m v)) ∧ ∀ v ∈ a.args, Low m v

section
variable {P : Program} {rd : Bool} {n0 : Nat} {Q : AExit → ASt → Prop}

theorem ItemsW.anew {items : List Item} {s : ES} {l : List (Nat × AV)} {hl : List (Nat × ABlk)} {m nt : Nat} {d : List (ADef ⊕ Nat)} (h0 : n0 ≤ m) (h1 : m ≤ s.hp.n) (h2 : s.nt = nt) (h3 : s.d = d) (h4 : lowD m d) (h5 : s.u = none)
    (ht : ∀ x ∈ l, x.1 < 2 ^ 24 ∧ s.t x.1 = x.2 ∧ Low m x.2) (hh : ∀ x ∈ hl, x.1 < 2 ^ 24 ∧ x.1 < m ∧ s.hp.tr.get x.1 = some x.2 ∧ LowB m x.2)
    (h : ItemsW P n0 rd items (mkES l hl m nt d).den Q) : ItemsW P n0 rd items s.den Q := by
  refine ItemsW.low (σ2 := (mkES l hl m nt d).den) m h0 h1 rfl h2.symm h3.symm (by rw [show s.den.d = s.d from rfl, h3]; exact h4) h5 rfl (fun i => ?_) (fun b x hx => ?_) h
  · show ((mkES l hl m nt d).t i = .any) ∨ _
    simp only [ES.t, mkES]
    cases hq : (trOf l).get i with
    | none => exact .inl rfl
    | some v =>
      rcases trOf_get l .leaf i v (fun x hx => (ht x hx).1) hq with k | k
      · obtain ⟨_, k2, k3⟩ := ht _ k
        right
        refine ⟨?_, ?_⟩
        · show ((trOf l).get i).getD .any = s.t i
          rw [hq]
          exact k2.symm
        · show Low m (s.t i)
          rw [show s.t i = v from k2]
          exact k3
      · rw [show (Tr.leaf : Tr AV).get i = none from Tr.getD_leaf _ _] at k; cases k
  · rcases trOf_get hl .leaf b x (fun x hx => (hh x hx).1) hx with k | k
    · obtain ⟨_, k2, k3, k4⟩ := hh _ k
      exact ⟨k2, k3, k4⟩
    · rw [show (Tr.leaf : Tr ABlk).get b = none from Tr.getD_leaf _ _] at k; cases k

/-- What a state tells. -/
inductive Tell (m : Nat) (s : ES) : List (Nat × AV) → Prop
  | nil : Tell m s []
  | cons {i : Nat} {v : AV} {l : List (Nat × AV)} : decide (i < 2 ^ 24) = true → s.t i = v → Low m v → Tell m s l → Tell m s ((i, v) :: l)

inductive TellB (m : Nat) (s : ES) : List (Nat × ABlk) → Prop
  | nil : TellB m s []
  | cons {i : Nat} {v : ABlk} {l : List (Nat × ABlk)} : decide (i < 2 ^ 24 ∧ i < m) = true → s.hp.tr.get i = some v → LowB m v → TellB m s l → TellB m s ((i, v) :: l)

theorem Tell.all {m : Nat} {s : ES} {l : List (Nat × AV)} (h : Tell m s l) : ∀ x ∈ l, x.1 < 2 ^ 24 ∧ s.t x.1 = x.2 ∧ Low m x.2 := by
  induction h with
  | nil => intro x hx; cases hx
  | cons h1 h2 h3 _ ih =>
    intro x hx
    rcases List.mem_cons.1 hx with h0 | h0
    · subst h0; exact ⟨of_decide_eq_true h1, h2, h3⟩
    · exact ih x h0

theorem TellB.all {m : Nat} {s : ES} {l : List (Nat × ABlk)} (h : TellB m s l) : ∀ x ∈ l, x.1 < 2 ^ 24 ∧ x.1 < m ∧ s.hp.tr.get x.1 = some x.2 ∧ LowB m x.2 := by
  induction h with
  | nil => intro x hx; cases hx
  | cons h1 h2 h3 _ ih =>
    intro x hx
    rcases List.mem_cons.1 hx with h0 | h0
    · subst h0; exact ⟨(of_decide_eq_true h1).1, (of_decide_eq_true h1).2, h2, h3⟩
    · exact ih x h0

theorem lowD_nil {m : Nat} : lowD m [] := fun _ h => by cases h

theorem ItemsW.tell {items : List Item} {s : ES} {l : List (Nat × AV)} {hl : List (Nat × ABlk)} {m nt : Nat} {d : List (ADef ⊕ Nat)} (h1 : decide (n0 ≤ m ∧ m ≤ s.hp.n) = true) (h2 : s.nt = nt) (h3 : s.d = d) (h4 : lowD m d) (h5 : s.u = none)
    (ht : Tell m s l) (hh : TellB m s hl) (h : ItemsW P n0 rd items (mkES l hl m nt d).den Q) : ItemsW P n0 rd items s.den Q :=
  ItemsW.anew (of_decide_eq_true h1).1 (of_decide_eq_true h1).2 h2 h3 h4 h5 ht.all hh.all h

/-- Where a round may end. -/
def RoundQ (P : Program) (n0 : Nat) (rd : Bool) (c : Code) (s : ES) (R : AExit → ASt → Prop) : AExit → ES → Prop := fun e s' => match e with | .normal => LoopW P n0 rd c s'.den R | e => s'.nt = s.nt → R e s'.den

theorem T.on_out {t t0 : T} {Q : AExit → ES → Prop} {c : Code} {s : ES} (e : AExit) (h : t.tag = 0) (he : t.exit = e) (hne : (match e with | .normal => false | _ => true) = true) (hnt : s.nt = t0.st.nt) (h1 : (t0.out e t.st).Fine P n0 rd Q) :
    t.Fine P n0 rd (RoundQ P n0 rd c s (LoopTo P n0 rd Q t0)) := by
  refine T.on_ok e h he ?_
  cases e with
  | normal => cases hne
  | exit id => exact fun h2 => ⟨_, rfl, h2.trans hnt, h1⟩
  | ret => exact fun h2 => ⟨_, rfl, h2.trans hnt, h1⟩
  | panic v => exact fun h2 => ⟨_, rfl, h2.trans hnt, h1⟩

theorem T.on_next {t : T} {c : Code} {s : ES} {R : AExit → ASt → Prop} (h : t.tag = 0) (he : t.exit = .normal) (h1 : LoopW P n0 rd c t.st.den R) : t.Fine P n0 rd (RoundQ P n0 rd c s R) := T.on_ok .normal h he h1

/-- A round of a loop, by its tree. -/
theorem LoopW.tree (hP : Fit P) {asks : Nat → Nat → Bool} {c : Code} {s : ES} (hn : decide (s.nt < 2 ^ 23) = true)
    (h : (tree P rd asks c s).Fine P n0 rd (RoundQ P n0 rd c s Q)) : LoopW P n0 rd c s.den Q := by
  refine LoopW.round ((tree_sound hP (of_decide_eq_true hn) h.out).mono ?_)
  rintro e σ ⟨s', rfl, h1, h2⟩
  cases e with
  | normal => exact h2
  | exit id => exact h2 h1
  | ret => exact h2 h1
  | panic v => exact h2 h1
end
end Go.Ab

/- Calls beside other memory: what has been shown of a call with few blocks holds with these blocks anywhere. -/
namespace Go.Ab
open Go

def RenV (k : Nat) (ρ : Nat → Nat) (v0 v : AV) : Prop := ∀ (F : Terr) (φ φ0 : Phi) (c : Value), (∀ i, i < k → φ0 i = φ (ρ i)) → (VR F φ v c ↔ VR F φ0 v0 c)
def RenB (k : Nat) (ρ : Nat → Nat) (x0 x : ABlk) : Prop := ∀ (P : Program) (F : Terr) (φ φ0 : Phi) (w : World) (L : Loc), (∀ i, i < k → φ0 i = φ (ρ i)) → (BR P F φ w L x ↔ BR P F φ0 w L x0)

def RenL (k : Nat) (ρ : Nat → Nat) : List AV → List AV → Prop
  | [], [] => True
  | x :: xs, y :: ys => RenV k ρ x y ∧ RenL k ρ xs ys
  | _, _ => False

def RenE (k : Nat) (ρ : Nat → Nat) : AEnd → AEnd → Prop
  | .ret x, .ret y => RenV k ρ x y
  | .pan x, .pan y => RenV k ρ x y
  | _, _ => False

section
variable {k : Nat} {ρ : Nat → Nat}

theorem RenV.clo {v : AV} (h : Clo v) : RenV k ρ v v := fun _ _ _ _ _ => ⟨fun hv => h _ _ _ _ hv, fun hv => h _ _ _ _ hv⟩

theorem RenV.ptr {i r o : Nat} (hi : i < k) : RenV k ρ (.ptr i r o) (.ptr (ρ i) r o) := fun F φ φ0 c he => by
  constructor
  · intro h; cases h with
    | ptr h1 => exact .ptr (by rw [he i hi]; exact h1)
  · intro h; cases h with
    | ptr h1 => exact .ptr (by rw [← he i hi]; exact h1)

theorem RenV.sl {i s n : Nat} {c : Option Nat} (hi : i < k) : RenV k ρ (.sl i s n c) (.sl (ρ i) s n c) := fun F φ φ0 v he => by
  constructor
  · intro h; cases h with
    | sl h1 hn hc hr ht ha => exact .sl (by rw [he i hi]; exact h1) hn hc hr ht ha
  · intro h; cases h with
    | sl h1 hn hc hr ht ha => exact .sl (by rw [← he i hi]; exact h1) hn hc hr ht ha

theorem RenL.get : ∀ {xs ys : List AV}, RenL k ρ xs ys → xs.length = ys.length ∧ ∀ (i : Nat) (x y : AV), xs[i]? = some x → ys[i]? = some y → RenV k ρ x y
  | [], [], _ => ⟨rfl, fun i x y h => by simp at h⟩
  | x :: xs, y :: ys, h => by
    obtain ⟨h1, h2⟩ := RenL.get h.2
    refine ⟨by simp [h1], fun i a b ha hb => ?_⟩
    cases i with
    | zero => simp at ha hb; subst ha hb; exact h.1
    | succ i => exact h2 i a b (by simpa using ha) (by simpa using hb)
  | [], _ :: _, h => h.elim
  | _ :: _, [], h => h.elim

theorem RenL.clo : ∀ {xs : List AV}, (∀ x ∈ xs, Clo x) → RenL k ρ xs xs
  | [], _ => trivial
  | x :: xs, h => ⟨.clo (h x (List.mem_cons_self ..)), RenL.clo fun y hy => h y (List.mem_cons_of_mem _ hy)⟩

theorem RenL.vrl : ∀ {xs ys : List AV} {cs : List Value} {F : Terr} {φ φ0 : Phi}, RenL k ρ xs ys → (∀ i, i < k → φ0 i = φ (ρ i)) → (VRL F φ ys cs ↔ VRL F φ0 xs cs)
  | [], [], cs, _, _, _, _, _ => by cases cs <;> rfl
  | x :: xs, y :: ys, [], _, _, _, _, _ => Iff.rfl
  | x :: xs, y :: ys, c :: cs, F, φ, φ0, h, he => by
    have h1 := h.1 F φ φ0 c he
    have h2 := RenL.vrl (F := F) (φ := φ) (φ0 := φ0) (cs := cs) h.2 he
    exact ⟨fun h => ⟨h1.1 h.1, h2.1 h.2⟩, fun h => ⟨h1.2 h.1, h2.2 h.2⟩⟩
  | [], _ :: _, _, _, _, _, h, _ => h.elim
  | _ :: _, [], _, _, _, _, h, _ => h.elim

theorem RenV.agg {xs ys : List AV} (h : RenL k ρ xs ys) : RenV k ρ (.agg xs) (.agg ys) := fun F φ φ0 c he => by
  constructor
  · intro hv
    obtain ⟨vs, rfl, hl⟩ := hv.of_agg
    exact VR.mk_agg ((h.vrl he).1 hl)
  · intro hv
    obtain ⟨vs, rfl, hl⟩ := hv.of_agg
    exact VR.mk_agg ((h.vrl he).2 hl)

theorem RenV.tup {xs ys : List AV} (h : RenL k ρ xs ys) : RenV k ρ (.tup xs) (.tup ys) := fun F φ φ0 c he => by
  constructor
  · intro hv
    obtain ⟨vs, rfl, hl⟩ := hv.of_tup
    exact VR.mk_tup ((h.vrl he).1 hl)
  · intro hv
    obtain ⟨vs, rfl, hl⟩ := hv.of_tup
    exact VR.mk_tup ((h.vrl he).2 hl)

def RenLL (k : Nat) (ρ : Nat → Nat) : List (List AV) → List (List AV) → Prop
  | [], [] => True
  | x :: xs, y :: ys => RenL k ρ x y ∧ RenLL k ρ xs ys
  | _, _ => False

theorem RenLL.get : ∀ {xs ys : List (List AV)}, RenLL k ρ xs ys → xs.length = ys.length ∧ (∀ (i : Nat) (y : List AV), ys[i]? = some y → ∃ x, xs[i]? = some x ∧ RenL k ρ x y) ∧ ∀ (i : Nat) (x : List AV), xs[i]? = some x → ∃ y, ys[i]? = some y ∧ RenL k ρ x y
  | [], [], _ => ⟨rfl, fun i x h => by simp at h, fun i x h => by simp at h⟩
  | x :: xs, y :: ys, h => by
    obtain ⟨h1, h2, h3⟩ := RenLL.get h.2
    refine ⟨by simp [h1], fun i a ha => ?_, fun i a ha => ?_⟩
    · cases i with
      | zero => simp at ha; subst ha; exact ⟨x, rfl, h.1⟩
      | succ i => simpa using h2 i a (by simpa using ha)
    · cases i with
      | zero => simp at ha; subst ha; exact ⟨y, rfl, h.1⟩
      | succ i => simpa using h3 i a (by simpa using ha)
  | [], _ :: _, h => h.elim
  | _ :: _, [], h => h.elim

theorem RenLL.clo : ∀ {xs : List (List AV)}, (∀ r ∈ xs, ∀ x ∈ r, Clo x) → RenLL k ρ xs xs
  | [], _ => trivial
  | x :: xs, h => ⟨.clo (h x (List.mem_cons_self ..)), RenLL.clo fun y hy => h y (List.mem_cons_of_mem _ hy)⟩

theorem RenB.rows {t : TypeId} {xs ys : List (List AV)} (h : RenLL k ρ xs ys) : RenB k ρ (.rows t xs) (.rows t ys) := fun P F φ φ0 w L he => by
  obtain ⟨h1, h2, h3⟩ := h.get
  constructor
  · rintro ⟨cs, k1, k2, k3, k3', k4, k5⟩
    refine ⟨cs, k1, k2, by rw [h1]; exact k3, k3', k4, fun r row hr => ?_⟩
    obtain ⟨y, hy, hl⟩ := h3 r row hr
    exact (hl.vrl he).1 (k5 r y hy)
  · rintro ⟨cs, k1, k2, k3, k3', k4, k5⟩
    refine ⟨cs, k1, k2, by rw [← h1]; exact k3, k3', k4, fun r row hr => ?_⟩
    obtain ⟨y, hy, hl⟩ := h2 r row hr
    exact (hl.vrl he).2 (k5 r y hy)

theorem RenB.clo {t : TypeId} {xs : List (List AV)} (h : ∀ r ∈ xs, ∀ x ∈ r, Clo x) : RenB k ρ (.rows t xs) (.rows t xs) := .rows (.clo h)

theorem RenE.er {a b : AEnd} {e : Ending} {F : Terr} {φ φ0 : Phi} (h : RenE k ρ a b) (he : ∀ i, i < k → φ0 i = φ (ρ i)) (hv : ER F φ0 a e) : ER F φ b e := by
  cases a with
  | ret x =>
    cases b with
    | ret y => obtain ⟨vc, h1, h2⟩ := hv; exact ⟨vc, (h F φ φ0 vc he).2 h1, h2⟩
    | pan y => exact h.elim
  | pan x =>
    cases b with
    | pan y => obtain ⟨vc, h1, h2⟩ := hv; exact ⟨vc, (h F φ φ0 vc he).2 h1, h2⟩
    | ret y => exact h.elim
end

section
variable {P : Program}

theorem CallOk.frame {f : FuncId} {args0 args : List AV} {h0 h0' h h' : Nat → Option ABlk} {k k' n : Nat} {ae0 ae : AEnd} (ρ : Nat → Nat)
    (hc : CallOk P f args0 h0 k fun e h n => e = ae0 ∧ h = h0' ∧ n = k')
    (hρ : ∀ i, i < k → ρ i < n) (hρn : ∀ i, k ≤ i → ρ i = n + (i - k)) (hinj : ∀ i j, i < k → j < k → ρ i = ρ j → i = j)
    (hd : ∀ i x, h0 i = some x → i < k) (hh : ∀ i x0, h0 i = some x0 → ∃ x, h (ρ i) = some x ∧ RenB k ρ x0 x) (ha : RenL k ρ args0 args) (hae : RenE k' ρ ae0 ae)
    (hb : ∀ b x, h' b = some x → (∃ i x0, i < k' ∧ (k ≤ i ∨ h0 i ≠ none) ∧ ρ i = b ∧ h0' i = some x0 ∧ RenB k' ρ x0 x) ∨ (b < n ∧ h b = some x ∧ ∀ i, i < k → h0 i ≠ none → ρ i ≠ b)) :
    CallOk P f args h n fun e h'' n'' => e = ae ∧ h'' = h' ∧ n'' = n + (k' - k) := by
  intro F φ cargs w hr hv
  let φ0 : Phi := fun i => if i < k then φ (ρ i) else none
  have he0 : ∀ i, i < k → φ0 i = φ (ρ i) := fun i hi => by simp only [φ0, if_pos hi]
  have h0r : HR P F φ0 k h0 w := by
    refine ⟨hr.terr, fun b x hx => ?_, fun b b' x x' L L' g1 g2 g3 g4 g5 => ?_, fun b hb => by simp only [φ0]; rw [if_neg (by omega)], fun b L hL => ?_⟩
    · obtain ⟨y, hy, hren⟩ := hh b x hx
      obtain ⟨L, l1, l2, l3⟩ := hr.blk _ _ hy
      exact ⟨L, by rw [he0 b (hd b x hx)]; exact l1, l2, (hren P F φ φ0 w L he0).1 l3⟩
    · obtain ⟨y, hy, _⟩ := hh b x g1
      obtain ⟨y', hy', _⟩ := hh b' x' g2
      rw [he0 b (hd b x g1)] at g3
      rw [he0 b' (hd b' x' g2)] at g4
      exact hinj b b' (hd b x g1) (hd b' x' g2) (hr.inj _ _ _ _ _ _ hy hy' g3 g4 g5)
    · simp only [φ0] at hL
      split at hL
      · exact hr.below _ _ hL
      · cases hL
  refine (hc F φ0 cargs w h0r ((ha.vrl he0).1 hv)).mono ?_
  rintro e w' ⟨ae1, F', φ1, h1, n1, ⟨rfl, rfl, rfl⟩, e1, e2, e3, e4⟩
  let φ' : Phi := fun b => if b < n then φ b else φ1 (k + (b - n))
  have hold : ∀ i, i < k → φ1 i = φ0 i := by
    intro i hi
    cases g : φ0 i with
    | some L => exact e3.phi _ _ g
    | none =>
      cases g1 : φ1 i with
      | none => rfl
      | some L => rw [e3.newN i L g1 hi] at g; cases g
  have he1 : ∀ i, i < n1 → φ1 i = φ' (ρ i) := by
    intro i _
    by_cases h1 : i < k
    · simp only [φ', if_pos (hρ i h1)]
      rw [hold i h1, he0 i h1]
    · simp only [φ', hρn i (by omega)]
      rw [if_neg (by omega)]
      congr 1
      omega
  have hphi : ∀ b L, φ b = some L → φ' b = some L := by
    intro b L hL
    have : b < n := by
      by_cases g : b < n
      · exact g
      · rw [hr.fresh b (by omega)] at hL; cases hL
    simp only [φ', if_pos this, hL]
  -- a place that an old block of the call's own had
  have old : ∀ i x0, h0 i = some x0 → i < k ∧ ∃ L, φ (ρ i) = some L ∧ φ0 i = some L ∧ ∃ x, h (ρ i) = some x := by
    intro i x0 hx
    obtain ⟨y, hy, _⟩ := hh i x0 hx
    obtain ⟨L, l1, _, _⟩ := hr.blk _ _ hy
    exact ⟨hd i x0 hx, L, l1, by rw [he0 i (hd i x0 hx)]; exact l1, y, hy⟩
  refine ⟨ae, F', φ', h', n + (n1 - k), ⟨rfl, rfl, rfl⟩, hae.er he1 e1, ⟨e2.terr, fun b x hx => ?_, fun b b' x x' L L' g1 g2 g3 g4 g5 => ?_, fun b hb' => ?_, fun b L hL => ?_⟩,
    ⟨e3.terr, hphi, Nat.le_add_right _ _, e3.size, fun B hB hne => e3.keep B hB fun i x L g1 g2 => ?_, fun B hB => ?_, fun b L hL => ?_, fun b L hL hbn => ?_, e3.out⟩, fun b x hx hbn => ?_⟩
  · rcases hb b x hx with ⟨i, x0, i1, i2, rfl, i4, i5⟩ | ⟨b1, b2, b3⟩
    · obtain ⟨L, l1, l2, l3⟩ := e2.blk i x0 i4
      exact ⟨L, by rw [← he1 i i1]; exact l1, l2, (i5 P F' φ' φ1 w' L he1).2 l3⟩
    · obtain ⟨L, l1, l2, l3⟩ := hr.blk b x b2
      have hno : ∀ i x0 L0, h0 i = some x0 → φ0 i = some L0 → L0.B ≠ L.B := by
        intro i x0 L0 g1 g2 g3
        obtain ⟨o1, L1, o2, o3, y, o4⟩ := old i x0 g1
        rw [g2] at o3; cases o3
        exact b3 i o1 (by rw [g1]; simp) (hr.inj _ _ _ _ _ _ o4 b2 o2 l1 g3)
      refine ⟨L, hphi _ _ l1, ?_, ?_⟩
      · cases hF : F' L.B with
        | none => rfl
        | some o =>
          rcases e3.newF L.B (by rw [hF]; simp) with g | g | ⟨i, x0, L0, g1, g2, g3⟩
          · exact absurd l2 g
          · have := hr.below _ _ l1; omega
          · exact absurd g3 (hno i x0 L0 g1 g2)
      · exact l3.mono e3.terr hphi (e3.keep _ (hr.below _ _ l1) fun i x0 L0 g1 g2 => hno i x0 L0 g1 g2)
  · -- two blocks at one place
    have loc : ∀ b x L, h' b = some x → φ' b = some L → (∃ i x0, i < n1 ∧ ρ i = b ∧ h1 i = some x0 ∧ φ1 i = some L) ∨ (b < n ∧ φ b = some L ∧ (∃ y, h b = some y) ∧ ∀ i, i < k → h0 i ≠ none → ρ i ≠ b) := by
      intro b x L g1 g2
      rcases hb b x g1 with ⟨i, x0, i1, i2, rfl, i4, i5⟩ | ⟨b1, b2, b3⟩
      · exact .inl ⟨i, x0, i1, rfl, i4, by rw [he1 i i1]; exact g2⟩
      · refine .inr ⟨b1, ?_, ⟨x, b2⟩, b3⟩
        simp only [φ', if_pos b1] at g2
        exact g2
    -- a block of the call's own against another one
    have cross : ∀ i x0 b L L', i < n1 → h1 i = some x0 → φ1 i = some L → b < n → φ b = some L' → (∃ y, h b = some y) → (∀ i, i < k → h0 i ≠ none → ρ i ≠ b) → L.B = L'.B → False := by
      intro i x0 b L L' i1 i2 i3 b1 b2 ⟨y, b3⟩ b4 hB
      rcases e3.newP i L i3 with g | g | ⟨j, xj, Lj, g1, g2, g3⟩
      · have hik : i < k := by
          by_cases hik : i < k
          · exact hik
          · simp only [φ0, if_neg hik] at g; cases g
        obtain ⟨y0, hy0⟩ := e4 i x0 i2 hik
        obtain ⟨_, L1, o2, o3, y1, o4⟩ := old i y0 hy0
        rw [g] at o3; cases o3
        exact b4 i hik (by rw [hy0]; simp) (hr.inj _ _ _ _ _ _ o4 b3 o2 b2 hB)
      · have := hr.below _ _ b2; omega
      · obtain ⟨o1, L1, o2, o3, y1, o4⟩ := old j xj g1
        rw [g2] at o3; cases o3
        exact b4 j o1 (by rw [g1]; simp) (hr.inj _ _ _ _ _ _ o4 b3 o2 b2 (g3.trans hB))
    rcases loc b x L g1 g3 with ⟨i, x0, i1, rfl, i3, i4⟩ | ⟨p1, p2, p3, p4⟩
    · rcases loc b' x' L' g2 g4 with ⟨j, y0, j1, rfl, j3, j4⟩ | ⟨q1, q2, q3, q4⟩
      · rw [e2.inj i j x0 y0 L L' i3 j3 i4 j4 g5]
      · exact (cross i x0 b' L L' i1 i3 i4 q1 q2 q3 q4 g5).elim
    · rcases loc b' x' L' g2 g4 with ⟨j, y0, j1, rfl, j3, j4⟩ | ⟨q1, q2, q3, q4⟩
      · exact (cross j y0 b L' L j1 j3 j4 p1 p2 p3 p4 g5.symm).elim
      · obtain ⟨y, hy⟩ := p3
        obtain ⟨y', hy'⟩ := q3
        exact hr.inj _ _ _ _ _ _ hy hy' p2 q2 g5
  · simp only [φ']
    rw [if_neg (by omega)]
    exact e2.fresh _ (by omega)
  · simp only [φ'] at hL
    split at hL
    · exact Nat.lt_of_lt_of_le (hr.below _ _ hL) e3.size
    · exact e2.below _ _ hL
  · obtain ⟨_, L1, o2, o3, y1, o4⟩ := old i x g1
    rw [g2] at o3; cases o3
    exact hne _ _ _ o4 o2
  · rcases e3.newF B hB with g | g | ⟨i, x0, L0, g1, g2, g3⟩
    · exact .inl g
    · exact .inr (.inl g)
    · obtain ⟨_, L1, o2, o3, y1, o4⟩ := old i x0 g1
      rw [g2] at o3; cases o3
      exact .inr (.inr ⟨_, _, _, o4, o2, g3⟩)
  · simp only [φ'] at hL
    split at hL
    · exact .inl hL
    · rename_i hbn
      rcases e3.newP _ L hL with g | g | ⟨i, x0, L0, g1, g2, g3⟩
      · simp only [φ0] at g
        rw [if_neg (by omega)] at g
        cases g
      · exact .inr (.inl g)
      · obtain ⟨_, L1, o2, o3, y1, o4⟩ := old i x0 g1
        rw [g2] at o3; cases o3
        exact .inr (.inr ⟨_, _, _, o4, o2, g3⟩)
  · simp only [φ', if_pos hbn] at hL
    exact hL
  · rcases hb b x hx with ⟨i, x0, i1, i2, rfl, i4, i5⟩ | ⟨b1, b2, b3⟩
    · have hik : i < k := by
        by_cases hik : i < k
        · exact hik
        · rw [hρn i (by omega)] at hbn; omega
      obtain ⟨y0, hy0⟩ := e4 i x0 i4 hik
      obtain ⟨_, _, _, _, y1, o4⟩ := old i y0 hy0
      exact ⟨y1, o4⟩
    · exact ⟨x, b2⟩

/-- Garbage forgotten at a call's end. -/
theorem CallOk.low {f : FuncId} {args : List AV} {h : Nat → Option ABlk} {n : Nat} {Q Q' : AEnd → (Nat → Option ABlk) → Nat → Prop} (hc : CallOk P f args h n Q)
    (hq : ∀ ae h1 n1, Q ae h1 n1 → ∃ h2 m, n ≤ m ∧ m ≤ n1 ∧ Q' ae h2 m ∧ (match ae with | .ret v => Low m v | .pan v => Low m v) ∧ ∀ b x, h2 b = some x → b < m ∧ h1 b = some x ∧ LowB m x) : CallOk P f args h n Q' := by
  intro F φ cargs w hr hv
  refine (hc F φ cargs w hr hv).mono ?_
  rintro e w' ⟨ae, F', φ', h1, n1, q, e1, e2, e3, e4⟩
  obtain ⟨h2, m, m1, m2, q2, m3, m4⟩ := hq ae h1 n1 q
  have hb : ∀ b L, belowPhi φ' m b = some L → φ' b = some L := by
    intro b L h; unfold belowPhi at h; split at h
    · exact h
    · cases h
  refine ⟨ae, F', belowPhi φ' m, h2, m, q2, ?_, ⟨e2.terr, fun b x hx => ?_, fun b b' x x' L L' g1 g2 g3 g4 g5 => ?_, fun b hb => ?_, fun b L hL => e2.below b L (hb b L hL)⟩,
    ⟨e3.terr, fun b L hL => ?_, m1, e3.size, e3.keep, e3.newF, fun b L hL => e3.newP b L (hb b L hL), fun b L hL hbn => e3.newN b L (hb b L hL) hbn, e3.out⟩, fun b x hx hbn => e4 b x (m4 b x hx).2.1 hbn⟩
  · cases ae with
    | ret v => obtain ⟨vc, h1, h2⟩ := e1; exact ⟨vc, m3 _ _ _ h1, h2⟩
    | pan v => obtain ⟨vc, h1, h2⟩ := e1; exact ⟨vc, m3 _ _ _ h1, h2⟩
  · obtain ⟨k1, k2, k3⟩ := m4 b x hx
    obtain ⟨L, l1, l2, l3⟩ := e2.blk b x k2
    exact ⟨L, by simp [belowPhi, k1, l1], l2, k3 _ _ _ _ _ l3⟩
  · exact e2.inj b b' x x' L L' (m4 b x g1).2.1 (m4 b' x' g2).2.1 (hb _ _ g3) (hb _ _ g4) g5
  · unfold belowPhi; rw [if_neg (by omega)]
  · have hbn : b < n := by
      by_cases g : b < n
      · exact g
      · rw [hr.fresh b (by omega)] at hL; cases hL
    unfold belowPhi
    rw [if_pos (by omega)]
    exact e3.phi _ _ hL

/-- What the evaluator says of a call, as far as it is asked. -/
def callSel (r : Option (AEnd × HP)) (ks : List Nat) : Option (AEnd × List (Option ABlk) × Nat) := r.map fun x => (x.1, ks.map x.2.tr.get, x.2.n)

/-- Blocks forgotten at a call's end. -/
theorem CallOk.of_sel (hP : Fit P) {k : Nat} {f : FuncId} {args : List AV} {hp : HP} {ae : AEnd} {hl : List (Nat × ABlk)} {n : Nat} (hlt : (hl.all fun x => decide (x.1 < 2 ^ 24)) = true)
    (h : callSel ((evRec P noK k).call f args hp) (hl.map (·.1)) = some (ae, hl.map (fun x => some x.2), n)) : CallOk P f args hp.tr.get hp.n fun e h n' => e = ae ∧ h = (trOf hl).get ∧ n' = n := by
  unfold callSel at h
  cases hq : (evRec P noK k).call f args hp with
  | none => rw [hq] at h; cases h
  | some x =>
    obtain ⟨ae1, hp1⟩ := x
    rw [hq] at h
    simp only [Option.map_some, Option.some.injEq, Prod.mk.injEq] at h
    obtain ⟨rfl, h2, rfl⟩ := h
    have key : ∀ b x, (trOf hl).get b = some x → hp1.tr.get b = some x := by
      intro b x hx
      rcases trOf_get hl .leaf b x (fun y hy => of_decide_eq_true (List.all_eq_true.1 hlt y hy)) hx with g | g
      · obtain ⟨i, hi⟩ := List.mem_iff_getElem?.1 g
        have := congrArg (·[i]?) h2
        simp only [List.getElem?_map, hi, Option.map_some, Option.some.injEq] at this
        exact this
      · rw [show (Tr.leaf : Tr ABlk).get b = none from Tr.getD_leaf _ _] at g; cases g
    intro F φ cargs w hr hv
    refine ((evRec_ok hP noK_ok k).call _ _ _ _ _ hq F φ cargs w hr hv).mono ?_
    rintro e w' ⟨ae2, F', φ', h1, n1, ⟨rfl, rfl, rfl⟩, e1, e2, e3, e4⟩
    exact ⟨ae2, F', φ', (trOf hl).get, hp1.n, ⟨rfl, rfl, rfl⟩, e1, ⟨e2.terr, fun b x hx => e2.blk b x (key b x hx), fun b b' x x' L L' g1 g2 => e2.inj b b' x x' L L' (key _ _ g1) (key _ _ g2), e2.fresh, e2.below⟩, e3,
      fun b x hx hb => e4 b x (key b x hx) hb⟩

theorem T.call_sel {t : T} {n0 : Nat} {rd : Bool} {Q : AExit → ES → Prop} {f : FuncId} {args : List AV} {hp : HP} (ae : AEnd) (hl : List (Nat × ABlk)) (n : Nat) (h : t.tag = 5) (hf : t.fid = f) (ha : t.args = args) (hh : t.hp = hp)
    (h1 : CallOk P f args hp.tr.get hp.n fun e h n' => e = ae ∧ h = (trOf hl).get ∧ n' = n) (h3 : (t.aft ae ⟨trOf hl, n⟩).Fine P n0 rd Q) : t.Fine P n0 rd Q := by
  subst hh
  exact T.on_call h ae ⟨trOf hl, n⟩ hf ha h1 h3

theorem T.do_idxS {t : T} {n0 : Nat} {rd : Bool} {Q : AExit → ES → Prop} (h : t.tag = 3) (h1 : decide (0 ≤ t.num ∧ t.num < t.most) = true) (h3 : t.in'.Fine P n0 rd Q) : t.Fine P n0 rd Q := T.at_idxS h (of_decide_eq_true h1).1 (of_decide_eq_true h1).2 h3
theorem T.do_idx {t : T} {n0 : Nat} {rd : Bool} {Q : AExit → ES → Prop} (r : List AV) (h : t.tag = 2) (h0 : decide (0 ≤ t.num) = true) (h1 : t.rows[t.num.toNat]? = some r) (h2 : t.size = some r.length) (h3 : (t.at' r).Fine P n0 rd Q) : t.Fine P n0 rd Q := T.at_idx h r (of_decide_eq_true h0) h1 h2 h3
end
end Go.Ab

/- What the cells of data of a type look like. -/
namespace Go.Ab
open Go

/-- bool 0, whole numbers 1, strings 2, slices 3, structs 4, others 5 -/
def kindT (P : Program) (t : TypeId) : Nat :=
  match P.underlying t with
  | some .bool => 0
  | some (.int _) => 1
  | some .string => 2
  | some (.slice _) => 3
  | some (.struct _) => 4
  | _ => 5

def intT (P : Program) (t : TypeId) : Option IntKind := match P.underlying t with | some (.int k) => some k | _ => none
def partsT (P : Program) (t : TypeId) : Option (List TypeId) := match P.underlying t with | some (.struct fs) => if packedFs P fs.toList 0 (P.cellsOf t) then some (fs.toList.map (·.type)) else none | _ => none

def cellsNz (P : Program) (e : TypeId) : Bool := !(P.cellsOf e == 0)

section
variable {P : Program} {H : Type} {t : TypeId} {d : DataW H} {xs : List AV}

theorem DA.int_inv {k : IntKind} (ht : intT P t = some k) (h : DA P t d xs) : ∃ n, xs = [.int k n] ∧ (Lit.int k n).wf = true := by
  unfold intT at ht
  split at ht
  · rename_i k' hu
    cases ht
    cases h with
    | bool h => rw [hu] at h; cases h
    | int h hw => rw [hu] at h; cases h; exact ⟨_, rfl, hw⟩
    | str h => rw [hu] at h; cases h
    | nils h => rw [hu] at h; cases h
    | slice h => rw [hu] at h; cases h
    | tiny h => rw [hu] at h; cases h
    | struct h => rw [hu] at h; cases h
    | loose _ h => rw [hu] at h; cases h
    | other n h => exact absurd hu (h k 0 #[]).2.1
  · cases ht

theorem DA.bool_inv (ht : kindT P t = 0) (h : DA P t d xs) : ∃ b, xs = [.bool b] := by
  unfold kindT at ht
  split at ht
  · rename_i hu
    cases h with
    | bool h => exact ⟨_, rfl⟩
    | int h hw => rw [hu] at h; cases h
    | str h => rw [hu] at h; cases h
    | nils h => rw [hu] at h; cases h
    | slice h => rw [hu] at h; cases h
    | tiny h => rw [hu] at h; cases h
    | struct h => rw [hu] at h; cases h
    | loose _ h => rw [hu] at h; cases h
    | other n h => exact absurd hu (h .i64 0 #[]).1
  all_goals cases ht

theorem kind_str (h : kindT P t = 2) : P.underlying t = some .string := by
  unfold kindT at h
  split at h <;> first | assumption | cases h

theorem DA.str_inv (ht : kindT P t = 2) (h : DA P t d xs) : ∃ s, xs = [.str s] ∧ s.size ≤ maxLen := by
  have hu := kind_str ht
  cases h with
  | bool h => rw [hu] at h; cases h
  | int h hw => rw [hu] at h; cases h
  | str h hs => exact ⟨_, rfl, hs⟩
  | nils h => rw [hu] at h; cases h
  | slice h => rw [hu] at h; cases h
  | tiny h => rw [hu] at h; cases h
  | struct h => rw [hu] at h; cases h
  | loose _ h => rw [hu] at h; cases h
  | other n h => exact absurd hu (h .i64 0 #[]).2.2.1

/-- Each row is told of. -/
theorem DA.slice_inv {e : TypeId} (ht : elemT P t = some e) (hz : cellsNz P e = true) (h : DA P t d xs) : ∃ rows tight, xs = [.ro rows tight] ∧ (tight = true → rows = []) ∧ rows.length ≤ maxLen ∧ ∀ r ∈ rows, ∃ d' : DataW H, DA P e d' r := by
  unfold elemT at ht
  split at ht
  · rename_i e' hu
    cases ht
    cases h with
    | bool h => rw [hu] at h; cases h
    | int h hw => rw [hu] at h; cases h
    | str h => rw [hu] at h; cases h
    | nils h => exact ⟨[], true, rfl, fun _ => rfl, Nat.zero_le _, fun r hr => by cases hr⟩
    | slice h hl hm hr hz' =>
      rw [hu] at h; cases h
      refine ⟨_, false, rfl, fun h => (by cases h), hm, fun r hr' => ?_⟩
      obtain ⟨i, hi⟩ := List.mem_iff_getElem?.1 hr'
      have hlt := (List.getElem?_eq_some_iff.1 hi).1
      rw [hl] at hlt
      exact ⟨_, hr i _ r (List.getElem?_eq_getElem hlt) hi⟩
    | tiny h hz' =>
      rw [hu] at h; cases h
      simp [cellsNz, hz'] at hz
    | struct h => rw [hu] at h; cases h
    | loose _ h => rw [hu] at h; cases h
    | other n h => exact absurd hu (h .i64 e #[]).2.2.2.1
  · cases ht

def DAs (P : Program) (H : Type) : List TypeId → List (List AV) → Prop
  | [], [] => True
  | t :: ts, r :: rs => (∃ d : DataW H, DA P t d r) ∧ DAs P H ts rs
  | _, _ => False

theorem DAs.mk : ∀ {ts : List TypeId} {rs : List (List AV)}, ts.length = rs.length → (∀ (i : Nat) (t : TypeId) (r : List AV), ts[i]? = some t → rs[i]? = some r → ∃ d : DataW H, DA P t d r) → DAs P H ts rs
  | [], [], _, _ => trivial
  | t :: ts, r :: rs, hl, h => ⟨h 0 t r rfl rfl, DAs.mk (by simpa using hl) fun i a b ha hb => h (i + 1) a b (by simpa using ha) (by simpa using hb)⟩
  | [], _ :: _, hl, _ => by simp at hl
  | _ :: _, [], hl, _ => by simp at hl

theorem DA.struct_inv {ts : List TypeId} (ht : partsT P t = some ts) (h : DA P t d xs) : ∃ rows, xs = rows.flatten ∧ DAs P H ts rows := by
  unfold partsT at ht
  split at ht
  · rename_i fs hu
    split at ht
    · rename_i hp
      cases ht
      cases h with
      | bool h => rw [hu] at h; cases h
      | int h hw => rw [hu] at h; cases h
      | str h => rw [hu] at h; cases h
      | nils h => rw [hu] at h; cases h
      | slice h => rw [hu] at h; cases h
      | tiny h => rw [hu] at h; cases h
      | struct h hl hl' hr hz =>
        rw [hu] at h; cases h
        refine ⟨_, rfl, DAs.mk (by rw [hl']; simp) fun i t r ht hr' => ?_⟩
        rw [List.getElem?_map] at ht
        simp only [Option.map_eq_some_iff] at ht
        obtain ⟨f, hf, rfl⟩ := ht
        have hlt : i < fs.size := by
          have := (List.getElem?_eq_some_iff.1 hf).1
          simpa using this
        rw [← hl] at hlt
        exact ⟨_, hr i f _ r (by simpa using hf) (List.getElem?_eq_getElem hlt) hr'⟩
      | loose n h hp' => rw [hu] at h; cases h; rw [hp'] at hp; cases hp
      | other n h => exact absurd hu (h .i64 0 fs).2.2.2.2
    · cases ht
  · cases ht

/-- Of a list of rows that each one stands for something, a list of these. -/
theorem rows_of {α : Type} {f : α → List AV} : ∀ {rows : List (List AV)}, (∀ r ∈ rows, ∃ a, r = f a) → ∃ l : List α, rows = l.map f
  | [], _ => ⟨[], rfl⟩
  | r :: rs, h => by
    obtain ⟨a, rfl⟩ := h r (List.mem_cons_self ..)
    obtain ⟨l, rfl⟩ := rows_of (f := f) fun r hr => h r (List.mem_cons_of_mem _ hr)
    exact ⟨a :: l, rfl⟩

theorem rows_of' {α : Type} {f : α → List AV} {p : α → Prop} : ∀ {rows : List (List AV)}, (∀ r ∈ rows, ∃ a, r = f a ∧ p a) → ∃ l : List α, rows = l.map f ∧ ∀ a ∈ l, p a
  | [], _ => ⟨[], rfl, fun _ h => by cases h⟩
  | r :: rs, h => by
    obtain ⟨a, rfl, ha⟩ := h r (List.mem_cons_self ..)
    obtain ⟨l, rfl, hl⟩ := rows_of' (f := f) (p := p) fun r hr => h r (List.mem_cons_of_mem _ hr)
    refine ⟨a :: l, rfl, fun b hb => ?_⟩
    rcases List.mem_cons.1 hb with h0 | h0
    · rw [h0]; exact ha
    · exact hl b h0
end
end Go.Ab
