/- A closed call, by the evaluator. -/
import Derived.Test.YtgcecmiboiomhaaGreatAbA6
import Derived.Test.YtgcecmiboiomhaaGreatAbA4
import Derived.DataReads
import GoSem.ClaimChange
import Derived.WideShapes
import Derived.Below
namespace Go.Ab
open Go

section
variable {P : Program} {K : KTab}

/-- A closed call, by the evaluator. -/
theorem ClosedCall.of_ev (hP : Fit P) (hK : KOk P K) {f : FuncId} {args : List AV} {ae : AEnd} {k : Nat} {hp' : HP} (he : ae.clo) (h : (evRec P K k).call f args ⟨.leaf, 0⟩ = some (ae, hp')) : ClosedCall P f args ae := by
  have hleaf : (Tr.leaf : Tr ABlk).get = fun _ => none := by funext i; exact Tr.getD_leaf _ _
  refine ClosedCall.of_call he ?_
  have := (evRec_ok hP hK k).call _ _ _ _ _ h
  rw [hleaf] at this
  intro F φ cargs w hr hv
  refine (this F φ cargs w hr hv).mono ?_
  rintro e w' ⟨ae', F', φ', h', n', ⟨rfl, _, _⟩, rest⟩
  exact ⟨_, F', φ', h', n', rfl, rest⟩

end
end Go.Ab

/- What is read of an argument, as an abstract value. -/
namespace Go.Ab
open Go

/-- The fields of a struct lie one behind the other, from a place on, and end at another. -/
def packedFs (P : Program) : List Field → Nat → Nat → Bool
  | [], o, e => o == e
  | f :: fs, o, e => f.offset == o && packedFs P fs (o + P.cellsOf f.type) e

/-- The cells of data of a type. Memory that no slice shows, pointers, maps and what is held are not told of. -/
inductive DA (P : Program) {H : Type} : TypeId → DataW H → List AV → Prop
  | bool {t : TypeId} {b : Bool} (h : P.underlying t = some .bool) : DA P t (.lit (.bool b)) [.bool b]
  | int {t : TypeId} {k : IntKind} {n : Int} (h : P.underlying t = some (.int k)) (hw : (Lit.int k n).wf = true) : DA P t (.lit (.int k n)) [.int k n]
  | str {t : TypeId} {s : ByteArray} (h : P.underlying t = some .string) (hs : s.size ≤ maxLen) : DA P t (.lit (.string s.data.toList)) [.str s]
  | nils {t e : TypeId} (h : P.underlying t = some (.slice e)) : DA P t .nil [.ro [] true]
  | slice {t e : TypeId} {elems spare : List (DataW H)} {rows : List (List AV)} (h : P.underlying t = some (.slice e)) (hl : rows.length = elems.length) (hm : rows.length ≤ maxLen)
      (hr : ∀ (i : Nat) (d : DataW H) (r : List AV), elems[i]? = some d → rows[i]? = some r → DA P e d r) (hz : ∀ (i : Nat) (r : List AV), rows[i]? = some r → r.length = P.cellsOf e) : DA P t (.slice elems spare) [.ro rows false]
  | tiny {t e : TypeId} {d : DataW H} (h : P.underlying t = some (.slice e)) (hz : P.cellsOf e = 0) : DA P t d [.any]
  | struct {t : TypeId} {fs : Array Field} {parts : List (DataW H)} {rows : List (List AV)} (h : P.underlying t = some (.struct fs)) (hl : parts.length = fs.size) (hl' : rows.length = fs.size)
      (hr : ∀ (i : Nat) (f : Field) (d : DataW H) (r : List AV), fs[i]? = some f → parts[i]? = some d → rows[i]? = some r → DA P f.type d r) (hz : ∀ (i : Nat) (f : Field) (r : List AV), fs[i]? = some f → rows[i]? = some r → r.length = P.cellsOf f.type) : DA P t (.agg parts) rows.flatten
  | loose {t : TypeId} {fs : Array Field} {d : DataW H} (n : Nat) (h : P.underlying t = some (.struct fs)) (hp : packedFs P fs.toList 0 (P.cellsOf t) = false) : DA P t d (List.replicate n .any)
  | other {t : TypeId} {d : DataW H} (n : Nat) (h : ∀ k e fs, P.underlying t ≠ some .bool ∧ P.underlying t ≠ some (.int k) ∧ P.underlying t ≠ some .string ∧ P.underlying t ≠ some (.slice e) ∧ P.underlying t ≠ some (.struct fs)) : DA P t d (List.replicate n .any)

def terrOf (w : World) : Terr := fun B => w.heap[B]?

theorem VRL.anys {F : Terr} {φ : Phi} : ∀ (cs : List Value), VRL F φ (List.replicate cs.length .any) cs
  | [] => trivial
  | _ :: cs => ⟨.any _, VRL.anys cs⟩

theorem packed_split {P : Program} {F : Terr} {φ : Phi} : ∀ (fs : List Field) (o e : Nat) (cs : List Value) (rows : List (List AV)), packedFs P fs o e = true → cs.length = e → rows.length = fs.length →
    (∀ (i : Nat) (f : Field) (r : List AV), fs[i]? = some f → rows[i]? = some r → VRL F φ r ((cs.drop f.offset).take (P.cellsOf f.type)) ∧ r.length = P.cellsOf f.type) → VRL F φ rows.flatten (cs.drop o)
  | [], o, e, cs, rows, hp, hc, hl, _ => by
    simp only [packedFs, beq_iff_eq] at hp
    have : rows = [] := List.length_eq_zero_iff.1 hl
    subst this
    rw [List.drop_of_length_le (by omega)]
    trivial
  | f :: fs, o, e, cs, [], hp, hc, hl, h => by simp at hl
  | f :: fs, o, e, cs, r :: rows, hp, hc, hl, h => by
    simp only [packedFs, Bool.and_eq_true, beq_iff_eq] at hp
    obtain ⟨h1, h2⟩ := h 0 f r rfl rfl
    have ih := packed_split fs (o + P.cellsOf f.type) e cs rows hp.2 hc (by simpa using hl) fun i f' r' hf hr => h (i + 1) f' r' (by simpa using hf) (by simpa using hr)
    rw [hp.1] at h1
    have := h1.append ih
    rw [List.flatten_cons]
    rw [← List.drop_drop, List.take_append_drop] at this
    exact this

theorem packed_le {P : Program} : ∀ {fs : List Field} {o e : Nat}, packedFs P fs o e = true → (∀ f ∈ fs, f.offset + P.cellsOf f.type ≤ e)
  | [], _, _, _ => fun f hf => by simp at hf
  | f :: fs, o, e, h => by
    simp only [packedFs, Bool.and_eq_true, beq_iff_eq] at h
    have hle : ∀ (gs : List Field) (o : Nat), packedFs P gs o e = true → o ≤ e := by
      intro gs
      induction gs with
      | nil => intro o h; simp only [packedFs, beq_iff_eq] at h; omega
      | cons g gs ih =>
        intro o h
        simp only [packedFs, Bool.and_eq_true, beq_iff_eq] at h
        have := ih _ h.2
        omega
    intro g hg
    rcases List.mem_cons.1 hg with rfl | hg'
    · have := hle _ _ h.2; omega
    · exact packed_le h.2 g hg'

theorem add_facts (a : Addr) (n : Nat) : (a.add n).block = a.block ∧ (a.add n).off = a.off + n := by
  unfold Addr.add
  split
  · rename_i h; subst h; exact ⟨rfl, rfl⟩
  · exact ⟨rfl, rfl⟩

theorem list_choose {α β : Type} {R : Nat → α → β → Prop} : ∀ (l : List α) (k : Nat), (∀ (i : Nat) (x : α), l[i]? = some x → ∃ y, R (k + i) x y) → ∃ r : List β, r.length = l.length ∧ ∀ (i : Nat) (x : α) (y : β), l[i]? = some x → r[i]? = some y → R (k + i) x y
  | [], _, _ => ⟨[], rfl, fun i x y hx => by simp at hx⟩
  | x :: l, k, h => by
    obtain ⟨y, hy⟩ := h 0 x rfl
    obtain ⟨r, h1, h2⟩ := list_choose l (k + 1) fun i x' hx' => by
      obtain ⟨y', hy'⟩ := h (i + 1) x' (by simpa using hx')
      exact ⟨y', by rw [show k + 1 + i = k + (i + 1) from by omega]; exact hy'⟩
    refine ⟨y :: r, by simp [h1], fun i x' y' hx' hy' => ?_⟩
    cases i with
    | zero => cases hx'; cases hy'; exact hy
    | succ i =>
      have := h2 i x' y' (by simpa using hx') (by simpa using hy')
      rw [show k + (i + 1) = k + 1 + i from by omega]
      exact this

/-- What can be read is some data, and so said of. -/
theorem trod_DA {H : Type} {enc : TypeId × Value → H} {P : Program} {w : World} {sp : Nat → Bool} : ∀ (fuel : Nat) (t : TypeId) (cs : List Value) (d : DataW H) (ps : List MemPlace),
    DataW.trod enc P w 0 sp true fuel t cs = some (d, ps) → ∃ xs, DA P t d xs ∧ VRL (terrOf w) noPhi xs cs
  | 0, _, _, _, _, h => by cases h
  | fuel + 1, t, cs, d, ps, h => by
    have ih := trod_DA (enc := enc) (P := P) (w := w) (sp := sp) fuel
    have one : ∀ v : Value, VRL (terrOf w) noPhi (List.replicate 1 .any) [v] := fun v => VRL.anys [v]
    unfold DataW.trod at h
    split at h
    · rename_i b hu
      cases h
      exact ⟨_, .bool hu, .bool b, trivial⟩
    · rename_i k k' n hu
      split at h
      · rename_i hc
        obtain ⟨rfl, hw⟩ := hc
        cases h
        exact ⟨_, .int hu hw, .int _ _, trivial⟩
      · cases h
    · rename_i k k' n hu
      exact ⟨_, .other 1 (by rw [hu]; intro k e fs; simp), one _⟩
    · rename_i s hu
      split at h
      · rename_i hs
        cases h
        exact ⟨_, .str hu hs, .str s, trivial⟩
      · cases h
    · rename_i hu
      exact ⟨_, .other 1 (by rw [hu]; intro k e fs; simp), one _⟩
    · rename_i hu
      exact ⟨_, .other 1 (by rw [hu]; intro k e fs; simp), one _⟩
    · rename_i e hu
      cases h
      exact ⟨_, .nils hu, .roe (fun _ => rfl), trivial⟩
    · rename_i e a len cap hu
      simp only at h
      split at h
      · rename_i hc
        obtain ⟨hb, hlc, hcm⟩ := hc
        by_cases hz : P.cellsOf e = 0
        · exact ⟨_, .tiny hu hz, .any _, trivial⟩
        cases hm : (List.range len).mapM (fun i => (w.cells? 0 (a.add (i * P.cellsOf e)) (P.cellsOf e)).bind (DataW.trod enc P w 0 sp true fuel e)) with
        | none => rw [hm] at h; cases h
        | some elems =>
          rw [hm] at h
          simp only [Option.bind_some, Option.map_eq_some_iff] at h
          obtain ⟨rest, _, h2⟩ := h
          cases h2
          have hlen : elems.length = len := by simpa using mapM_some_length hm
          -- the elements, one by one
          have hel : ∀ (i : Nat) (x : DataW H × List MemPlace), elems[i]? = some x → ∃ r : List AV, DA P e x.1 r ∧ r.length = P.cellsOf e ∧ ∃ cells, VRL (terrOf w) noPhi r cells ∧ w.cells? 0 (a.add (i * P.cellsOf e)) (P.cellsOf e) = some cells := by
            intro i x hx
            have hi : i < len := by have := (List.getElem?_eq_some_iff.1 hx).1; omega
            have := mapM_some_get hm i i (by simp [hi])
            rw [hx] at this
            cases hcs : w.cells? 0 (a.add (i * P.cellsOf e)) (P.cellsOf e) with
            | none => rw [hcs] at this; cases this
            | some cells =>
              rw [hcs] at this
              simp only [Option.bind_some] at this
              obtain ⟨r, g1, g2⟩ := ih e cells x.1 x.2 this
              exact ⟨r, g1, by rw [g2.length]; exact (World.cells?_some hcs).2.1, cells, g2, rfl⟩
          obtain ⟨rows, h3, h4⟩ := list_choose (R := fun i x r => DA P e x.1 r ∧ r.length = P.cellsOf e ∧ ∃ cells, VRL (terrOf w) noPhi r cells ∧ w.cells? 0 (a.add (i * P.cellsOf e)) (P.cellsOf e) = some cells) elems 0 (by simpa using hel)
          simp only [Nat.zero_add] at h4
          have hget : ∀ (i : Nat) (r : List AV), rows[i]? = some r → r.length = P.cellsOf e ∧ ∃ cells, VRL (terrOf w) noPhi r cells ∧ w.cells? 0 (a.add (i * P.cellsOf e)) (P.cellsOf e) = some cells := by
            intro i r hr
            have hi : i < elems.length := by have := (List.getElem?_eq_some_iff.1 hr).1; omega
            exact (h4 i elems[i] r (by simp [hi]) hr).2
          refine ⟨[.ro rows false], .slice hu (by simp [h3]) (by omega) (fun i d r hd hr => ?_) (fun i r hr => (hget i r hr).1), ?_, trivial⟩
          · simp only [List.getElem?_map, Option.map_eq_some_iff] at hd
            obtain ⟨x, hx, rfl⟩ := hd
            exact (h4 i x r hx hr).1
          · cases hrows : rows with
            | nil =>
              have : len = 0 := by rw [hrows] at h3; simp at h3; omega
              subst this
              exact .roe (fun h => by cases h)
            | cons r0 rows' =>
              -- the block
              rw [← hrows]
              have hcell : ∀ (i : Nat) (r : List AV), rows[i]? = some r → ∃ cells, VRL (terrOf w) noPhi r cells ∧ ∀ j, j < P.cellsOf e → ∃ csB t fr, w.heap[a.block]? = some (.cells csB t fr) ∧ (i = 0 → j = 0 → a.spot = none) ∧ cells[j]? = csB[a.off + i * P.cellsOf e + j]? ∧ ∃ v, cells[j]? = some v := by
                intro i r hr
                obtain ⟨g1, cells, g2, g3⟩ := hget i r hr
                refine ⟨cells, g2, fun j hj => ?_⟩
                obtain ⟨_, q2, q3⟩ := World.cells?_some g3
                have q4 := q3 j hj
                have hjl : j < cells.length := by omega
                rw [List.getElem?_eq_getElem hjl] at q4
                unfold World.cell? at q4
                split at q4
                · rename_i c t fr hblk
                  split at q4
                  · cases q4
                  · rename_i hsp
                    obtain ⟨b1, b2⟩ := add_facts (a.add (i * P.cellsOf e)) j
                    obtain ⟨b3, b4⟩ := add_facts a (i * P.cellsOf e)
                    rw [b1, b3] at hblk
                    rw [b2, b4] at q4
                    refine ⟨c, t, fr, hblk, ?_, ?_, _, List.getElem?_eq_getElem hjl⟩
                    · intro hi0 hj0
                      subst hi0 hj0
                      have : a.spot.isSome = false := by simpa [Addr.add] using hsp
                      cases hq : a.spot with
                      | none => rfl
                      | some _ => rw [hq] at this; cases this
                    · rw [List.getElem?_eq_getElem hjl, ← q4]
                · cases q4
              obtain ⟨cells0, _, hc0⟩ := hcell 0 r0 (by rw [hrows]; rfl)
              obtain ⟨csB, tB, fr, hblk, hsp, _⟩ := hc0 0 (by omega)
              have hval : ∀ (i j : Nat) (r : List AV) (x : AV), rows[i]? = some r → r[j]? = some x → ∃ v, csB[a.off + i * P.cellsOf e + j]? = some v ∧ VR (terrOf w) noPhi x v := by
                intro i j r x hr hx
                obtain ⟨cells, g2, g3⟩ := hcell i r hr
                have hj : j < P.cellsOf e := by rw [← (hget i r hr).1]; exact (List.getElem?_eq_some_iff.1 hx).1
                obtain ⟨csB', tB', fr', hblk', _, g4, v, g5⟩ := g3 j hj
                rw [hblk] at hblk'
                cases hblk'
                obtain ⟨v', g6, g7⟩ := g2.some hx
                exact ⟨v', by rw [← g4]; exact g6, g7⟩
              refine .ro (size := P.cellsOf e) (fun i j => (csB[a.off + i * P.cellsOf e + j]?).getD Go.undef) (by omega) hblk (hsp rfl rfl) hlc (fun h => by cases h) (fun i r hr => (hget i r hr).1) (fun i j r x hr hx => ?_) (fun i j r x hr hx => ?_)
              · obtain ⟨v, k1, _⟩ := hval i j r x hr hx
                rw [k1]; rfl
              · obtain ⟨v, k1, k2⟩ := hval i j r x hr hx
                rw [k1]; exact k2
      · cases h
    · rename_i cs _ _ fs hu
      split at h
      · rename_i hlen
        simp only [Option.map_eq_some_iff] at h
        obtain ⟨xs, hm, h2⟩ := h
        cases h2
        have hxl : xs.length = fs.size := by simpa using mapM_some_length hm
        have hel : ∀ (i : Nat) (x : DataW H × List MemPlace), xs[i]? = some x → ∃ r : List AV, ∀ f, fs[i]? = some f → DA P f.type x.1 r ∧ VRL (terrOf w) noPhi r ((cs.drop f.offset).take (P.cellsOf f.type)) := by
          intro i x hx
          have hi : i < fs.size := by have := (List.getElem?_eq_some_iff.1 hx).1; omega
          have := mapM_some_get hm i fs[i] (by simp [hi])
          rw [hx] at this
          obtain ⟨r, g1, g2⟩ := ih _ _ x.1 x.2 this
          refine ⟨r, fun f hf => ?_⟩
          have : fs[i] = f := by simpa [hi] using hf
          subst this
          exact ⟨g1, g2⟩
        obtain ⟨rows, h3, h4⟩ := list_choose (R := fun i x r => ∀ f, fs[i]? = some f → DA P f.type x.1 r ∧ VRL (terrOf w) noPhi r ((cs.drop f.offset).take (P.cellsOf f.type))) xs 0 (by simpa using hel)
        simp only [Nat.zero_add] at h4
        cases hpk : packedFs P fs.toList 0 (P.cellsOf t) with
        | false => exact ⟨_, .loose cs.length hu hpk, VRL.anys cs⟩
        | true =>
        have hrow : ∀ (i : Nat) (f : Field) (r : List AV), fs[i]? = some f → rows[i]? = some r → ∃ x, xs[i]? = some x ∧ DA P f.type x.1 r ∧ VRL (terrOf w) noPhi r ((cs.drop f.offset).take (P.cellsOf f.type)) := by
          intro i f r hf hr
          have hi : i < xs.length := by have := (List.getElem?_eq_some_iff.1 hr).1; omega
          obtain ⟨g1, g2⟩ := h4 i xs[i] r (by simp [hi]) hr f hf
          exact ⟨xs[i], by simp [hi], g1, g2⟩
        have hend := packed_le hpk
        have hsz : ∀ (i : Nat) (f : Field) (r : List AV), fs[i]? = some f → rows[i]? = some r → r.length = P.cellsOf f.type := by
          intro i f r hf hr
          obtain ⟨x, _, _, g⟩ := hrow i f r hf hr
          rw [g.length, List.length_take, List.length_drop, hlen]
          have := hend f (by rw [List.mem_iff_getElem?]; exact ⟨i, by simpa using hf⟩)
          omega
        refine ⟨rows.flatten, .struct hu (by simp [hxl]) (by omega) (fun i f d r hf hd hr => ?_) hsz, ?_⟩
        · obtain ⟨x, k1, k2, _⟩ := hrow i f r hf hr
          rw [List.getElem?_map, k1] at hd
          cases hd
          exact k2
        · have := packed_split fs.toList 0 (P.cellsOf t) cs rows hpk hlen (by simp; omega) (fun i f r hf hr => by
            have hf' : fs[i]? = some f := by simpa using hf
            obtain ⟨x, _, _, g⟩ := hrow i f r hf' hr
            exact ⟨g, hsz i f r hf' hr⟩)
          simpa using this
      · cases h
    all_goals first
      | (cases h; done)
      | (refine ⟨_, .other cs.length ?_, VRL.anys cs⟩; intro k e fs; simp_all; done)
      | (refine ⟨_, .other 1 ?_, one _⟩; intro k e fs; simp_all; done)
      | (rename_i cs _ _ n e hu
         exact ⟨_, .other cs.length (by rw [hu]; intro k e fs; simp), VRL.anys cs⟩)
end Go.Ab

/- From a row to a closed call. -/
namespace Go.Ab
open Go Go.RowKit

/-- An argument of a type, out of its cells. -/
def argAV (P : Program) (t : TypeId) (xs : List AV) : AV :=
  match P.underlying t with
  | some (.struct _) | some (.array _ _) => .agg xs
  | _ => match xs with | [x] => x | _ => .any

theorem argAV_VR {P : Program} {F : Terr} {φ : Phi} {W : World} {r : Reach} {base : Nat} {t : TypeId} {v : Value} {xs : List AV} (hok : Value.okWide P W r base t v) (h : VRL F φ xs v.cells.toList) : VR F φ (argAV P t xs) v := by
  unfold argAV
  have agg : (∃ cs, v = .agg cs) → VR F φ (.agg xs) v := by
    rintro ⟨cs, rfl⟩
    have h' : VRL F φ xs cs.toList := h
    refine .agg (by have := h'.length; simpa using this) fun i x u hx hu => ?_
    obtain ⟨u', h1, h2⟩ := h'.some hx
    have : u' = u := by
      have h3 : cs.toList[i]? = some u := by simpa using hu
      rw [h3] at h1
      exact (Option.some.inj h1).symm
    rw [← this]
    exact h2
  split
  · rename_i fs hu
    unfold Value.okWide at hok
    rw [hu] at hok
    obtain ⟨cs, h1, _⟩ := hok
    exact agg ⟨cs, h1⟩
  · rename_i n e hu
    unfold Value.okWide at hok
    rw [hu] at hok
    obtain ⟨cs, h1, _⟩ := hok
    exact agg ⟨cs, h1⟩
  · rename_i hn1 hn2
    split
    · rename_i x
      by_cases hv : ∃ cs, v = .agg cs
      · obtain ⟨cs, rfl⟩ := hv
        exfalso
        unfold Value.okWide at hok
        split at hok
        · rename_i hu; exact hn1 _ hu
        · rename_i hu; exact hn2 _ _ hu
        · unfold Cell.okWide at hok
          split at hok
          all_goals first
            | (rename_i h1 h2; cases h2; done)
            | (unfold Cell.ok at hok; split at hok <;> simp_all)
      · have : v.cells = #[v] := by
          cases v <;> first | rfl | exact absurd ⟨_, rfl⟩ hv
        rw [this] at h
        exact h.1
    · exact .any _

/-- A closed call that answers true leaves all memory as it was. -/
theorem ClosedCall.below {P : Program} {f : FuncId} {args : List AV} {cargs : Array Value} {W : World} (hc : ClosedCall P f args (.ret (.bool true))) (hv : VRL (terrOf W) noPhi args cargs.toList) :
    Calls P f cargs W fun e W' => e = .returned (.bool true) ∧ Below W.heap.size W W' := by
  refine (hc (terrOf W) cargs W (fun _ _ h => h) hv).mono ?_
  rintro e W' ⟨F', ⟨vc, h1, rfl⟩, h2, h3, h4, h5, h6, h7⟩
  cases h1
  exact ⟨rfl, h7.1, h7.2.1, h7.2.2, h4, h5⟩
end Go.Ab

/- Runs of a closed call: what is kept is less, so blocks may be named anew on the way. -/
namespace Go.Ab
open Go

structure WGoes (n0 : Nat) (F : Terr) (φ : Phi) (σ : ASt) (w : World) (F' : Terr) (φ' : Phi) (σ' : ASt) (w' : World) : Prop where
  terr : ∀ B o, F B = some o → F' B = some o
  size : w.heap.size ≤ w'.heap.size
  keep : ∀ B, B < w.heap.size → (∀ b x L, σ.h b = some x → φ b = some L → L.B ≠ B) → w'.heap[B]? = w.heap[B]?
  newF : ∀ B, F' B ≠ none → F B ≠ none ∨ w.heap.size ≤ B ∨ ∃ b x L, σ.h b = some x ∧ φ b = some L ∧ L.B = B
  pl : ∀ b x L, σ'.h b = some x → φ' b = some L → w.heap.size ≤ L.B ∨ ∃ b0 x0 L0, σ.h b0 = some x0 ∧ φ b0 = some L0 ∧ L0.B = L.B
  out : Out w w'
  nt : σ'.nt = σ.nt
  u : σ'.u.isSome = σ.u.isSome
  nle : n0 ≤ σ'.n
  base : ∀ b, b < n0 → φ' b = φ b
  newP : ∀ b L, φ' b = some L → φ b = some L ∨ w.heap.size ≤ L.B ∨ ∃ b0 x0 L0, σ.h b0 = some x0 ∧ φ b0 = some L0 ∧ L0.B = L.B
  dom : ∀ b x, σ'.h b = some x → b < n0 → ∃ y, σ.h b = some y

def ItemsW (P : Program) (n0 : Nat) (rd : Bool) (items : List Item) (σ : ASt) (Q : AExit → ASt → Prop) : Prop :=
  ∀ F φ b a k cs w, SR P F φ σ b a cs w → n0 ≤ σ.n → b.roundOf.isSome = rd →
    ∃ e σ' F' φ' a' cs' w', Q e σ' ∧ SR P F' φ' σ' b a' cs' w' ∧ WGoes n0 F φ σ w F' φ' σ' w' ∧ CsR σ.u cs cs' ∧ Arr P F' φ' (lone (b.atR a (items ++ k)) cs w) b k cs' e a' w'

abbrev CodeW (P : Program) (n0 : Nat) (rd : Bool) (c : Code) (σ : ASt) (Q : AExit → ASt → Prop) : Prop := ItemsW P n0 rd [.code c] σ Q
abbrev LoopW (P : Program) (n0 : Nat) (rd : Bool) (c : Code) (σ : ASt) (Q : AExit → ASt → Prop) : Prop := ItemsW P n0 rd [.code c, .inLoop c] σ Q

section
variable {P : Program} {F F' F2 : Terr} {φ φ' φ2 : Phi} {σ σ' σ2 : ASt} {b : Frame} {a a' : Act} {cs cs' cs2 : List Frame} {w w' w2 : World} {rd : Bool} {n0 : Nat} {Q Q' : AExit → ASt → Prop}

theorem WGoes.refl (F : Terr) (φ : Phi) (σ : ASt) (w : World) (hn : n0 ≤ σ.n) : WGoes n0 F φ σ w F φ σ w :=
  ⟨fun _ _ h => h, Nat.le_refl _, fun _ _ _ => rfl, fun _ h => .inl h, fun b x L h1 h2 => .inr ⟨b, x, L, h1, h2, rfl⟩, ⟨rfl, rfl, rfl⟩, rfl, rfl, hn, fun _ _ => rfl, fun _ _ h => .inl h, fun b x h _ => ⟨x, h⟩⟩

theorem Goes.weak (hn : n0 ≤ σ.n) (hr : HR P F φ σ.n σ.h w) (g : Goes F φ σ w F' φ' σ' w') : WGoes n0 F φ σ w F' φ' σ' w' := by
  refine ⟨g.ext.terr, g.ext.size, g.ext.keep, g.ext.newF, fun b x L h1 h2 => ?_, g.ext.out, g.nt, g.u, Nat.le_trans hn g.ext.nle, fun b hb => ?_, g.ext.newP, fun b x h1 h2 => g.dom b x h1 (Nat.lt_of_lt_of_le h2 hn)⟩
  rotate_left
  · cases h0 : φ b with
    | some L => exact g.ext.phi _ _ h0
    | none =>
      cases h1 : φ' b with
      | none => rfl
      | some L => rw [g.ext.newN b L h1 (Nat.lt_of_lt_of_le hb hn)] at h0; cases h0
  rcases g.ext.newP b L h2 with h0 | h0 | h0
  · by_cases hn : b < σ.n
    · obtain ⟨y, hy⟩ := g.dom b x h1 hn
      exact .inr ⟨b, y, L, hy, h0, rfl⟩
    · rw [hr.fresh b (by omega)] at h0; cases h0
  · exact .inl h0
  · exact .inr h0

theorem WGoes.trans (g1 : WGoes n0 F φ σ w F' φ' σ' w') (g2 : WGoes n0 F' φ' σ' w' F2 φ2 σ2 w2) : WGoes n0 F φ σ w F2 φ2 σ2 w2 := by
  refine ⟨fun B o h => g2.terr _ _ (g1.terr _ _ h), Nat.le_trans g1.size g2.size, fun B hB hne => ?_, fun B hB => ?_, fun b x L h1 h2 => ?_, g1.out.trans g2.out, g2.nt.trans g1.nt, g2.u.trans g1.u, g2.nle, fun b hb => (g2.base b hb).trans (g1.base b hb), fun b L hL => ?_, fun b x h1 h2 => by
    obtain ⟨y, hy⟩ := g2.dom b x h1 h2
    exact g1.dom b y hy h2⟩
  rotate_right
  · rcases g2.newP b L hL with h0 | h0 | ⟨b0, x0, L0, k1, k2, k3⟩
    · exact g1.newP b L h0
    · exact .inr (.inl (Nat.le_trans g1.size h0))
    · rcases g1.pl b0 x0 L0 k1 k2 with h0 | ⟨b1, x1, L1, j1, j2, j3⟩
      · exact .inr (.inl (by omega))
      · exact .inr (.inr ⟨b1, x1, L1, j1, j2, j3.trans k3⟩)
  · rw [g2.keep B (Nat.lt_of_lt_of_le hB g1.size) fun b x L h1 h2 he => ?_, g1.keep B hB hne]
    rcases g1.pl b x L h1 h2 with h0 | ⟨b0, x0, L0, k1, k2, k3⟩
    · omega
    · exact hne b0 x0 L0 k1 k2 (k3.trans he)
  · rcases g2.newF B hB with h0 | h0 | ⟨b, x, L, h1, h2, h3⟩
    · exact g1.newF B h0
    · exact .inr (.inl (Nat.le_trans g1.size h0))
    · rcases g1.pl b x L h1 h2 with h0 | ⟨b0, x0, L0, k1, k2, k3⟩
      · exact .inr (.inl (by omega))
      · exact .inr (.inr ⟨b0, x0, L0, k1, k2, k3.trans h3⟩)
  · rcases g2.pl b x L h1 h2 with h0 | ⟨b0, x0, L0, k1, k2, k3⟩
    · exact .inl (Nat.le_trans g1.size h0)
    · rcases g1.pl b0 x0 L0 k1 k2 with h0 | ⟨b1, x1, L1, j1, j2, j3⟩
      · exact .inl (by omega)
      · exact .inr ⟨b1, x1, L1, j1, j2, j3.trans k3⟩

theorem ItemsOk.weak {items : List Item} (h : ItemsOk P rd items σ Q) : ItemsW P n0 rd items σ Q := by
  intro F φ b a k cs w hs hn hrd
  obtain ⟨e, σ', F', φ', a', cs', w', q, s, g, rest⟩ := h F φ b a k cs w hs hrd
  exact ⟨e, σ', F', φ', a', cs', w', q, s, g.weak hn hs.heap, rest⟩

theorem ItemsW.mono {items : List Item} (h : ItemsW P n0 rd items σ Q) (hq : ∀ e σ', Q e σ' → Q' e σ') : ItemsW P n0 rd items σ Q' := by
  intro F φ b a k cs w hs hn hrd
  obtain ⟨e, σ', F', φ', a', cs', w', q, rest⟩ := h F φ b a k cs w hs hn hrd
  exact ⟨e, σ', F', φ', a', cs', w', hq _ _ q, rest⟩

theorem ItemsW.then {x y : List Item} (hpass : ∀ id k, exitTo id (y ++ k) = exitTo id k)
    (h : ItemsW P n0 rd x σ (fun e σ' => match e with | .normal => ItemsW P n0 rd y σ' Q | e => Q e σ')) : ItemsW P n0 rd (x ++ y) σ Q := by
  intro F φ b a k cs w hs hn hrd
  obtain ⟨e, σ1, F1, φ1, a1, cs1, w1, q, s1, g1, c1, r1⟩ := h F φ b a (y ++ k) cs w hs hn hrd
  rw [List.append_assoc]
  cases e with
  | normal =>
    obtain ⟨e, σ2, F2, φ2, a2, cs2, w2, q2, s2, g2, c2, r2⟩ := q F1 φ1 b a1 k cs1 w1 s1 g1.nle hrd
    exact ⟨e, σ2, F2, φ2, a2, cs2, w2, q2, s2, g1.trans g2, c1.trans g1.u c2, r2.of_steps r1⟩
  | exit id =>
    obtain ⟨k0, h1, h2⟩ := r1
    exact ⟨.exit id, σ1, F1, φ1, a1, cs1, w1, q, s1, g1, c1, k0, by rw [h1, hpass], h2⟩
  | ret => exact ⟨.ret, σ1, F1, φ1, a1, cs1, w1, q, s1, g1, c1, r1⟩
  | panic v => exact ⟨.panic v, σ1, F1, φ1, a1, cs1, w1, q, s1, g1, c1, r1⟩

theorem ItemsW.step {x y : List Item} (hst : ∀ F φ (b : Frame) a k cs w, SR P F φ σ b a cs w → b.roundOf.isSome = rd → step P (lone (b.atR a (x ++ k)) cs w) = .next (lone (b.atR a (y ++ k)) cs w))
    (h : ItemsW P n0 rd y σ Q) : ItemsW P n0 rd x σ Q := by
  intro F φ b a k cs w hs hn hrd
  obtain ⟨e, σ1, F1, φ1, a1, cs1, w1, q, s1, g1, c1, r1⟩ := h F φ b a k cs w hs hn hrd
  exact ⟨e, σ1, F1, φ1, a1, cs1, w1, q, s1, g1, c1, r1.of_steps (.one (hst F φ b a k cs w hs hrd))⟩

theorem CodeW.seq {x y : Code} (h : CodeW P n0 rd x σ (fun e σ' => match e with | .normal => CodeW P n0 rd y σ' Q | e => Q e σ')) : CodeW P n0 rd (.seq x y) σ Q :=
  ItemsW.step (y := [.code x, .code y]) (fun F φ b a k cs w _ _ => stepR_seq) (ItemsW.then (x := [.code x]) (y := [.code y]) (fun _ _ => rfl) h)

theorem CodeW.cond {c : Operand} {x y : Code} {t : Bool} (hc : opnd σ.t c = .bool t) (h : CodeW P n0 rd (if t then x else y) σ Q) : CodeW P n0 rd (.cond c x y) σ Q := by
  refine ItemsW.step (y := [.code (if t then x else y)]) (fun F φ b a k cs w hs _ => stepR_cond ?_) h
  have := opnd_VR hs.tmps c
  rw [hc] at this
  generalize a.eval c = v at this ⊢
  cases this
  rfl

theorem CodeW.block {id : Nat} {c : Code} (h : CodeW P n0 rd c σ (fun e σ' => match e with | .exit id' => if id' = id then Q .normal σ' else Q (.exit id') σ' | e => Q e σ')) : CodeW P n0 rd (.block id c) σ Q := by
  intro F φ b a k cs w hs hn hrd
  obtain ⟨e, σ1, F1, φ1, a1, cs1, w1, q, s1, g1, c1, r1⟩ := h F φ b a (.inBlock id :: k) cs w hs hn hrd
  have h0 : Steps P (lone (b.atR a (.code (.block id c) :: k)) cs w) (lone (b.atR a ([.code c] ++ .inBlock id :: k)) cs w) := .one stepR_block
  cases e with
  | normal => exact ⟨.normal, σ1, F1, φ1, a1, cs1, w1, q, s1, g1, c1, h0.trans (Steps.trans r1 (.one stepR_inBlock))⟩
  | exit id' =>
    obtain ⟨k0, h1, h2⟩ := r1
    by_cases hid : id' = id
    · subst hid
      simp only [if_true] at q
      exact ⟨.normal, σ1, F1, φ1, a1, cs1, w1, q, s1, g1, c1, h0.trans (h2.trans (.one (stepR_exit (by rw [h1]; simp [exitTo]))))⟩
    · simp only [hid, if_false] at q
      refine ⟨.exit id', σ1, F1, φ1, a1, cs1, w1, q, s1, g1, c1, k0, ?_, h0.trans h2⟩
      rw [h1]
      have : (id == id') = false := by simp; exact fun h => hid h.symm
      simp [exitTo, this]
  | ret => obtain ⟨k0, h2⟩ := r1; exact ⟨.ret, σ1, F1, φ1, a1, cs1, w1, q, s1, g1, c1, k0, h0.trans h2⟩
  | panic v => obtain ⟨k0, vc, h1, h2⟩ := r1; exact ⟨.panic v, σ1, F1, φ1, a1, cs1, w1, q, s1, g1, c1, k0, vc, h1, h0.trans h2⟩

theorem LoopW.round {c : Code} (h : CodeW P n0 rd c σ (fun e σ' => match e with | .normal => LoopW P n0 rd c σ' Q | e => Q e σ')) : LoopW P n0 rd c σ Q :=
  ItemsW.then (x := [.code c]) (y := [.inLoop c]) (fun _ _ => rfl) (h.mono fun e σ' q => by
    cases e with
    | normal => exact ItemsW.step (y := [.code c, .inLoop c]) (fun F φ b a k cs w _ _ => stepR_inLoop) q
    | _ => exact q)

theorem CodeW.loop {c : Code} (h : LoopW P n0 rd c σ Q) : CodeW P n0 rd (.loop c) σ Q :=
  ItemsW.step (y := [.code c, .inLoop c]) (fun F φ b a k cs w _ _ => stepR_loop) h

/-- Some blocks forgotten. -/
theorem ItemsW.ren {items : List Item} (hn : ∀ F φ b a cs w, SR P F φ σ b a cs w → ∃ φ2, SR P F φ2 σ2 b a cs w ∧ (∀ b L, φ2 b = some L → φ b = some L) ∧ (∀ b, b < n0 → φ2 b = φ b)) (hh : ∀ b x, σ2.h b = some x → ∃ y, σ.h b = some y)
    (hle : n0 ≤ σ2.n) (hnt : σ2.nt = σ.nt) (hu : σ2.u.isSome = σ.u.isSome) (h : ItemsW P n0 rd items σ2 Q) : ItemsW P n0 rd items σ Q := by
  intro F φ b a k cs w hs _ hrd
  obtain ⟨φ2, s2, hsub, hbase⟩ := hn F φ b a cs w hs
  obtain ⟨e, σ', F', φ', a', cs', w', q, s, g, c, r⟩ := h F φ2 b a k cs w s2 hle hrd
  have g0 : WGoes n0 F φ σ w F φ2 σ2 w := ⟨fun _ _ h => h, Nat.le_refl _, fun _ _ _ => rfl, fun _ h => .inl h, fun b x L h1 h2 => (by
      obtain ⟨y, hy⟩ := hh b x h1
      exact .inr ⟨b, y, L, hy, hsub _ _ h2, rfl⟩), ⟨rfl, rfl, rfl⟩, hnt, hu, hle, hbase, fun b L h => .inl (hsub _ _ h), fun b x h1 _ => hh b x h1⟩
  refine ⟨e, σ', F', φ', a', cs', w', q, s, g0.trans g, ?_, r⟩
  cases h1 : σ.u with
  | none =>
    rw [h1] at hu
    cases h2 : σ2.u with
    | none => rw [h2] at c; exact c
    | some _ => rw [h2] at hu; cases hu
  | some m =>
    rw [h1] at hu
    cases h2 : σ2.u with
    | none => rw [h2] at hu; cases hu
    | some _ => rw [h2] at c; exact c
end
end Go.Ab

/- Calls, out of bodies whose runs are told of weakly. -/
namespace Go.Ab
open Go

section
variable {P : Program}

theorem CallOk.of_bodyW (hP : Fit P) {f : FuncId} {fn : Func} {c : Code} {args : List AV} {h : Nat → Option ABlk} {n : Nat} {Q : AEnd → (Nat → Option ABlk) → Nat → Prop} (hf : P.funcs[f]? = some fn) (hb : fn.body = some c)
    (hc : CodeW P n false c (startσ args fn.ntmps h n none) (BodyPost P fn Q)) : CallOk P f args h n Q := by
  intro F φ cargs w hr ha cs
  let b : Frame := { (default : Frame) with fn := f, kind := .normal, roundOf := none }
  have henter : Frame.enter P f cargs .normal = b.atR { tmps := cargs ++ Array.replicate (fn.ntmps - cargs.size) undef, defers := [] } ([.code c] ++ []) := by
    simp [Frame.enter, Frame.atR, hf, hb, b]
  obtain ⟨e, σ', F', φ', a', cs', w', q, s1, g1, c1, r1⟩ := hc F φ b _ [] cs w (start_SR (b := b) (cs := cs) (u := none) hr ha rfl hf trivial) (Nat.le_refl _) rfl
  rw [← henter] at r1
  have hcs : cs' = cs := c1
  subst hcs
  have e0 : Ext F φ n h w F' φ' σ'.n w' := by
    refine ⟨g1.terr, fun b L hL => ?_, g1.nle, g1.size, g1.keep, g1.newF, g1.newP, fun b L hL hb => ?_, g1.out⟩
    · have hb : b < n := by
        by_cases hb : b < n
        · exact hb
        · rw [hr.fresh b (by omega)] at hL; cases hL
      rw [g1.base b hb]; exact hL
    · rw [← g1.base b hb]; exact hL
  -- the frame, about to leave
  have leave : ∀ (m : AMode) (fr : Frame), LeaveOk P fn σ'.t Q σ'.d m σ'.h σ'.n → fr.defers = a'.defers → fr.tmps = a'.tmps → fr.kind = .normal → fr.fn = f → MR F' φ' m fr.mode →
      Steps P (lone (Frame.enter P f cargs .normal) cs' w) (lone fr cs' w') →
      ∃ e w'' fr', (∃ ae F2 φ2 h2 n2, Q ae h2 n2 ∧ ER F2 φ2 ae e ∧ HR P F2 φ2 n2 h2 w'' ∧ Ext F φ n h w F2 φ2 n2 w'' ∧ ∀ b x, h2 b = some x → b < n → ∃ y, h b = some y) ∧
        Comes P (lone (Frame.enter P f cargs .normal) cs' w) (lone fr' cs' w'') e ∧ fr'.fn = f ∧ fr'.leaving P w'' e := by
    intro m fr hl hd htm hk hfn hm hst
    obtain ⟨ae, e, F2, φ2, h2, n2, w2, fr2, q', e1, e2, e3, e4, e5, e6, e7⟩ := leave_ok hP σ'.d m σ'.h σ'.n σ'.t hl F' φ' fr cs' w' s1.heap (by rw [hd]; exact s1.defs) hm (fun i => by rw [htm]; exact s1.tmps i) hk (by rw [hfn]; exact hf)
    refine ⟨e, w2, fr2, ⟨ae, F2, φ2, h2, n2, q', e1, e2, e0.trans hr g1.dom e3, fun b' x hx hb' => ?_⟩, ?_, by rw [e6, hfn], e7⟩
    · obtain ⟨y, hy⟩ := e4 b' x hx (Nat.lt_of_lt_of_le hb' g1.nle)
      exact g1.dom b' y hy hb'
    · cases ae with
      | ret v => obtain ⟨vc, _, rfl⟩ := e1; exact hst.trans e5
      | pan v => obtain ⟨vc, _, rfl⟩ := e1; exact hst.trans e5
  cases e with
  | normal =>
    have hst : Steps P (lone (Frame.enter P f cargs .normal) cs' w) (lone { b.atR a' [] with mode := .returning } cs' w') := Steps.trans r1 (.one (stepR_end rfl))
    exact leave .ret _ q rfl rfl rfl rfl (show MR F' φ' .ret .returning from rfl) hst
  | ret =>
    obtain ⟨k0, h2⟩ := r1
    have hst : Steps P (lone (Frame.enter P f cargs .normal) cs' w) (lone { b.atR a' (.code .ret :: k0) with mode := .returning } cs' w') := Steps.trans h2 (.one (stepR_ret rfl))
    exact leave .ret _ q rfl rfl rfl rfl (show MR F' φ' .ret .returning from rfl) hst
  | exit id => exact q.elim
  | panic v =>
    obtain ⟨k0, vc, hv, h2⟩ := r1
    exact leave (.pan v false) _ q rfl rfl rfl rfl ⟨vc, hv, rfl⟩ h2

theorem CallOk.mono {f : FuncId} {args : List AV} {h : Nat → Option ABlk} {n : Nat} {Q Q' : AEnd → (Nat → Option ABlk) → Nat → Prop} (hc : CallOk P f args h n Q) (hq : ∀ e h n, Q e h n → Q' e h n) : CallOk P f args h n Q' := by
  intro F φ cargs w hr ha
  refine (hc F φ cargs w hr ha).mono ?_
  rintro e w' ⟨ae, F', φ', h', n', q, rest⟩
  exact ⟨ae, F', φ', h', n', hq _ _ _ q, rest⟩

theorem ClosedCall.of_body (hP : Fit P) {f : FuncId} {fn : Func} {c : Code} {args : List AV} {ae : AEnd} (hclo : ae.clo) (hf : P.funcs[f]? = some fn) (hb : fn.body = some c)
    (hc : CodeW P 0 false c (startσ args fn.ntmps (fun _ => none) 0 none) (BodyPost P fn fun e _ _ => e = ae)) : ClosedCall P f args ae :=
  ClosedCall.of_call hclo (CallOk.of_bodyW hP hf hb hc)
end
end Go.Ab

/- Forgetting: the counter set back, later blocks dropped, dead temporaries no longer told of. -/
namespace Go.Ab
open Go

def belowPhi (φ : Phi) (m : Nat) : Phi := fun b => if b < m then φ b else none

/-- A value that names no block from a number on. -/
def Low (m : Nat) (v : AV) : Prop := ∀ F φ c, VR F φ v c → VR F (belowPhi φ m) v c
def LowB (m : Nat) (x : ABlk) : Prop := ∀ P F φ w L, BR P F φ w L x → BR P F (belowPhi φ m) w L x

theorem Clo.low {v : AV} (h : Clo v) (m : Nat) : Low m v := fun F φ c hv => h F φ _ c hv

theorem Low.ptr {m b r o : Nat} (h : b < m) : Low m (.ptr b r o) := fun F φ c hv => by
  cases hv with
  | ptr h1 => exact .ptr (by simp [belowPhi, h, h1])

theorem Low.map {m b : Nat} (h : b < m) : Low m (.map b) := fun F φ c hv => by
  cases hv with
  | map h1 => exact .map (by simp [belowPhi, h, h1])

theorem Low.sl {m b s n : Nat} {k : Option Nat} (h : b < m) : Low m (.sl b s n k) := fun F φ c hv => by
  cases hv with
  | sl h1 hn hc hr ht ha => exact .sl (by simp [belowPhi, h, h1]) hn hc hr ht ha

theorem Low.agg {m : Nat} {cs : List AV} (h : ∀ x ∈ cs, Low m x) : Low m (.agg cs) := fun F φ c hv => by
  cases hv with
  | agg hl h1 => exact .agg hl fun i x v hx hv => h x (List.mem_of_getElem? hx) _ _ _ (h1 i x v hx hv)

theorem Low.tup {m : Nat} {cs : List AV} (h : ∀ x ∈ cs, Low m x) : Low m (.tup cs) := fun F φ c hv => by
  cases hv with
  | tup hl h1 => exact .tup hl fun i x v hx hv => h x (List.mem_of_getElem? hx) _ _ _ (h1 i x v hx hv)

theorem VRL.low {m : Nat} {F : Terr} {φ : Phi} : ∀ {xs : List AV} {cs : List Value}, (∀ x ∈ xs, Low m x) → VRL F φ xs cs → VRL F (belowPhi φ m) xs cs
  | [], [], _, _ => trivial
  | x :: xs, c :: cs, h, hv => ⟨h x (List.mem_cons_self ..) _ _ _ hv.1, VRL.low (fun y hy => h y (List.mem_cons_of_mem _ hy)) hv.2⟩
  | [], _ :: _, _, h => h.elim
  | _ :: _, [], _, h => h.elim

theorem LowB.rows {m : Nat} {t : TypeId} {rs : List (List AV)} (h : ∀ r ∈ rs, ∀ x ∈ r, Low m x) : LowB m (.rows t rs) := by
  rintro P F φ w L ⟨cs, h1, h2, h3, h3', h4, h5⟩
  exact ⟨cs, h1, h2, h3, h3', h4, fun r row hr => (h5 r row hr).low fun x hx => h row (List.mem_of_getElem? hr) x hx⟩

theorem DsR.low {m : Nat} {F : Terr} {φ : Phi} : ∀ {xs : List (ADef ⊕ Nat)} {ds : List Deferred}, (∀ x ∈ xs, ∃ d, x = .inl d ∧ (∃ g first captured, d.fv = .fn (.func g) first captured ∧ (∀ v ∈ first, Low m v) ∧ (∀ v ∈ captured, Low m v)) ∧ ∀ v ∈ d.args, Low m v) → DsR F φ xs ds → DsR F (belowPhi φ m) xs ds
  | [], [], _, _ => trivial
  | x :: xs, d :: ds, h, hv => by
    refine ⟨?_, DsR.low (fun y hy => h y (List.mem_cons_of_mem _ hy)) hv.2⟩
    obtain ⟨ad, rfl, ⟨g, fi, ca, k1, k2, k3⟩, k4⟩ := h x (List.mem_cons_self ..)
    obtain ⟨g', first, captured, cap, h1, h2, h3, h4⟩ := hv.1
    have h1' : AV.fn (.func g) fi ca = .fn (.func g') first captured := k1.symm.trans h1
    injection h1' with q1 q2 q3
    injection q1 with q1
    subst q1 q2 q3
    exact ⟨g, fi, ca, cap, k1, h2, VRL.low k3 h3, VRL.low (fun v hv => by
      rcases List.mem_append.1 hv with h0 | h0
      · exact k2 v h0
      · exact k4 v h0) h4⟩
  | [], _ :: _, _, h => h.elim
  | _ :: _, [], _, h => h.elim

section
variable {P : Program} {rd : Bool} {n0 : Nat} {Q : AExit → ASt → Prop} {σ σ2 : ASt}

theorem ItemsW.low {items : List Item} (m : Nat) (hn0 : n0 ≤ m) (hm : m ≤ σ.n) (hn : σ2.n = m) (hnt : σ2.nt = σ.nt) (hd : σ2.d = σ.d)
    (hdl : ∀ x ∈ σ.d, ∃ d, x = .inl d ∧ (∃ g first captured, d.fv = .fn (.func g) first captured ∧ (∀ v ∈ first, Low m v) ∧ (∀ v ∈ captured, Low m v)) ∧ ∀ v ∈ d.args, Low m v) (hu : σ.u = none) (hu2 : σ2.u = none)
    (ht : ∀ i, σ2.t i = .any ∨ (σ2.t i = σ.t i ∧ Low m (σ.t i))) (hh : ∀ b x, σ2.h b = some x → b < m ∧ σ.h b = some x ∧ LowB m x) (h : ItemsW P n0 rd items σ2 Q) : ItemsW P n0 rd items σ Q := by
  refine ItemsW.ren (σ2 := σ2) (fun F φ b a cs w hs => ⟨belowPhi φ m, ⟨fun i => ?_, by rw [hs.size, hnt], ?_, ⟨hs.heap.terr, fun b x hx => ?_, fun b b' x x' L L' h1 h2 h3 h4 h5 => ?_, fun b hb => ?_, fun b L hL => ?_⟩, hs.fn, by rw [hu2]; trivial⟩, fun b L hL => ?_, fun b hb => ?_⟩)
    (fun b x h => ⟨x, (hh b x h).2.1⟩) (by rw [hn]; exact hn0) hnt (by rw [hu, hu2]) h
  · rcases ht i with h1 | ⟨h1, h2⟩
    · rw [h1]; exact .any _
    · rw [h1]; exact h2 _ _ _ (hs.tmps i)
  · rw [hd]
    exact DsR.low hdl hs.defs
  · obtain ⟨h1, h2, h3⟩ := hh b x hx
    obtain ⟨L, k1, k2, k3⟩ := hs.heap.blk b x h2
    exact ⟨L, by simp [belowPhi, h1, k1], k2, h3 _ _ _ _ _ k3⟩
  · obtain ⟨k1, k2, _⟩ := hh b x h1
    obtain ⟨j1, j2, _⟩ := hh b' x' h2
    simp only [belowPhi, k1, j1, if_true] at h3 h4
    exact hs.heap.inj b b' x x' L L' k2 j2 h3 h4 h5
  · unfold belowPhi
    rw [if_neg (by omega)]
  · unfold belowPhi at hL
    split at hL
    · exact hs.heap.below b L hL
    · cases hL
  · unfold belowPhi at hL
    split at hL
    · exact hL
    · cases hL
  · unfold belowPhi
    rw [if_pos (by omega)]
end
end Go.Ab

/- The evaluator on open values: a tree of what is asked on the way, and what comes after each answer. -/
namespace Go.Ab
open Go

inductive T where
  | ok (e : AExit) (s : ES)
  | br (b : Bool) (t f : T)
  | idx (ty : TypeId) (rows : List (List AV)) (i : Int) (sz : Option Nat) (k : List AV → T)
  | idxS (m : Nat) (i : Int) (t : T)
  | ask (s : ES) (o : Oper) (k : ANext → T)
  | call (f : FuncId) (args : List AV) (hp : HP) (k : AEnd → HP → T)
  | pcall (f : FuncId) (args : List AV) (k : AV → T)
  | loop (c : Code) (s : ES) (k : AExit → ES → T)
  | stuck

def T.Holds (P : Program) (n0 : Nat) (rd : Bool) (Q : AExit → ES → Prop) : T → Prop
  | .ok e s => Q e s
  | .br b t f => (b = true → t.Holds P n0 rd Q) ∧ (b = false → f.Holds P n0 rd Q)
  | .idx _ rows i sz k => ∃ r, (0 ≤ i ∧ rows[i.toNat]? = some r ∧ sz = some r.length) ∧ (k r).Holds P n0 rd Q
  | .idxS m i t => (0 ≤ i ∧ i < m) ∧ t.Holds P n0 rd Q
  | .ask s o k => ∃ nx, aop P s.hp.tr.get s.hp.n (opnd s.t) o = some nx ∧ (k nx).Holds P n0 rd Q
  | .call f args hp k => ∃ ae hp', CallOk P f args hp.tr.get hp.n (fun e h n => e = ae ∧ h = hp'.tr.get ∧ n = hp'.n) ∧ (k ae hp').Holds P n0 rd Q
  | .pcall f args k => ∃ v, (ClosedCall P f args (.ret v) ∧ (∀ x ∈ args, Clo x) ∧ Clo v) ∧ (k v).Holds P n0 rd Q
  | .loop c s k => LoopW P n0 rd c s.den fun e σ => ∃ s', σ = s'.den ∧ s'.nt = s.nt ∧ (k e s').Holds P n0 rd Q
  | .stuck => False

/-! ### Looking into a tree -/
namespace T
def tag : T → Nat
  | ok _ _ => 0 | br _ _ _ => 1 | idx _ _ _ _ _ => 2 | idxS _ _ _ => 3 | ask _ _ _ => 4 | call _ _ _ _ => 5 | pcall _ _ _ => 6 | loop _ _ _ => 7 | stuck => 8
def bit : T → Bool
  | br b _ _ => b | _ => false
def yes : T → T
  | br _ t _ => t | _ => stuck
def no : T → T
  | br _ _ t => t | _ => stuck
def rows : T → List (List AV)
  | idx _ r _ _ _ => r | _ => []
def num : T → Int
  | idx _ _ i _ _ => i | idxS _ i _ => i | _ => 0
def most : T → Nat
  | idxS m _ _ => m | _ => 0
def size : T → Option Nat
  | idx _ _ _ s _ => s | _ => none
def at' : T → List AV → T
  | idx _ _ _ _ k, r => k r | _, _ => stuck
def in' : T → T
  | idxS _ _ t => t | _ => stuck
def qs : T → Option (ES × Oper)
  | ask s o _ => some (s, o) | _ => none
def nx : T → ANext → T
  | ask _ _ k, x => k x | _, _ => stuck
def fid : T → FuncId
  | call f _ _ _ => f | pcall f _ _ => f | _ => 0
def args : T → List AV
  | call _ a _ _ => a | pcall _ a _ => a | _ => []
def hp : T → HP
  | call _ _ h _ => h | _ => ⟨.leaf, 0⟩
def aft : T → AEnd → HP → T
  | call _ _ _ k, e, h => k e h | _, _, _ => stuck
def got : T → AV → T
  | pcall _ _ k, v => k v | _, _ => stuck
def code : T → Code
  | loop c _ _ => c | _ => .skip
def st : T → ES
  | loop _ s _ => s | ok _ s => s | ask s _ _ => s | _ => ⟨.leaf, fun _ => .any, 0, [], ⟨.leaf, 0⟩, none⟩
def out : T → AExit → ES → T
  | loop _ _ k, e, s => k e s | _, _, _ => stuck
def exit : T → AExit
  | ok e _ => e | _ => .normal
end T

section
variable {P : Program} {n0 : Nat} {rd : Bool} {Q : AExit → ES → Prop} {t : T}

theorem T.Holds.mono {Q' : AExit → ES → Prop} : ∀ {t : T}, t.Holds P n0 rd Q → (∀ e s, Q e s → Q' e s) → t.Holds P n0 rd Q'
  | .ok _ _, h, hq => hq _ _ h
  | .br _ _ _, h, hq => ⟨fun hb => T.Holds.mono (h.1 hb) hq, fun hb => T.Holds.mono (h.2 hb) hq⟩
  | .idx _ _ _ _ _, ⟨r, h1, h2⟩, hq => ⟨r, h1, T.Holds.mono h2 hq⟩
  | .idxS _ _ _, ⟨h1, h2⟩, hq => ⟨h1, T.Holds.mono h2 hq⟩
  | .ask _ _ _, ⟨x, h1, h2⟩, hq => ⟨x, h1, T.Holds.mono h2 hq⟩
  | .call _ _ _ _, ⟨a, p, h1, h2⟩, hq => ⟨a, p, h1, T.Holds.mono h2 hq⟩
  | .pcall _ _ _, ⟨v, h1, h2⟩, hq => ⟨v, h1, T.Holds.mono h2 hq⟩
  | .loop _ _ _, h, hq => ItemsW.mono h fun _ _ ⟨s', h1, h2, h3⟩ => ⟨s', h1, h2, T.Holds.mono h3 hq⟩
  | .stuck, h, _ => h.elim
/-- The same, not to be unfolded. -/
structure T.Fine (P : Program) (n0 : Nat) (rd : Bool) (Q : AExit → ES → Prop) (t : T) : Prop where
  out : t.Holds P n0 rd Q

theorem T.at_ok (h : t.tag = 0) (hq : Q t.exit t.st) : t.Fine P n0 rd Q := by cases t <;> first | exact ⟨hq⟩ | cases h
theorem T.on_ok (e : AExit) (h : t.tag = 0) (he : t.exit = e) (hq : Q e t.st) : t.Fine P n0 rd Q := by subst he; exact T.at_ok h hq
theorem T.at_br (h : t.tag = 1) (h1 : t.bit = true → t.yes.Fine P n0 rd Q) (h2 : t.bit = false → t.no.Fine P n0 rd Q) : t.Fine P n0 rd Q := by cases t <;> first | exact ⟨⟨fun h => (h1 h).out, fun h => (h2 h).out⟩⟩ | cases h
theorem T.at_yes (h : t.tag = 1) (hb : t.bit = true) (h1 : t.yes.Fine P n0 rd Q) : t.Fine P n0 rd Q := T.at_br h (fun _ => h1) (fun h => by rw [hb] at h; cases h)
theorem T.at_no (h : t.tag = 1) (hb : t.bit = false) (h1 : t.no.Fine P n0 rd Q) : t.Fine P n0 rd Q := T.at_br h (fun h => by rw [hb] at h; cases h) (fun _ => h1)
theorem T.at_idx (h : t.tag = 2) (r : List AV) (h0 : 0 ≤ t.num) (h1 : t.rows[t.num.toNat]? = some r) (h2 : t.size = some r.length) (h3 : (t.at' r).Fine P n0 rd Q) : t.Fine P n0 rd Q := by
  cases t <;> first | exact ⟨⟨r, ⟨h0, h1, h2⟩, h3.out⟩⟩ | cases h
theorem T.on_idx {rows : List (List AV)} {i : Int} (h : t.tag = 2) (hr : t.rows = rows) (hi : t.num = i) (r : List AV) (h0 : 0 ≤ i) (h1 : rows[i.toNat]? = some r) (h2 : t.size = some r.length) (h3 : (t.at' r).Fine P n0 rd Q) : t.Fine P n0 rd Q := by
  subst hr hi; exact T.at_idx h r h0 h1 h2 h3
theorem T.on_br (b : Bool) (h : t.tag = 1) (hb : t.bit = b) (h1 : b = true → t.yes.Fine P n0 rd Q) (h2 : b = false → t.no.Fine P n0 rd Q) : t.Fine P n0 rd Q := by
  subst hb; exact T.at_br h h1 h2
theorem T.at_idxS (h : t.tag = 3) (h0 : 0 ≤ t.num) (h1 : t.num < t.most) (h3 : t.in'.Fine P n0 rd Q) : t.Fine P n0 rd Q := by cases t <;> first | exact ⟨⟨⟨h0, h1⟩, h3.out⟩⟩ | cases h
theorem T.at_ask (h : t.tag = 4) {s : ES} {o : Oper} (x : ANext) (hq : t.qs = some (s, o)) (h1 : aop P s.hp.tr.get s.hp.n (opnd s.t) o = some x) (h3 : (t.nx x).Fine P n0 rd Q) : t.Fine P n0 rd Q := by
  cases t <;> first | (cases hq; exact ⟨⟨x, h1, h3.out⟩⟩) | cases h
theorem T.at_call (h : t.tag = 5) (ae : AEnd) (hp' : HP) (h1 : CallOk P t.fid t.args t.hp.tr.get t.hp.n (fun e h n => e = ae ∧ h = hp'.tr.get ∧ n = hp'.n)) (h3 : (t.aft ae hp').Fine P n0 rd Q) : t.Fine P n0 rd Q := by
  cases t <;> first | exact ⟨⟨ae, hp', h1, h3.out⟩⟩ | cases h
theorem T.on_call (h : t.tag = 5) {f : FuncId} {args : List AV} (ae : AEnd) (hp' : HP) (hf : t.fid = f) (ha : t.args = args) (h1 : CallOk P f args t.hp.tr.get t.hp.n (fun e h n => e = ae ∧ h = hp'.tr.get ∧ n = hp'.n)) (h3 : (t.aft ae hp').Fine P n0 rd Q) : t.Fine P n0 rd Q := by
  subst hf ha; exact T.at_call h ae hp' h1 h3
theorem T.at_closed (h : t.tag = 5) {f : FuncId} {args : List AV} (ae : AEnd) (hf : t.fid = f) (ha : t.args = args) (h1 : ClosedCall P f args ae) (hc : ∀ x ∈ args, Clo x) (he : ae.clo) (h3 : (t.aft ae t.hp).Fine P n0 rd Q) : t.Fine P n0 rd Q := by
  subst hf ha
  exact T.at_call h ae t.hp ((h1.at hc he _ _)) h3
theorem T.at_pcall (h : t.tag = 6) {f : FuncId} {args : List AV} (v : AV) (hf : t.fid = f) (ha : t.args = args) (h1 : ClosedCall P f args (.ret v)) (hc : ∀ x ∈ args, Clo x) (he : Clo v) (h3 : (t.got v).Fine P n0 rd Q) : t.Fine P n0 rd Q := by
  subst hf ha
  cases t <;> first | exact ⟨⟨v, ⟨h1, hc, he⟩, h3.out⟩⟩ | cases h
/-- Where a loop may end. -/
def LoopTo (P : Program) (n0 : Nat) (rd : Bool) (Q : AExit → ES → Prop) (t : T) : AExit → ASt → Prop := fun e σ => ∃ s', σ = s'.den ∧ s'.nt = t.st.nt ∧ (t.out e s').Fine P n0 rd Q

theorem T.at_loop (h : t.tag = 7) (h1 : LoopW P n0 rd t.code t.st.den (LoopTo P n0 rd Q t)) : t.Fine P n0 rd Q := by
  cases t <;> first | exact ⟨ItemsW.mono h1 fun _ _ ⟨s', h1, h2, h3⟩ => ⟨s', h1, h2, h3.out⟩⟩ | cases h

end

/-! ### The evaluator -/
def knOf (kn : Nat) : Operand → Bool
  | .tmp i => kn.testBit i
  | .const _ => true
  | _ => false

def knSet (kn : Nat) (dst : Option Tmp) (b : Bool) : Nat :=
  match dst with
  | some d => if b then kn ||| (1 <<< d) else mdiff kn (1 <<< d)
  | none => kn

/-- Which of its answers are plain 'true' or 'false'? -/
def knAft (kn : Nat) (o : Oper) : Nat :=
  knSet kn o.dst (match o.op with
    | .move x | .assign x | .unOp _ _ x => knOf kn x
    | _ => false)

def evGuard (ops : Array Oper) (o : Oper) (kn : Nat) (s : ES) (k : Bool → Nat → ES → T) : T :=
  match o.guard with
  | none => k true kn s
  | some (j, want) =>
    match (ops[j]?).bind (·.dst) with
    | some d =>
      match s.ov.get d with
      | some (.bool b) => if kn.testBit d then k (b == want) kn s else .br b (k (true == want) (kn ||| (1 <<< d)) (s.put (some d) (.bool true))) (k (false == want) (kn ||| (1 <<< d)) (s.put (some d) (.bool false)))
      | _ => match s.t d with | .tup [] => k false kn s | _ => .stuck
    | none => .stuck

def evCond (c : Operand) (kn : Nat) (s : ES) (k : Bool → Nat → ES → T) : T :=
  match c with
  | .tmp d =>
    match s.ov.get d with
    | some (.bool b) => if kn.testBit d then (match b with | true => k true kn s | false => k false kn s) else .br b (k true (kn ||| (1 <<< d)) (s.put (some d) (.bool true))) (k false (kn ||| (1 <<< d)) (s.put (some d) (.bool false)))
    | _ => .stuck
  | .const (.bool b) => match b with | true => k true kn s | false => k false kn s
  | _ => .stuck

/-- Operations at which something is asked. -/
def evSpec (P : Program) (o : Oper) (kn : Nat) (s : ES) (k : Nat → ES → T) (els : Unit → T) : T :=
  match o.op with
  | .pick c a b =>
    match opnd s.t c with
    | .bool v =>
      if knOf kn c then (match v with | true => k (knSet kn o.dst (knOf kn a)) (s.put o.dst (opnd s.t a)) | false => k (knSet kn o.dst (knOf kn b)) (s.put o.dst (opnd s.t b)))
      else .br v (k (knSet kn o.dst (knOf kn a)) (s.put o.dst (opnd s.t a))) (k (knSet kn o.dst (knOf kn b)) (s.put o.dst (opnd s.t b)))
    | _ => .stuck
  | .indexAddr t x i =>
    match P.underlying t, opnd s.t x, opnd s.t i with
    | some (.slice e), .ro rows _, .int _ i => .idx e rows i (sizeT P e) fun r => k (knSet kn o.dst false) (s.put o.dst (.rop r 0))
    | some (.slice e), .sl b st m _, .int _ i =>
      match s.hp.tr.get b with
      | some (.rows t _) => if sizeT P t = sizeT P e then .idxS m i (k (knSet kn o.dst false) (s.put o.dst (.ptr b (st + i.toNat) 0))) else .stuck
      | _ => .stuck
    | _, _, _ => els ()
  | _ => els ()

/-- What comes behind an operation. -/
def evNext (rd : Bool) (o : Oper) (kn : Nat) (s : ES) (k : AExit → Nat → ES → T) (nx : ANext) : T :=
  match nx with
  | .val v us n =>
    match s.hp.apply us n with
    | some h => k .normal (knAft kn o) (({ s with hp := h } : ES).put o.dst v)
    | none => .stuck
  | .enter f args => .call f args s.hp fun ae hp =>
    match ae with
    | .ret v => k .normal (knSet kn o.dst false) (({ s with hp := hp } : ES).put o.dst v)
    | .pan v => k (.panic v) kn { s with hp := hp }
  | .panic v => k (.panic v) kn s
  | .defer d => if rd then .stuck else k .normal kn (({ s with d := .inl d :: s.d } : ES).put o.dst (.tup []))
  | .recover =>
    match s.u with
    | some (.pan v false) => k .normal kn (({ s with u := some (.pan v true) } : ES).put o.dst v)
    | some .ret => k .normal kn (s.put o.dst .nili)
    | _ => .stuck
  | .yield _ _ => .stuck

def evOne (P : Program) (rd : Bool) (asks : Bool) (o : Oper) (kn : Nat) (s : ES) (k : AExit → Nat → ES → T) : T :=
  evSpec P o kn s (fun kn s => k .normal kn s) fun _ =>
    if asks then .ask s o (evNext rd o kn s k)
    else match aop P s.hp.tr.get s.hp.n (opnd s.t) o with
      | some nx => evNext rd o kn s k nx
      | none => .stuck

def evOps (P : Program) (rd : Bool) (asks : Nat → Bool) (ops : Array Oper) : Nat → List Oper → Nat → ES → (AExit → Nat → ES → T) → T
  | _, [], kn, s, k => k .normal kn s
  | i, o :: os, kn, s, k => evGuard ops o kn s fun w kn s =>
    match w with
    | true => evOne P rd (asks i) o kn s fun e kn s => match e with | .normal => evOps P rd asks ops (i + 1) os kn s k | e => k e kn s
    | false => evOps P rd asks ops (i + 1) os (knSet kn o.dst false) (s.put o.dst (.tup [])) k

/-- In a region that draws its order and does no more than read and make blocks: in the order of the text. -/
def evPure (P : Program) (ops : Array Oper) (n0 : Nat) : Nat → List Oper → Nat → ES → (AExit → Nat → ES → T) → T
  | _, [], kn, s, k => k .normal kn s
  | i, o :: os, kn, s, k => evGuard ops o kn s fun w kn s =>
    match w with
    | false => evPure P ops n0 (i + 1) os (knSet kn o.dst false) (s.put o.dst (.tup [])) k
    | true =>
      match kindOf o with
      | .r => evSpec P o kn s (fun kn s => evPure P ops n0 (i + 1) os kn s k) fun _ =>
        match aop P s.hp.tr.get 0 (opnd s.t) o with
        | some (.val v _ _) => evPure P ops n0 (i + 1) os (knAft kn o) (s.put o.dst v) k
        | _ => .stuck
      | .a =>
        match aop P s.hp.tr.get (n0 + i) (opnd s.t) o with
        | some (.val v ((_, some x) :: _) _) => evPure P ops n0 (i + 1) os (knAft kn o) (({ s with hp := { s.hp with tr := s.hp.tr.set (n0 + i) (some x) } } : ES).put o.dst v) k
        | _ => .stuck
      | .c =>
        if isCall o then
          match aop P s.hp.tr.get 0 (opnd s.t) o with
          | some (.enter f args) => .pcall f args fun v => evPure P ops n0 (i + 1) os (knSet kn o.dst false) (s.put o.dst v) k
          | _ => .stuck
        else .stuck
      | .x => .stuck

def inOrder (ops : Array Oper) : Bool := (masks ops).zipIdx.all fun x => msub x.1 (2 ^ x.2 - 1)

def evCode (P : Program) (rd : Bool) (asks : Nat → Nat → Bool) : Code → Nat → ES → (AExit → Nat → ES → T) → T
  | .skip, kn, s, k => k .normal kn s
  | .ret, kn, s, k => k .ret kn s
  | .exit id, kn, s, k => k (.exit id) kn s
  | .seq a b, kn, s, k => evCode P rd asks a kn s fun e kn s => match e with | .normal => evCode P rd asks b kn s k | e => k e kn s
  | .cond c a b, kn, s, k => evCond c kn s fun v kn s => match v with | true => evCode P rd asks a kn s k | false => evCode P rd asks b kn s k
  | .block id c, kn, s, k => evCode P rd asks c kn s fun e kn s => match e with | .exit id' => if id' = id then k .normal kn s else k (.exit id') kn s | e => k e kn s
  | .loop c, _, s, k => .loop c s fun e s => k e 0 s
  | .region id ops false, kn, s, k => evOps P rd (asks id) ops 0 ops.toList kn s k
  | .region _ ops true, kn, s, k =>
    if fineA' ops && inOrder ops && decide (s.hp.n + ops.size < 2 ^ 23) && ops.toList.all (fun o => match o.dst with | some d => decide (d < s.nt) | none => true) then
      evPure P ops s.hp.n 0 ops.toList kn { s with hp := { s.hp with n := s.hp.n + ops.size } } k
    else .stuck
  | _, _, _, _ => .stuck

def noAsk : Nat → Nat → Bool := fun _ _ => false

/-- The tree of a piece of code. -/
def tree (P : Program) (rd : Bool) (asks : Nat → Nat → Bool) (c : Code) (s : ES) : T := evCode P rd asks c 0 s fun e _ s => .ok e s

end Go.Ab

/- What the tree tells is so: regions in the order of the text. -/
namespace Go.Ab
open Go

theorem Tr.setD_same {α : Type} : ∀ (d : Nat) (t : Tr α) (n : Nat) (v : α), Tr.getD d t n = some v → Tr.setD d t n (some v) = t
  | _, .leaf, n, v, h => by simp [Tr.getD] at h
  | d, .node l x r, 0, v, h => by
    simp only [Tr.getD] at h
    cases d <;> simp [Tr.setD, h]
  | 0, .node l x r, n + 1, v, h => by simp [Tr.getD] at h
  | d + 1, .node l x r, n + 1, v, h => by
    simp only [Tr.getD] at h
    simp only [Tr.setD]
    split at h
    · rename_i h2; rw [if_pos h2, Tr.setD_same d l _ v h]
    · rename_i h2; rw [if_neg h2, Tr.setD_same d r _ v h]

theorem ES.put_same (s : ES) {d : Tmp} {v : AV} (h : s.ov.get d = some v) : s.put (some d) v = s := by
  unfold ES.put
  simp only
  split
  · rw [show s.ov.set d (some v) = s.ov from Tr.setD_same _ _ _ _ h]
  · rfl

theorem ES.t_of_ov {s : ES} {d : Tmp} {v : AV} (h : s.ov.get d = some v) : s.t d = v := by simp [ES.t, h]

theorem ES.put_nt2 (s : ES) (dst : Option Tmp) (v : AV) : (s.put dst v).nt = s.nt := by
  unfold ES.put
  split
  · split <;> rfl
  · rfl

section
variable {P : Program} {n0 : Nat} {rd : Bool} {Q : AExit → ES → Prop}

theorem evGuard_sound {ops : Array Oper} {o : Oper} {kn : Nat} {s : ES} {k : Bool → Nat → ES → T} (h : (evGuard ops o kn s k).Holds P n0 rd Q) :
    ∃ r kn', wantedA ops s.t o = some r ∧ (k r kn' s).Holds P n0 rd Q := by
  unfold evGuard at h
  unfold wantedA
  split at h
  · rename_i hg; exact ⟨true, kn, by rw [hg], h⟩
  · rename_i j want hg
    simp only [hg]
    split at h
    · rename_i d hd
      simp only [hd]
      split at h
      · rename_i b hb
        simp only [ES.t_of_ov hb]
        split at h
        · exact ⟨_, _, rfl, h⟩
        · cases b with
          | true => have := h.1 rfl; rw [ES.put_same s hb] at this; exact ⟨_, _, rfl, this⟩
          | false => have := h.2 rfl; rw [ES.put_same s hb] at this; exact ⟨_, _, rfl, this⟩
      · split at h
        · rename_i ht; simp only [ht]; exact ⟨_, _, rfl, h⟩
        · exact h.elim
    · exact h.elim

theorem evCond_sound {c : Operand} {kn : Nat} {s : ES} {k : Bool → Nat → ES → T} (h : (evCond c kn s k).Holds P n0 rd Q) :
    ∃ r kn', opnd s.t c = .bool r ∧ (k r kn' s).Holds P n0 rd Q := by
  unfold evCond at h
  split at h
  · rename_i d
    split at h
    · rename_i b hb
      refine ⟨b, ?_⟩
      simp only [opnd, ES.t_of_ov hb, true_and]
      split at h
      · split at h
        · exact ⟨_, h⟩
        · exact ⟨_, h⟩
      · cases b with
        | true => have := h.1 rfl; rw [ES.put_same s hb] at this; exact ⟨_, this⟩
        | false => have := h.2 rfl; rw [ES.put_same s hb] at this; exact ⟨_, this⟩
    · exact h.elim
  · rename_i b
    refine ⟨b, kn, rfl, ?_⟩
    split at h <;> exact h
  · exact h.elim

theorem evSpec_sound {o : Oper} {kn : Nat} {s : ES} {k : Nat → ES → T} {els : Unit → T} (h : (evSpec P o kn s k els).Holds P n0 rd Q) :
    (∃ v kn', (∀ n, aop P s.hp.tr.get n (opnd s.t) o = some (.val v [] n)) ∧ (k kn' (s.put o.dst v)).Holds P n0 rd Q) ∨ (els ()).Holds P n0 rd Q := by
  unfold evSpec at h
  split at h
  · rename_i c a b hop
    split at h
    · rename_i v hc
      left
      have ha : ∀ n, aop P s.hp.tr.get n (opnd s.t) o = some (.val (if v then opnd s.t a else opnd s.t b) [] n) := by
        intro n
        unfold aop
        simp only [hop, hc]
        cases v <;> rfl
      split at h
      · cases v with
        | true => exact ⟨_, _, ha, h⟩
        | false => exact ⟨_, _, ha, h⟩
      · cases v with
        | true => exact ⟨_, _, ha, h.1 rfl⟩
        | false => exact ⟨_, _, ha, h.2 rfl⟩
    · exact h.elim
  · rename_i t x i hop
    split at h
    · rename_i e rows tight k' i' hu hx hi
      obtain ⟨r, ⟨h0, h1, h2⟩, h3⟩ := h
      refine .inl ⟨_, _, fun n => ?_, h3⟩
      unfold aop
      simp only [hop, hu, hx, hi, if_pos h0, h1]
      rw [if_pos h2]
    · rename_i e b st m c k' i' hu hx hi
      split at h
      · rename_i t' rs hb
        split at h
        · rename_i hsz
          obtain ⟨⟨h0, h1⟩, h3⟩ := h
          refine .inl ⟨_, _, fun n => ?_, h3⟩
          unfold aop
          simp only [hop, hu, hx, hi, hb]
          rw [if_pos ⟨h0, h1⟩, if_pos hsz]
        · exact h.elim
      · exact h.elim
    · exact .inr h
  · exact .inr h

theorem evNext_sound {R : AExit → ASt → Prop} {o : Oper} {kn : Nat} {s : ES} {k : AExit → Nat → ES → T} {nx : ANext} (hs : s.nt < 2 ^ 23) (h : (evNext rd o kn s k nx).Holds P n0 rd Q)
    (hk : ∀ e kn' s', s'.nt = s.nt → (k e kn' s').Holds P n0 rd Q → R e s'.den) : OperPost P rd o s.den R (some nx) := by
  unfold evNext at h
  cases nx with
  | val v us n =>
    simp only at h
    split at h
    · rename_i h' ha
      obtain ⟨h1, h2⟩ := HP.apply_some ha
      obtain ⟨p1, p2⟩ := ES.den_put { s with hp := h' } o.dst v hs
      have := hk _ _ _ p2 h
      rw [p1, ES.den_hp, h1, h2] at this
      exact this
    · exact h.elim
  | enter f args =>
    obtain ⟨ae, hp', hc, h2⟩ := h
    intro F φ cargs w h3 h4
    refine (hc F φ cargs w h3 h4).mono ?_
    rintro e w' ⟨ae', F', φ', h', n', ⟨rfl, rfl, rfl⟩, rest⟩
    refine ⟨ae', F', φ', _, _, ?_, rest⟩
    cases ae' with
    | ret v =>
      obtain ⟨p1, p2⟩ := ES.den_put { s with hp := hp' } o.dst v hs
      have := hk _ _ _ p2 h2
      rw [p1, ES.den_hp] at this
      exact this
    | pan v => exact hk _ _ { s with hp := hp' } rfl h2
  | yield l args => exact h.elim
  | defer d =>
    simp only at h
    split at h
    · exact h.elim
    · rename_i hrd
      obtain ⟨p1, p2⟩ := ES.den_put { s with d := .inl d :: s.d } o.dst (.tup []) hs
      have := hk _ _ _ p2 h
      rw [p1] at this
      exact ⟨by simpa using hrd, this⟩
  | panic v => exact hk _ _ s rfl h
  | recover =>
    simp only at h
    simp only [OperPost, show s.den.u = s.u from rfl]
    split at h
    · rename_i v hu
      rw [hu]
      obtain ⟨p1, p2⟩ := ES.den_put { s with u := some (.pan v true) } o.dst v hs
      have := hk _ _ _ p2 h
      rw [p1] at this
      exact this
    · rename_i hu
      rw [hu]
      obtain ⟨p1, p2⟩ := ES.den_put s o.dst .nili hs
      have := hk _ _ _ p2 h
      rw [p1] at this
      exact this
    · exact h.elim

theorem evOne_sound {R : AExit → ASt → Prop} {o : Oper} {asks : Bool} {kn : Nat} {s : ES} {k : AExit → Nat → ES → T} (hs : s.nt < 2 ^ 23) (h : (evOne P rd asks o kn s k).Holds P n0 rd Q)
    (hk : ∀ e kn' s', s'.nt = s.nt → (k e kn' s').Holds P n0 rd Q → R e s'.den) : OperPost P rd o s.den R (aop P s.hp.tr.get s.hp.n (opnd s.t) o) := by
  unfold evOne at h
  rcases evSpec_sound h with ⟨v, kn', ha, h1⟩ | h1
  · rw [ha]
    obtain ⟨p1, p2⟩ := ES.den_put s o.dst v hs
    have := hk _ _ _ p2 h1
    rw [p1] at this
    exact this
  · split at h1
    · obtain ⟨nx, h2, h3⟩ := h1
      rw [h2]
      exact evNext_sound hs h3 hk
    · split at h1
      · rename_i nx h2
        rw [h2]
        exact evNext_sound hs h1 hk
      · exact h1.elim

theorem evOps_sound {asks : Nat → Bool} {ops : Array Oper} {k : AExit → Nat → ES → T} {nt : Nat} {R : AExit → ASt → Prop} (hk : ∀ e kn' s', s'.nt = nt → (k e kn' s').Holds P n0 rd Q → R e s'.den) :
    ∀ (os : List Oper) (i kn : Nat) (s : ES), s.nt = nt → ops.toList.drop i = os → (evOps P rd asks ops i os kn s k).Holds P n0 rd Q → nt < 2 ^ 23 → OpersOk P rd ops R (List.range' i (ops.size - i)) s.den
  | [], i, kn, s, hnt, hd, h, hs => by
    have hle : ops.toList.length ≤ i := List.drop_eq_nil_iff.1 hd
    simp only [Array.length_toList] at hle
    rw [Nat.sub_eq_zero_of_le hle]
    exact hk _ _ _ hnt h
  | o :: os, i, kn, s, hnt, hd, h, hs => by
    have ho : ops[i]? = some o := by
      have : (ops.toList.drop i)[0]? = some o := by rw [hd]; rfl
      rw [List.getElem?_drop] at this
      simpa using this
    have hlt := lt_of_get ho
    have hd' : ops.toList.drop (i + 1) = os := by
      have : (ops.toList.drop i).drop 1 = os := by rw [hd]; rfl
      rw [List.drop_drop] at this
      exact this
    have hr : List.range' i (ops.size - i) = i :: List.range' (i + 1) (ops.size - (i + 1)) := by
      have : ops.size - i = (ops.size - (i + 1)) + 1 := by omega
      rw [this, List.range'_succ]
    rw [hr]
    unfold evOps at h
    obtain ⟨r, kn', hw, h⟩ := evGuard_sound h
    unfold OpersOk
    simp only [ho, show s.den.t = s.t from rfl, hw]
    cases r with
    | false =>
      simp only at h ⊢
      obtain ⟨p1, p2⟩ := ES.den_put s o.dst (.tup []) (by rw [hnt]; exact hs)
      rw [← p1]
      exact evOps_sound hk os (i + 1) _ _ (p2.trans hnt) hd' h hs
    | true =>
      simp only at h ⊢
      refine evOne_sound (by rw [hnt]; exact hs) h ?_
      intro e kn2 s2 h2 h3
      cases e with
      | normal => exact evOps_sound hk os (i + 1) _ _ (h2.trans hnt) hd' h3 hs
      | exit id => exact hk _ _ _ (h2.trans hnt) h3
      | ret => exact hk _ _ _ (h2.trans hnt) h3
      | panic v => exact hk _ _ _ (h2.trans hnt) h3
end
end Go.Ab
