/- How arguments of a law read: whole numbers, bools, texts, structs, slices of these, however deep. -/
import Derived.Deep.Slices
import Derived.ChangeArms
import Derived.OpenShut
import Derived.Test.YtimlldedpbbeoaaGreatG
namespace Go.Proofs.YtimlldedpbbeoaaGreat
open Go.RowKit Go.ChangeShapes Go.WideShapes Go.Deep

/-- A kind of values: what its cells are where they read as x. -/
structure RK (α : Type) where
  sz : Nat
  K : World → α → List Value → Prop
  below : ∀ {w w' : World} {x : α} {cs : List Value}, Below w.heap.size w w' → K w x cs → K w' x cs

/-- Whatever reads at type t is of the kind. -/
def RK.Opens {α : Type} (k : RK α) (P : Program) (t : TypeId) : Prop :=
  P.cellsOf t = k.sz ∧ ∀ {H : Type} {enc : TypeId × Value → H} {w : World} {base : Nat} {spare : Nat → Bool} {held : Bool} {fuel : Nat} {cs : List Value} {x : DataW H × List MemPlace},
    DataW.trod enc P w base spare held fuel t cs = some x → ∃ a : α, k.K w a cs

def RK.int (k : IntKind) : RK Int := ⟨1, fun _ n cs => cs = [.int k n] ∧ (Lit.int k n).wf = true, fun _ h => h⟩
def RK.bool : RK Bool := ⟨1, fun _ b cs => cs = [.bool b], fun _ h => h⟩
theorem okWide_array {P : Program} {w : World} {r : Reach} {base : Nat} {t e : TypeId} {n : Nat} {v : Value} (ht : P.underlying t = some (.array n e)) (h : Value.okWide P w r base t v) : ∃ cs, v = .agg cs ∧ cs.size = P.cellsOf t := by
  simp only [Value.okWide, ht] at h
  obtain ⟨cs, h1, h2, _⟩ := h
  exact ⟨cs, h1, h2⟩
def RK.bools (n : Nat) : RK (List Bool) := ⟨n, fun _ l cs => l.length = n ∧ cs = l.map Value.bool, fun _ h => h⟩
def RK.string : RK ByteArray := ⟨1, fun _ s cs => cs = [.string s] ∧ s.size ≤ maxLen, fun _ h => h⟩

theorem wf_i64 {n : Int} (h : (Lit.int .i64 n).wf = true) : -9223372036854775808 ≤ n ∧ n ≤ 9223372036854775807 := by
  simp [Lit.wf, IntKind.min, IntKind.max, IntKind.signed, IntKind.bits] at h; omega

/-- A slice value whose elements read as the list l. -/
def RdK {α : Type} (k : RK α) (w : World) (v : Value) (l : List α) : Prop :=
  (l = [] ∧ ∃ A c, v = .slice A 0 c) ∨ ∃ g o c, v = .slice (some ⟨g, o, none⟩) l.length c ∧ l.length ≤ c ∧ c ≤ maxLen ∧ g < w.heap.size ∧
    ∀ j x, l[j]? = some x → ∃ cs, cs.length = k.sz ∧ k.K w x cs ∧ ∀ i u, cs[i]? = some u → w.cell? ⟨g, o + (j * k.sz + i), none⟩ = some u
theorem RdK.below {α : Type} {k : RK α} {w w' : World} {v : Value} {l : List α} (h : RdK k w v l) (hb : Below w.heap.size w w') : RdK k w' v l := by
  rcases h with h | ⟨g, o, c, rfl, h1, h2, hg, hc⟩
  · exact .inl h
  · refine .inr ⟨g, o, c, rfl, h1, h2, Nat.lt_of_lt_of_le hg hb.size, fun j x hj => ?_⟩
    obtain ⟨cs, hl, hk, hcs⟩ := hc j x hj
    exact ⟨cs, hl, k.below hb hk, fun i u hu => (hb.cell (p := ⟨g, o + (j * k.sz + i), none⟩) hg).trans (hcs i u hu)⟩
theorem RdK.slice {α : Type} {k : RK α} {w : World} {v : Value} {l : List α} (h : RdK k w v l) : ∃ A c, v = .slice A l.length c := by
  rcases h with ⟨rfl, A, c, rfl⟩ | ⟨g, o, c, rfl, _⟩
  · exact ⟨A, c, rfl⟩
  · exact ⟨_, c, rfl⟩
theorem RdK.le {α : Type} {k : RK α} {w : World} {v : Value} {l : List α} (h : RdK k w v l) : l.length ≤ maxLen := by
  rcases h with ⟨rfl, _⟩ | ⟨g, o, c, rfl, h1, h2, _⟩
  · exact Nat.zero_le _
  · exact Nat.le_trans h1 h2
/-- Its elements' cells, one after the other, where the kind has them fixed. -/
theorem RdK.flat {α : Type} {k : RK α} {w : World} {v : Value} {l : List α} (h : RdK k w v l) (enc : α → List Value) (he : ∀ x cs, k.K w x cs → cs = enc x) (hs : ∀ x, (enc x).length = k.sz) (hpos : 0 < k.sz) :
    Rd w v l.length (l.flatMap enc) := by
  rcases h with ⟨rfl, A, c, rfl⟩ | ⟨g, o, c, rfl, h1, h2, hg, hc⟩
  · exact .inl ⟨rfl, rfl, A, c, rfl⟩
  · refine .inr ⟨g, o, c, rfl, hg, fun j u hj => ?_⟩
    have hlen : ∀ m : List α, (m.flatMap enc).length = m.length * k.sz := by
      intro m
      induction m with
      | nil => simp
      | cons x m ih => rw [List.flatMap_cons, List.length_append, ih, hs, List.length_cons, Nat.add_mul, Nat.one_mul, Nat.add_comm]
    have hat : ∀ (m : List α) (q r : Nat), r < k.sz → (hq : q < m.length) → (m.flatMap enc)[q * k.sz + r]? = (enc m[q])[r]? := by
      intro m
      induction m with
      | nil => intro q r _ hq; cases hq
      | cons x m ih =>
        intro q r hr hq
        cases q with
        | zero =>
          simp only [List.flatMap_cons, Nat.zero_mul, Nat.zero_add, List.getElem_cons_zero]
          rw [List.getElem?_append_left (by rw [hs]; exact hr)]
        | succ q =>
          simp only [List.flatMap_cons, List.getElem_cons_succ]
          rw [List.getElem?_append_right (by rw [hs, Nat.add_mul]; omega), hs, ← ih q r hr (by simpa using hq)]
          congr 1
          rw [Nat.add_mul]; omega
    have hjl : j < l.length * k.sz := by rw [← hlen l]; exact (List.getElem?_eq_some_iff.1 hj).1
    have hq : j / k.sz < l.length := (Nat.div_lt_iff_lt_mul hpos).2 hjl
    have hj' : j = j / k.sz * k.sz + j % k.sz := by rw [Nat.mul_comm]; exact (Nat.div_add_mod j k.sz).symm
    have hr : j % k.sz < k.sz := Nat.mod_lt _ hpos
    obtain ⟨cs, hl, hk, hcs⟩ := hc (j / k.sz) _ (List.getElem?_eq_getElem hq)
    rw [hj', hat l _ _ hr hq, ← he _ _ hk] at hj
    have := hcs _ _ hj
    rw [← hj'] at this
    exact this

def RK.slice {α : Type} (k : RK α) : RK (List α) :=
  ⟨1, fun w l cs => ∃ v, cs = [v] ∧ RdK k w v l, fun hb ⟨v, h, hr⟩ => ⟨v, h, hr.below hb⟩⟩

theorem RK.opens_int {P : Program} {t : TypeId} {k : IntKind} (ht : P.underlying t = some (.int k)) (hc : P.cellsOf t = 1) : (RK.int k).Opens P t :=
  ⟨hc, fun h => by obtain ⟨n, hn, _, hw⟩ := DataW.trod_int ht h; exact ⟨n, hn, hw⟩⟩
theorem RK.opens_bool {P : Program} {t : TypeId} (ht : P.underlying t = some .bool) (hc : P.cellsOf t = 1) : RK.bool.Opens P t :=
  ⟨hc, fun h => by obtain ⟨b, hb, _⟩ := DataW.trod_bool ht h; exact ⟨b, hb⟩⟩
theorem RK.opens_bools {P : Program} {t e : TypeId} {n : Nat} (ht : P.underlying t = some (.array n e)) (he : P.underlying e = some .bool) (hc : P.cellsOf t = n) (hce : P.cellsOf e = 1) : (RK.bools n).Opens P t := by
  refine ⟨hc, fun {H enc w base spare held fuel cs x} h => ?_⟩
  obtain ⟨xs, m, rfl, rfl, hl, hx, hi⟩ := DataW.trod_array ht h
  rw [hc] at hl
  have key : ∀ i, i < n → ∃ b, cs[i]? = some (.bool b) := by
    intro i hin
    have := hi i hin
    rw [hce, Nat.mul_one, List.getElem?_eq_getElem (by omega)] at this
    obtain ⟨b, hb, _⟩ := DataW.trod_bool he this
    refine ⟨b, ?_⟩
    have h2 := congrArg (·[0]?) hb
    simpa [List.getElem?_take] using h2
  have all : ∀ (l : List Value), (∀ i, i < l.length → ∃ b, l[i]? = some (.bool b)) → ∃ bs : List Bool, l = bs.map Value.bool := by
    intro l
    induction l with
    | nil => exact fun _ => ⟨[], rfl⟩
    | cons v l ih =>
      intro hq
      obtain ⟨b, hb⟩ := hq 0 (by simp)
      obtain ⟨bs, rfl⟩ := ih fun i hi => by
        have := hq (i + 1) (by simpa using hi)
        simpa using this
      simp at hb
      exact ⟨b :: bs, by simp [hb]⟩
  obtain ⟨bs, hbs⟩ := all cs fun i hi => key i (by omega)
  exact ⟨bs, by rw [hbs] at hl; simpa using hl, hbs⟩
theorem RK.opens_string {P : Program} {t : TypeId} (ht : P.underlying t = some .string) (hc : P.cellsOf t = 1) : RK.string.Opens P t :=
  ⟨hc, fun h => by obtain ⟨s, hs, _, hl⟩ := DataW.trod_string ht h; exact ⟨s, hs, hl⟩⟩
theorem RK.opens_slice {α : Type} [Inhabited α] {k : RK α} {P : Program} {t e : TypeId} (ht : P.underlying t = some (.slice e)) (hc : P.cellsOf t = 1) (he : k.Opens P e) (hpos : 0 < k.sz) : k.slice.Opens P t := by
  refine ⟨hc, fun {H enc w base spare held fuel cs x} h => ?_⟩
  rcases open_slice ht h with ⟨rfl, _⟩ | ⟨a, len, cap, m, n, D, Pl, rfl, _, hlc, hcm, hm, _, hi⟩
  · exact ⟨[], _, rfl, .inl ⟨rfl, _, _, rfl⟩⟩
  · have hlm : len ≤ m := by rw [hm]; split <;> omega
    by_cases h0 : len = 0
    · subst h0
      exact ⟨[], _, rfl, .inl ⟨rfl, _, _, rfl⟩⟩
    have hall : ∀ i, i < len → ∃ x : α, ∃ cs', cs'.length = k.sz ∧ k.K w x cs' ∧ ∀ j u, cs'[j]? = some u → w.cell? (a.add (i * k.sz + j)) = some u := by
      intro i hil
      obtain ⟨cs', hcs, ht'⟩ := hi i (by omega)
      rw [he.1] at hcs
      obtain ⟨x, hx⟩ := he.2 ht'
      obtain ⟨_, hcl, hat⟩ := World.cells?_some hcs
      refine ⟨x, cs', hcl, hx, fun j u hj => ?_⟩
      have hjl : j < k.sz := by rw [← hcl]; exact (List.getElem?_eq_some_iff.1 hj).1
      rw [← add_add, hat j hjl]
      exact hj
    obtain ⟨f, hf⟩ := choose_lt hall
    have hspot : a.spot = none ∧ a.block < w.heap.size := by
      obtain ⟨cs', hl, _, hc'⟩ := hf 0 (by omega)
      have h1 := hc' 0 (cs'[0]'(by omega)) (List.getElem?_eq_getElem (by omega))
      simp only [Nat.zero_mul, Nat.add_zero, Addr.add, if_true] at h1
      unfold World.cell? at h1
      split at h1
      · rename_i hb
        refine ⟨?_, (Array.getElem?_eq_some_iff.1 hb).1⟩
        split at h1
        · cases h1
        · rename_i hs; simpa using hs
      · cases h1
    obtain ⟨g, o, sp⟩ := a
    obtain ⟨rfl, hg⟩ : sp = none ∧ g < w.heap.size := hspot
    refine ⟨(List.range len).map f, _, rfl, .inr ⟨g, o, cap, by simp, by simpa using hlc, hcm, hg, fun j x hj => ?_⟩⟩
    have hjl : j < len := by simpa using (List.getElem?_eq_some_iff.1 hj).1
    obtain ⟨cs', hl, hk, hc'⟩ := hf j hjl
    simp [hjl] at hj
    subst hj
    refine ⟨cs', hl, hk, fun i u hu => ?_⟩
    have := hc' i u hu
    rwa [show ((⟨g, o, none⟩ : Addr).add (j * k.sz + i)) = ⟨g, o + (j * k.sz + i), none⟩ by unfold Addr.add; split <;> simp_all] at this
end Go.Proofs.YtimlldedpbbeoaaGreat
