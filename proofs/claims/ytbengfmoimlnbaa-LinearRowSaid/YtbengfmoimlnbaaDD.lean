/- The map of spots from which nothing was found: how it is asked and how it grows. -/
import Derived.Test.YtbengfmoimlnbaaM
import Derived.Carry
namespace Go.Proofs.Ytbengfmoimlnbaa
open Go.RowKit

abbrev Spot := Nat × St
def spotV (k : Spot) : Value := .agg #[.int .u64 (k.1 : Int), .int .i64 k.2.ver, .string k.2.val]
def spotEq (a b : Spot) : Bool := ((a.1 : Int) == (b.1 : Int)) && ((a.2.ver == b.2.ver) && (a.2.val.toList == b.2.val.toList))
theorem toList_inj {a b : ByteArray} (h : a.toList = b.toList) : a = b := by
  rw [ByteArray.toList_eq, ByteArray.toList_eq] at h
  obtain ⟨⟨x⟩⟩ := a
  obtain ⟨⟨y⟩⟩ := b
  simp at h
  rw [h]
theorem spotEq_iff (a b : Spot) : spotEq a b = true ↔ a = b := by
  obtain ⟨m, v, s⟩ := a
  obtain ⟨m', v', s'⟩ := b
  unfold spotEq
  simp only [Bool.and_eq_true, beq_iff_eq]
  constructor
  · rintro ⟨h1, h2, h3⟩
    have := toList_inj h3
    have h1' : m = m' := by omega
    simp_all
  · rintro h
    cases h
    exact ⟨rfl, rfl, rfl⟩

theorem run_equal_spot (a b : Spot) (w : World) : (Op.equal 70 (spotV a) (spotV b)).run Try.prog w = .ok (spotEq a b) w := by
  show (Op.equalIn (9999 + 1) 70 _ _).run Try.prog w = _
  unfold spotV spotEq
  rw [run_equalIn_struct w 9999 70 _ _ (by kernel_rfl) (by kernel_rfl)]
  cases h1 : ((a.1 : Int) == (b.1 : Int)) <;> cases h2 : (a.2.ver == b.2.ver) <;> cases h3 : (a.2.val.toList == b.2.val.toList) <;> simp [Op.eqFields, go_sem, h1, h2, h3]
theorem run_check_spot (e : Bool) (a : Spot) (w : World) : (Instr.checkKey e 10000 70 (spotV a)).run Try.prog w = .ok () w := by kernel_rfl

/-- The map's block: its keys, all of them true. -/
def IsDead (w : World) (b : Nat) (ks : List Spot) : Prop :=
  ∃ es clock, w.heap[b]? = some (.map es clock) ∧ es.toList.map (·.key) = ks.map spotV ∧ ∀ e ∈ es.toList, e.val = .bool true

theorem get_map {w : World} {r : Nat} {es : Array MapEntry} {clock : Nat} (hb : w.heap[r]? = some (.map es clock)) : (getObj r).run Try.prog w = .ok (.map es clock) w := by
  simp [getObj, Sem.run, hb]
theorem set_map {w : World} {r : Nat} {es : Array MapEntry} {clock : Nat} (o : Obj) (hb : w.heap[r]? = some (.map es clock)) : (setObj r o).run Try.prog w = .ok () { w with heap := w.heap.setIfInBounds r o } := by
  simp [setObj, Sem.run, hb]
theorem bytes_beq (s : ByteArray) : (s == s) = true := by
  obtain ⟨⟨l⟩⟩ := s
  show ((⟨l⟩ : Array UInt8) == ⟨l⟩) = true
  simp

theorem run_asking (k : Spot) (w : World) : ∀ (es : List MapEntry) (ks : List Spot) (i : Nat), es.map (·.key) = ks.map spotV → (∀ e ∈ es, e.val = .bool true) →
    (∃ j, j < es.length ∧ ks[j]? = some k ∧ (Instr.findAsking 70 (spotV k) es i).run Try.prog w = .ok (some (i + j, .bool true)) w) ∨
    (k ∉ ks ∧ (Instr.findAsking 70 (spotV k) es i).run Try.prog w = .ok none w)
  | [], ks, i, h, _ => by
    cases ks with
    | nil => exact .inr ⟨by simp, by simp [Instr.findAsking]⟩
    | cons _ _ => simp at h
  | e :: es, ks, i, h, hv => by
    cases ks with
    | nil => simp at h
    | cons k' ks =>
      simp only [List.map_cons, List.cons.injEq] at h
      obtain ⟨h1, h2⟩ := h
      have hrun : (Instr.findAsking 70 (spotV k) (e :: es) i).run Try.prog w = (if spotEq k k' = true then .ok (some (i, e.val)) w else (Instr.findAsking 70 (spotV k) es (i + 1)).run Try.prog w) := by
        rw [Instr.findAsking, Sem.run_bind, h1, run_equal_spot]
        simp only [Result.andThen_ok]
        split <;> simp_all
      by_cases heq : spotEq k k' = true
      · obtain rfl := (spotEq_iff k k').1 heq
        refine .inl ⟨0, by simp, rfl, ?_⟩
        rw [hrun, if_pos heq, hv e List.mem_cons_self]; rfl
      · rcases run_asking k w es ks (i + 1) h2 (fun e he => hv e (List.mem_cons_of_mem _ he)) with ⟨j, hj, hk, hr⟩ | ⟨hk, hr⟩
        · refine .inl ⟨j + 1, by simpa using hj, by simpa using hk, ?_⟩
          rw [hrun, if_neg heq, hr, show i + 1 + j = i + (j + 1) by omega]
        · refine .inr ⟨?_, by rw [hrun, if_neg heq, hr]⟩
          intro hm
          rcases List.mem_cons.1 hm with rfl | hm
          · exact heq ((spotEq_iff _ _).2 rfl)
          · exact hk hm

theorem run_find (k : Spot) (w : World) (es : List MapEntry) (ks : List Spot) (h : es.map (·.key) = ks.map spotV) (hv : ∀ e ∈ es, e.val = .bool true) :
    (∃ j, j < es.length ∧ ks[j]? = some k ∧ (Instr.findKey 70 (spotV k) es).run Try.prog w = .ok (some (j, .bool true)) w) ∨
    (k ∉ ks ∧ (Instr.findKey 70 (spotV k) es).run Try.prog w = .ok none w) := by
  have hstruct : ∃ fs, Try.prog.underlying 70 = some (.struct fs) := ⟨_, Try.underlying70⟩
  obtain ⟨fs, hfs⟩ := hstruct
  unfold Instr.findKey
  rw [Sem.run_bind, run_underlying hfs]
  simp only [Result.andThen_ok]
  cases es with
  | nil =>
    cases ks with
    | nil => exact .inr ⟨by simp, by simp [Instr.findNow]⟩
    | cons _ _ => simp at h
  | cons e es =>
    have hn : Instr.findNow (.struct fs) (spotV k) (e :: es) 0 = none := by
      simp [Instr.findNow, Instr.sameNow]
    rw [hn]
    simp only
    rcases run_asking k w (e :: es) ks 0 h hv with ⟨j, hj, hk, hr⟩ | ⟨hk, hr⟩
    · exact .inl ⟨j, hj, hk, by rw [hr, Nat.zero_add]⟩
    · exact .inr ⟨hk, hr⟩

theorem run_lookup_dead (k : Spot) (w : World) (b : Nat) (ks : List Spot) (h : IsDead w b ks) :
    ∃ r : Bool, (r = true ↔ k ∈ ks) ∧ (Instr.lookup 72 (.map (some b)) (spotV k) false).run Try.prog w = .ok (.bool r) w := by
  obtain ⟨es, clock, hb, hk, hv⟩ := h
  have hz : ∀ w, (zeroValue 4).run Try.prog w = .ok (.bool false) w := fun _ => by kernel_rfl
  rcases run_find k w es.toList ks hk hv with ⟨j, hj, hkj, hr⟩ | ⟨hn, hr⟩
  · refine ⟨true, ⟨fun _ => List.mem_of_getElem? hkj, fun _ => rfl⟩, ?_⟩
    unfold Instr.lookup
    simp [go_sem, get_map hb, run_check_spot, hr]
  · refine ⟨false, ⟨fun h => (by cases h), fun h => absurd h hn⟩, ?_⟩
    unfold Instr.lookup
    simp [go_sem, get_map hb, run_check_spot, hr, hz]
theorem sameBits_spot (k : Spot) : Instr.sameBits 10000 (spotV k) (spotV k) = true := by
  show Instr.sameBits (9999 + 1) _ _ = true
  simp [spotV, Instr.sameBits, bytes_beq]

theorem run_update_dead (k : Spot) (w : World) (b : Nat) (ks : List Spot) (h : IsDead w b ks) :
    ∃ w1 ks', (Instr.mapUpdate 72 (.map (some b)) (spotV k) (.bool true)).run Try.prog w = .ok () w1 ∧ IsDead w1 b ks' ∧ (∀ d ∈ ks', d = k ∨ d ∈ ks) ∧ Fr (· = b) w w1 := by
  obtain ⟨es, clock, hb, hk, hv⟩ := h
  have hlt : b < w.heap.size := (Array.getElem?_eq_some_iff.1 hb).1
  have hfr : ∀ o, Fr (· = b) w { w with heap := w.heap.setIfInBounds b o } := fun o => ⟨rfl, rfl, rfl, by simp, fun j _ hj => by
    show (w.heap.setIfInBounds b o)[j]? = _
    rw [Array.getElem?_setIfInBounds_ne (fun h => hj h.symm)]⟩
  have hat : ∀ o, ({ w with heap := w.heap.setIfInBounds b o } : World).heap[b]? = some o := fun o => by
    show (w.heap.setIfInBounds b o)[b]? = _
    rw [Array.getElem?_setIfInBounds_self_of_lt hlt]
  rcases run_find k w es.toList ks hk hv with ⟨j, hj, hkj, hr⟩ | ⟨hn, hr⟩
  · have hjs : j < es.size := by simpa using hj
    have hkey : (es[j]).key = spotV k := by
      have := congrArg (fun l => l[j]?) hk
      simp only [List.getElem?_map, hkj, Array.getElem?_toList, Array.getElem?_eq_getElem hjs, Option.map_some] at this
      exact Option.some.inj this
    refine ⟨_, ks, ?_, ⟨es.modify j fun e => { e with key := spotV k, val := .bool true }, clock, hat _, ?_, ?_⟩, fun d hd => .inr hd, hfr _⟩
    · unfold Instr.mapUpdate
      simp [go_sem, get_map hb, run_check_spot, hr, Instr.keyThatStays, hjs, hkey, sameBits_spot, set_map _ hb]
    · rw [← hk]
      apply List.ext_getElem?
      intro i
      simp only [List.getElem?_map, Array.getElem?_toList, Array.getElem?_modify]
      by_cases e : j = i
      · subst e
        simp [Array.getElem?_eq_getElem hjs, hkey]
      · simp [e]
    · intro e he
      rw [Array.mem_toList_iff, Array.mem_iff_getElem?] at he
      obtain ⟨i, hi⟩ := he
      rw [Array.getElem?_modify] at hi
      by_cases e' : j = i
      · simp only [e', if_true] at hi
        cases hq : es[i]? with
        | none => rw [hq] at hi; cases hi
        | some q => rw [hq] at hi; cases hi; rfl
      · rw [if_neg e'] at hi
        exact hv e (Array.mem_toList_iff.2 (Array.mem_of_getElem? hi))
  · refine ⟨_, ks ++ [k], ?_, ⟨es.push { key := spotV k, val := .bool true, born := clock }, clock + 1, hat _, by simp [hk], ?_⟩, fun d hd => ?_, hfr _⟩
    · unfold Instr.mapUpdate
      simp [go_sem, get_map hb, run_check_spot, hr, set_map _ hb]
    · intro e he
      simp only [Array.toList_push, List.mem_append, List.mem_singleton] at he
      rcases he with he | rfl
      · exact hv e he
      · rfl
    · rcases List.mem_append.1 hd with h | h
      · exact .inr h
      · exact .inl (List.mem_singleton.1 h)
end Go.Proofs.Ytbengfmoimlnbaa
