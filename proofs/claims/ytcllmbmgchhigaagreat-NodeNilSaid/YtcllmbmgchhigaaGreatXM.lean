/- A drawn region's one run: what its text is like, and what was seen at each operation. -/
import Derived.Test.YtcllmbmgchhigaaGreatXK
namespace Go.Proofs.YtcllmbmgchhigaaGreat
open Go.RowKit
noncomputable section

theorem edgeMask_bit {M : List Nat} {i j : Nat} : ∀ {l : List Edge}, (edgeMask M i l).testBit j = true → ∃ e ∈ l, Region.binds .any e = true ∧ e.on < i ∧ (j = e.on ∨ (M.getD e.on 0).testBit j = true)
  | [], h => by simp [edgeMask] at h
  | e :: r, h => by
    unfold edgeMask at h
    split at h
    · rename_i hb
      simp only [Bool.and_eq_true, decide_eq_true_eq] at hb
      rw [Nat.testBit_or, Nat.testBit_or, Bool.or_eq_true, Bool.or_eq_true] at h
      rcases h with (h | h) | h
      · rw [Nat.testBit_two_pow, decide_eq_true_eq] at h
        exact ⟨e, List.mem_cons_self, hb.1, hb.2, .inl h.symm⟩
      · exact ⟨e, List.mem_cons_self, hb.1, hb.2, .inr h⟩
      · obtain ⟨e', q1, q2⟩ := edgeMask_bit h
        exact ⟨e', List.mem_cons_of_mem _ q1, q2⟩
    · obtain ⟨e', q1, q2⟩ := edgeMask_bit h
      exact ⟨e', List.mem_cons_of_mem _ q1, q2⟩
theorem dstGo_spec : ∀ (l : List Oper) (i : Nat) (D D' : Tr Nat), dstGo l i D = some D' → ∀ t j, D'.get t = some j ↔ (D.get t = some j ∨ ∃ k o, l[k]? = some o ∧ j = i + k ∧ o.dst = some t)
  | [], i, D, D', h, t, j => by
    cases h
    simp
  | o :: r, i, D, D', h, t, j => by
    unfold dstGo at h
    split at h
    · rename_i hd
      rw [dstGo_spec r (i + 1) D D' h t j]
      constructor
      · rintro (h1 | ⟨k, o', h1, h2, h3⟩)
        · exact .inl h1
        · exact .inr ⟨k + 1, o', h1, by omega, h3⟩
      · rintro (h1 | ⟨k, o', h1, h2, h3⟩)
        · exact .inl h1
        · cases k with
          | zero => simp at h1; subst h1; rw [hd] at h3; cases h3
          | succ k => exact .inr ⟨k, o', by simpa using h1, by omega, h3⟩
    · rename_i d hd
      split at h
      · cases h
      · rename_i hn
        rw [dstGo_spec r (i + 1) _ D' h t j, Tr.get_set]
        constructor
        · rintro (h1 | ⟨k, o', h1, h2, h3⟩)
          · split at h1
            · rename_i he
              cases h1
              exact .inr ⟨0, o, rfl, rfl, by rw [hd, he]⟩
            · exact .inl h1
          · exact .inr ⟨k + 1, o', h1, by omega, h3⟩
        · rintro (h1 | ⟨k, o', h1, h2, h3⟩)
          · left
            rw [if_neg (fun e => by subst e; rw [hn] at h1; cases h1)]
            exact h1
          · cases k with
            | zero =>
              simp at h1; subst h1
              rw [hd] at h3
              cases h3
              left
              rw [if_pos rfl, h2]; rfl
            | succ k => exact .inr ⟨k, o', by simpa using h1, by omega, h3⟩
theorem statGo_spec {ops : Array Oper} {M : List Nat} {D : Tr Nat} : ∀ (l : List Oper) (i : Nat), statGo ops M D l i = true → ∀ k o, l[k]? = some o → M.getD (i + k) 0 = edgeMask M (i + k) o.after.toList ∧ (∀ e ∈ o.after.toList, Region.binds .any e = true → e.on < i + k) ∧ (∀ t ∈ o.looksAt ops, ∀ j, D.get t = some j → (M.getD (i + k) 0).testBit j = true ∨ (M.getD j 0).testBit (i + k) = true)
  | [], i, _, k, o, h => by simp at h
  | p :: r, i, h, k, o, hk => by
    unfold statGo at h
    simp only [Bool.and_eq_true, beq_iff_eq, List.all_eq_true] at h
    obtain ⟨⟨⟨h1, h2⟩, h3⟩, h4⟩ := h
    cases k with
    | zero =>
      simp at hk; subst hk
      refine ⟨h1, fun e he hb => ?_, fun t ht j hj => ?_⟩
      · have := h2 e he
        rw [hb] at this
        simpa using this
      · have := h3 t ht
        rw [hj] at this
        simpa using this
    | succ k =>
      have := statGo_spec r (i + 1) h4 k o (by simpa using hk)
      rwa [show i + 1 + k = i + (k + 1) by omega] at this
/-- A region's text. -/
structure Stat (ops : Array Oper) (M : List Nat) (D : Tr Nat) : Prop where
  mask : ∀ (i : Nat) (o : Oper), ops[i]? = some o → M.getD i 0 = edgeMask M i o.after.toList
  back : ∀ (i : Nat) (o : Oper), ops[i]? = some o → ∀ e ∈ o.after.toList, Region.binds .any e = true → e.on < i
  looks : ∀ (i : Nat) (o : Oper), ops[i]? = some o → ∀ t ∈ o.looksAt ops, ∀ j, D.get t = some j → (M.getD i 0).testBit j = true ∨ (M.getD j 0).testBit i = true
  dst : ∀ t j, D.get t = some j ↔ ∃ o, ops[j]? = some o ∧ o.dst = some t
theorem statS_spec {ops : Array Oper} {M : List Nat} {D : Tr Nat} (h : statS ops = some (M, D)) : Stat ops M D := by
  unfold statS at h
  split at h
  · rename_i D' hd
    simp only [] at h
    split at h
    · rename_i hs
      cases h
      have sp := statGo_spec _ _ hs
      refine ⟨fun i o ho => ?_, fun i o ho => ?_, fun i o ho => ?_, fun t j => ?_⟩
      · have := (sp i o (by simpa using ho)).1
        rwa [Nat.zero_add] at this
      · have := (sp i o (by simpa using ho)).2.1
        rwa [Nat.zero_add] at this
      · have := (sp i o (by simpa using ho)).2.2
        rwa [Nat.zero_add] at this
      · rw [dstGo_spec _ _ _ _ hd t j]
        constructor
        · rintro (h1 | ⟨k, o', h1, h2, h3⟩)
          · cases h1
          · exact ⟨o', by rw [h2, Nat.zero_add]; simpa using h1, h3⟩
        · rintro ⟨o', h1, h2⟩
          exact .inr ⟨j, o', by simpa using h1, by omega, h2⟩
    · cases h
  · cases h
theorem Stat.lt {ops : Array Oper} {M : List Nat} {D : Tr Nat} (h : Stat ops M D) : ∀ (i : Nat), i < ops.size → ∀ j, (M.getD i 0).testBit j = true → j < i := by
  intro i
  induction i using Nat.strongRecOn with
  | _ i ih =>
    intro hi j hj
    have ho : ops[i]? = some ops[i] := Array.getElem?_eq_getElem hi
    rw [h.mask i _ ho] at hj
    obtain ⟨e, _, _, h3, h4⟩ := edgeMask_bit hj
    rcases h4 with h4 | h4
    · omega
    · have := ih e.on h3 (by omega) j h4
      omega
/-- What an operation waits for, through others too, has come when it may come. -/
theorem Stat.come {ops : Array Oper} {M : List Nat} {D : Tr Nat} (h : Stat ops M D) {listed : Nat → Prop} (hcl : ∀ (j : Nat) (o : Oper), ops[j]? = some o → listed j → ∀ e ∈ o.after.toList, Region.binds .any e = true → listed e.on) :
    ∀ (i : Nat) (o : Oper), ops[i]? = some o → (∀ e ∈ o.after.toList, Region.binds .any e = true → listed e.on) → ∀ j, (M.getD i 0).testBit j = true → listed j := by
  intro i
  induction i using Nat.strongRecOn with
  | _ i ih =>
    intro o ho hall j hj
    rw [h.mask i o ho] at hj
    obtain ⟨e, h1, h2, h3, h4⟩ := edgeMask_bit hj
    have hl := hall e h1 h2
    rcases h4 with h4 | h4
    · rw [h4]; exact hl
    · have hi : i < ops.size := (Array.getElem?_eq_some_iff.1 ho).1
      have ho' : ops[e.on]? = some ops[e.on] := Array.getElem?_eq_getElem (by omega)
      exact ih e.on h3 _ ho' (hcl _ _ ho' hl) j h4

/-- What a slot holds when the operations ahead of i have come. -/
def TAt (D : Tr Nat) (R : Tr Rec) (T0 : Tr Value) (i : Nat) (t : Nat) : Option Value :=
  match D.get t with
  | some q => if q < i then (R.get q).map Rec.v else T0.get t
  | none => T0.get t
/-- What was seen at an operation. -/
def FactAt (call : CallF) (P : Program) (N : Nat) (ops : Array Oper) (M : List Nat) (D : Tr Nat) (T0 : Tr Value) (n0 : Nat) (all : List St) (E : List Nat) (R : Tr Rec) (j : Nat) (o : Oper) : Prop :=
  (∀ d, o.dst = some d → d < N) ∧ ∃ T : Tr Value, (∀ t, T.get t = TAt D R T0 j t) ∧
  match R.get j with
  | some (.val v) => (wants ops T o = some false ∧ v = .tuple #[]) ∨ (wants ops T o = some true ∧ ∃ (c : Nat) (s : St), all[c]? = some s ∧ quiet P o.op T s.h = some v)
  | some (.alc v ob) => wants ops T o = some true ∧ allocV P o.op T (n0 + j) = some (v, ob)
  | some (.eff v) => wants ops T o = some true ∧ ∃ c s s', E[c]? = some j ∧ all[c]? = some s ∧ all[c + 1]? = some s' ∧ (∀ c' e, c' < c → E[c']? = some e → (M.getD j 0).testBit e = true) ∧
      effF call P o.op T ⟨s.next, rowsOf R n0 (fun l => (M.getD j 0).testBit l && !matd (E.take c) M l) (rng ops j) s.h⟩ = some (v, s')
  | none => False
theorem TAt_congr {D : Tr Nat} {R R' : Tr Rec} {T0 : Tr Value} {i : Nat} (h : ∀ q, q < i → R'.get q = R.get q) (t : Nat) : TAt D R' T0 i t = TAt D R T0 i t := by
  unfold TAt
  split
  · split
    · rw [h _ ‹_›]
    · rfl
  · rfl
theorem rowsOf_congr {R R' : Tr Rec} {n0 : Nat} {c : Nat → Bool} : ∀ (l : List Nat) (h : Tr AObj), (∀ q ∈ l, R'.get q = R.get q) → rowsOf R' n0 c l h = rowsOf R n0 c l h
  | [], _, _ => rfl
  | q :: l, h, hq => by
    unfold rowsOf
    rw [hq q List.mem_cons_self]
    split
    · split
      · exact rowsOf_congr l _ fun x hx => hq x (List.mem_cons_of_mem _ hx)
      · exact rowsOf_congr l _ fun x hx => hq x (List.mem_cons_of_mem _ hx)
    · exact rowsOf_congr l _ fun x hx => hq x (List.mem_cons_of_mem _ hx)
/-- A fact stays when more is seen. -/
theorem FactAt.stay {call : CallF} {P : Program} {N : Nat} {ops : Array Oper} {M : List Nat} {D : Tr Nat} {T0 : Tr Value} {n0 : Nat} {all all2 : List St} {E E2 : List Nat} {R R' : Tr Rec} {j : Nat} {o : Oper}
    (h : FactAt call P N ops M D T0 n0 all E R j o) (hR : ∀ q, q ≤ j → R'.get q = R.get q) : FactAt call P N ops M D T0 n0 (all ++ all2) (E ++ E2) R' j o := by
  obtain ⟨hN, T, h1, h2⟩ := h
  refine ⟨hN, T, fun t => by rw [h1 t, TAt_congr (fun q hq => hR q (by omega))], ?_⟩
  rw [hR j (Nat.le_refl _)]
  split
  · rename_i v hv
    rw [hv] at h2
    rcases h2 with h2 | ⟨q1, c, s, q2, q3⟩
    · exact .inl h2
    · exact .inr ⟨q1, c, s, by rw [List.getElem?_append_left (List.getElem?_eq_some_iff.1 q2).1]; exact q2, q3⟩
  · rename_i v ob hv; rw [hv] at h2; exact h2
  · rename_i v hv
    rw [hv] at h2
    obtain ⟨q1, c, s, s', q2, q3, q4, q5, q6⟩ := h2
    have lc : c < E.length := (List.getElem?_eq_some_iff.1 q2).1
    have la : c + 1 < all.length := (List.getElem?_eq_some_iff.1 q4).1
    refine ⟨q1, c, s, s', by rw [List.getElem?_append_left lc]; exact q2, by rw [List.getElem?_append_left (by omega)]; exact q3, by rw [List.getElem?_append_left la]; exact q4, fun c' e hc he => ?_, ?_⟩
    · rw [List.getElem?_append_left (by omega)] at he
      exact q5 c' e hc he
    · rw [List.take_append_of_le_length (by omega), rowsOf_congr (R := R) (R' := R') _ _ (fun q hq => hR q (by have := rng_lt hq; omega))]
      exact q6
  · rename_i hv; rw [hv] at h2; exact h2
/-- What has been seen of the operations ahead of i. -/
structure PInv (call : CallF) (P : Program) (N : Nat) (ops : Array Oper) (M : List Nat) (D : Tr Nat) (T0 : Tr Value) (n0 : Nat) (i : Nat) (T : Tr Value) (all : List St) (cur : St) (E : List Nat) (R : Tr Rec) : Prop where
  slots : ∀ t, T.get t = TAt D R T0 i t
  seen : ∀ j o, j < i → ops[j]? = some o → FactAt call P N ops M D T0 n0 all E R j o
  len : all.length = E.length + 1
  last : all[E.length]? = some cur
  effs : ∀ (c e : Nat), E[c]? = some e → e < i ∧ ∃ v, R.get e = some (.eff v)
  once : ∀ (c c' e : Nat), E[c]? = some e → E[c']? = some e → c = c'
section
variable {call : CallF} {P : Program} {N : Nat} {ops : Array Oper} {M : List Nat} {D : Tr Nat} {T0 : Tr Value} {n0 : Nat} {i : Nat} {T : Tr Value} {all : List St} {cur : St} {E : List Nat} {R : Tr Rec}
theorem put_bound {T' : Tr Value} {d : Option Nat} {v : Value} (h : putT N T d v = some T') : (∀ x, d = some x → x < N) ∧ ∀ t, T'.get t = if d = some t then some v else T.get t := by
  unfold putT at h
  split at h
  · cases h
    exact ⟨fun x hx => (nomatch hx), fun t => by simp⟩
  · rename_i d
    split at h
    · rename_i hd
      cases h
      refine ⟨fun x hx => by cases hx; exact hd, fun t => ?_⟩
      rw [Tr.get_set]
      by_cases htd : t = d
      · subst htd; simp
      · rw [if_neg htd, if_neg (fun e => htd (by cases e; rfl))]
    · cases h
theorem TAt_step (st : Stat ops M D) (hp : PInv call P N ops M D T0 n0 i T all cur E R) {o : Oper} (ho : ops[i]? = some o) {T' : Tr Value} {rec : Rec} (h : putT N T o.dst rec.v = some T') (t : Nat) : T'.get t = TAt D (R.set 40 i (some rec)) T0 (i + 1) t := by
  rw [(put_bound h).2 t]
  unfold TAt
  split
  · rename_i hd
    have hD : D.get t = some i := (st.dst t i).2 ⟨o, ho, hd⟩
    rw [hD]
    simp only []
    rw [if_pos (Nat.lt_succ_self _), Tr.get_set, if_pos rfl]
    rfl
  · rename_i hd
    rw [hp.slots t]
    unfold TAt
    split
    · rename_i q hq
      have hqi : q ≠ i := fun e => by
        subst e
        obtain ⟨o', h1, h2⟩ := (st.dst t q).1 hq
        rw [ho] at h1; cases h1
        exact hd h2
      by_cases hlt : q < i
      · rw [if_pos hlt, if_pos (by omega), Tr.get_set, if_neg hqi]
      · rw [if_neg hlt, if_neg (by omega)]
    · rfl
theorem TAt_next (st : Stat ops M D) (hT : ∀ t, T.get t = TAt D R T0 i t) {o : Oper} (ho : ops[i]? = some o) {rec : Rec} (hr : R.get i = some rec) (t : Nat) : (match o.dst with | some d => T.set 40 d (some rec.v) | none => T).get t = TAt D R T0 (i + 1) t := by
  have key : ∀ {v : Option Value}, (o.dst = some t → v = some rec.v) → (o.dst ≠ some t → v = T.get t) → v = TAt D R T0 (i + 1) t := by
    intro v h1 h2
    unfold TAt
    by_cases hd : o.dst = some t
    · rw [(st.dst t i).2 ⟨o, ho, hd⟩, h1 hd]
      simp [hr]
    · rw [h2 hd, hT t]
      unfold TAt
      split
      · rename_i q hq
        have hqi : q ≠ i := fun e => by
          subst e
          obtain ⟨o', h1, h2⟩ := (st.dst t q).1 hq
          rw [ho] at h1; cases h1
          exact hd h2
        by_cases hlt : q < i
        · rw [if_pos hlt, if_pos (by omega)]
        · rw [if_neg hlt, if_neg (by omega)]
      · rfl
  cases hd : o.dst with
  | none => exact key (fun h => by rw [hd] at h; cases h) (fun _ => rfl)
  | some d =>
    refine key (fun h => ?_) (fun h => ?_)
    · rw [hd] at h; cases h
      simp only []
      rw [Tr.get_set, if_pos rfl]
    · simp only []
      rw [Tr.get_set, if_neg (fun e => h (by rw [hd, e]))]
theorem PInv.step (st : Stat ops M D) (hp : PInv call P N ops M D T0 n0 i T all cur E R) {o : Oper} (ho : ops[i]? = some o) {T' : Tr Value} {rec : Rec} (h : putT N T o.dst rec.v = some T') (all2 : List St) (E2 : List Nat) (cur' : St)
    (hl : (all ++ all2).length = (E ++ E2).length + 1) (hc : (all ++ all2)[(E ++ E2).length]? = some cur') (he : E2 = [] ∨ (E2 = [i] ∧ ∃ v, rec = .eff v))
    (hf : FactAt call P N ops M D T0 n0 (all ++ all2) (E ++ E2) (R.set 40 i (some rec)) i o) : PInv call P N ops M D T0 n0 (i + 1) T' (all ++ all2) cur' (E ++ E2) (R.set 40 i (some rec)) := by
  refine ⟨fun t => TAt_step st hp ho h t, fun j p hj hpj => ?_, hl, hc, fun c e hce => ?_, fun c c' e hce hce' => ?_⟩
  · by_cases hji : j = i
    · subst hji
      rw [ho] at hpj; cases hpj
      exact hf
    · exact (hp.seen j p (by omega) hpj).stay fun q hq => by rw [Tr.get_set, if_neg (by omega)]
  · rw [List.getElem?_append] at hce
    split at hce
    · obtain ⟨h1, v, h2⟩ := hp.effs c e hce
      exact ⟨by omega, v, by rw [Tr.get_set, if_neg (by omega)]; exact h2⟩
    · rcases he with rfl | ⟨rfl, v, hv⟩
      · cases hce
      · obtain rfl : e = i := by have := List.mem_of_getElem? hce; simpa using this
        exact ⟨Nat.lt_succ_self _, v, by rw [Tr.get_set, if_pos rfl, hv]⟩
  · rcases he with rfl | ⟨rfl, v, hv⟩
    · rw [List.append_nil] at hce hce'
      exact hp.once c c' e hce hce'
    · rw [List.getElem?_append] at hce hce'
      have last : ∀ {c : Nat}, ¬ c < E.length → [i][c - E.length]? = some e → e = i ∧ c = E.length := fun {c} h1 h2 => by
        have h3 := (List.getElem?_eq_some_iff.1 h2).1
        have h4 := List.mem_of_getElem? h2
        simp at h3 h4
        exact ⟨h4, by omega⟩
      split at hce
      · split at hce'
        · exact hp.once c c' e hce hce'
        · have h1 := (hp.effs c e hce).1
          have h2 := (last ‹_› hce').1
          omega
      · split at hce'
        · have h1 := (hp.effs c' e hce').1
          have h2 := (last ‹_› hce).1
          omega
        · rw [(last ‹_› hce).2, (last ‹_› hce').2]
end
theorem passS_spec {call : CallF} {P : Program} {N : Nat} {ops : Array Oper} {M : List Nat} {D : Tr Nat} {T0 : Tr Value} {n0 : Nat} (st : Stat ops M D) : ∀ (l : List Oper) (i : Nat) (T : Tr Value) (all : List St) (cur : St) (E : List Nat) (R : Tr Rec) (T' : Tr Value) (all' : List St) (cur' : St) (E' : List Nat) (R' : Tr Rec),
    (∀ k, l[k]? = ops[i + k]?) → PInv call P N ops M D T0 n0 i T all cur E R → passS call P N ops M n0 l i T all cur E R = some (T', all', cur', E', R') →
    PInv call P N ops M D T0 n0 (i + l.length) T' all' cur' E' R' ∧ all'[0]? = all[0]?
  | [], i, T, all, cur, E, R, T', all', cur', E', R', hl, hp, h => by
    cases h
    exact ⟨hp, rfl⟩
  | o :: r, i, T, all, cur, E, R, T', all', cur', E', R', hl, hp, h => by
    have ho : ops[i]? = some o := by have := hl 0; simpa using this.symm
    have hl' : ∀ k, r[k]? = ops[i + 1 + k]? := fun k => by have := hl (k + 1); rw [show i + 1 + k = i + (k + 1) by omega]; simpa using this
    have lift : ∀ {T1 : Tr Value} {all1 : List St} {cur1 : St} {E1 : List Nat} {R1 : Tr Rec}, PInv call P N ops M D T0 n0 (i + 1) T1 all1 cur1 E1 R1 → all1[0]? = all[0]? → passS call P N ops M n0 r (i + 1) T1 all1 cur1 E1 R1 = some (T', all', cur', E', R') → PInv call P N ops M D T0 n0 (i + (o :: r).length) T' all' cur' E' R' ∧ all'[0]? = all[0]? := by
      intro T1 all1 cur1 E1 R1 h1 h2 h3
      obtain ⟨q1, q2⟩ := passS_spec st r (i + 1) T1 all1 cur1 E1 R1 T' all' cur' E' R' hl' h1 h3
      refine ⟨?_, q2.trans h2⟩
      rw [show i + (o :: r).length = i + 1 + r.length by simp; omega]
      exact q1
    have same : ∀ {rec : Rec} (t : Nat), TAt D (R.set 40 i (some rec)) T0 i t = TAt D R T0 i t := fun t => TAt_congr (fun q hq => by rw [Tr.get_set, if_neg (by omega)]) t
    have quietStep : ∀ {rec : Rec} {T1 : Tr Value}, putT N T o.dst rec.v = some T1 → (∀ v, rec ≠ .eff v) → FactAt call P N ops M D T0 n0 all E (R.set 40 i (some rec)) i o → passS call P N ops M n0 r (i + 1) T1 all cur E (R.set 40 i (some rec)) = some (T', all', cur', E', R') → PInv call P N ops M D T0 n0 (i + (o :: r).length) T' all' cur' E' R' ∧ all'[0]? = all[0]? := by
      intro rec T1 h1 h2 h3 h4
      refine lift (all1 := all) (cur1 := cur) (E1 := E) ?_ rfl h4
      have := hp.step st ho h1 [] [] cur (by simpa using hp.len) (by simpa using hp.last) (.inl rfl) (by simpa using h3)
      simpa using this
    unfold passS at h
    split at h
    · rename_i hw
      split at h
      · rename_i T1 h1
        exact quietStep (rec := .val (.tuple #[])) h1 (fun v e => nomatch e) ⟨fun d hd => (put_bound h1).1 d hd, T, fun t => (hp.slots t).trans (same t).symm, by rw [Tr.get_set, if_pos rfl]; exact .inl ⟨hw, rfl⟩⟩ h
      · cases h
    · rename_i hw
      split at h
      · split at h
        · rename_i v ob ha
          split at h
          · rename_i T1 h1
            exact quietStep (rec := .alc v ob) h1 (fun v e => nomatch e) ⟨fun d hd => (put_bound h1).1 d hd, T, fun t => (hp.slots t).trans (same t).symm, by rw [Tr.get_set, if_pos rfl]; exact ⟨hw, ha⟩⟩ h
          · cases h
        · cases h
      · split at h
        · rename_i v hq
          split at h
          · rename_i T1 h1
            exact quietStep (rec := .val v) h1 (fun v e => nomatch e) ⟨fun d hd => (put_bound h1).1 d hd, T, fun t => (hp.slots t).trans (same t).symm, by rw [Tr.get_set, if_pos rfl]; exact .inr ⟨hw, _, cur, hp.last, hq⟩⟩ h
          · cases h
        · split at h
          · rename_i hE
            split at h
            · rename_i v s' he
              split at h
              · rename_i T1 h1
                have hlen : (all ++ [s']).length = (E ++ [i]).length + 1 := by simp [hp.len]
                have hlast : (all ++ [s'])[(E ++ [i]).length]? = some s' := by
                  rw [List.getElem?_append_right (by simp [hp.len])]
                  simp [hp.len]
                refine lift (all1 := all ++ [s']) (cur1 := s') (E1 := E ++ [i]) ?_ ?_ h
                · refine hp.step st ho (rec := .eff v) h1 [s'] [i] s' hlen hlast (.inr ⟨rfl, v, rfl⟩) ?_
                  refine ⟨fun d hd => (put_bound h1).1 d hd, T, fun t => (hp.slots t).trans (same t).symm, ?_⟩
                  rw [Tr.get_set, if_pos rfl]
                  refine ⟨hw, E.length, cur, s', by simp, ?_, ?_, fun c' e hc he => ?_, ?_⟩
                  · rw [List.getElem?_append_left (by rw [hp.len]; omega)]; exact hp.last
                  · have := hlast; simpa using this
                  · rw [List.getElem?_append_left hc] at he
                    exact List.all_eq_true.1 hE e (List.mem_of_getElem? he)
                  · rw [List.take_left, rowsOf_congr (R := R) _ _ (fun q hq => by rw [Tr.get_set, if_neg (by have := rng_lt hq; omega)])]
                    exact he
                · rw [List.getElem?_append_left (by rw [hp.len]; omega)]
              · cases h
            · cases h
          · cases h
    · cases h
end
end Go.Proofs.YtcllmbmgchhigaaGreat
