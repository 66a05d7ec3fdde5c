/- A drawn region's one run: what its text is like, and what was seen at each operation. -/
import Derived.Test.YtimlldedpbbeoaaGreatXK
namespace Go.Proofs.YtimlldedpbbeoaaGreat
open Go.RowKit
noncomputable section

theorem edgeMask_bit {M : List Nat} {i j : Nat} : ∀ {l : List Edge}, (edgeMask M i l).testBit j = true → ∃ e ∈ l, Region.binds .any e = true ∧ e.on < i ∧ (j = e.on ∨ (M.getD e.on 0).testBit j = true)
  | [], h => by simp [edgeMask] at h
  | e :: r, h => by
    unfold edgeMask at h
    split at h
    · rename_i hb
      simp only [Bool.and_eq_true, decide_eq_true_eq] at hb
      rw [Nat.testBit_or, Nat.testBit_or, Bool.or_eq_true, Bool.or_eq_true] at h
      rcases h with (h | h) | h
      · rw [Nat.testBit_two_pow, decide_eq_true_eq] at h
        exact ⟨e, List.mem_cons_self, hb.1, hb.2, .inl h.symm⟩
      · exact ⟨e, List.mem_cons_self, hb.1, hb.2, .inr h⟩
      · obtain ⟨e', q1, q2⟩ := edgeMask_bit h
        exact ⟨e', List.mem_cons_of_mem _ q1, q2⟩
    · obtain ⟨e', q1, q2⟩ := edgeMask_bit h
      exact ⟨e', List.mem_cons_of_mem _ q1, q2⟩
theorem dstGo_spec : ∀ (l : List Oper) (i : Nat) (D D' : Tr Nat), dstGo l i D = some D' → ∀ t j, D'.get t = some j ↔ (D.get t = some j ∨ ∃ k o, l[k]? = some o ∧ j = i + k ∧ o.dst = some t)
  | [], i, D, D', h, t, j => by
    cases h
    simp
  | o :: r, i, D, D', h, t, j => by
    unfold dstGo at h
    split at h
    · rename_i hd
      rw [dstGo_spec r (i + 1) D D' h t j]
      constructor
      · rintro (h1 | ⟨k, o', h1, h2, h3⟩)
        · exact .inl h1
        · exact .inr ⟨k + 1, o', h1, by omega, h3⟩
      · rintro (h1 | ⟨k, o', h1, h2, h3⟩)
        · exact .inl h1
        · cases k with
          | zero => simp at h1; subst h1; rw [hd] at h3; cases h3
          | succ k => exact .inr ⟨k, o', by simpa using h1, by omega, h3⟩
    · rename_i d hd
      split at h
      · cases h
      · rename_i hn
        rw [dstGo_spec r (i + 1) _ D' h t j, Tr.get_set]
        constructor
        · rintro (h1 | ⟨k, o', h1, h2, h3⟩)
          · split at h1
            · rename_i he
              cases h1
              exact .inr ⟨0, o, rfl, rfl, by rw [hd, he]⟩
            · exact .inl h1
          · exact .inr ⟨k + 1, o', h1, by omega, h3⟩
        · rintro (h1 | ⟨k, o', h1, h2, h3⟩)
          · left
            rw [if_neg (fun e => by subst e; rw [hn] at h1; cases h1)]
            exact h1
          · cases k with
            | zero =>
              simp at h1; subst h1
              rw [hd] at h3
              cases h3
              left
              rw [if_pos rfl, h2]; rfl
            | succ k => exact .inr ⟨k, o', by simpa using h1, by omega, h3⟩
theorem statGo_spec {ops : Array Oper} {M : List Nat} {D : Tr Nat} : ∀ (l : List Oper) (i : Nat), statGo ops M D l i = true → ∀ k o, l[k]? = some o → M.getD (i + k) 0 = edgeMask M (i + k) o.after.toList ∧ (∀ e ∈ o.after.toList, Region.binds .any e = true → e.on < i + k) ∧ (∀ t ∈ o.looksAt ops, ∀ j, D.get t = some j → (M.getD (i + k) 0).testBit j = true ∨ (M.getD j 0).testBit (i + k) = true)
  | [], i, _, k, o, h => by simp at h
  | p :: r, i, h, k, o, hk => by
    unfold statGo at h
    simp only [Bool.and_eq_true, beq_iff_eq, List.all_eq_true] at h
    obtain ⟨⟨⟨h1, h2⟩, h3⟩, h4⟩ := h
    cases k with
    | zero =>
      simp at hk; subst hk
      refine ⟨h1, fun e he hb => ?_, fun t ht j hj => ?_⟩
      · have := h2 e he
        rw [hb] at this
        simpa using this
      · have := h3 t ht
        rw [hj] at this
        simpa using this
    | succ k =>
      have := statGo_spec r (i + 1) h4 k o (by simpa using hk)
      rwa [show i + 1 + k = i + (k + 1) by omega] at this
/-- A region's text. -/
structure Stat (ops : Array Oper) (M : List Nat) (D : Tr Nat) : Prop where
  mask : ∀ (i : Nat) (o : Oper), ops[i]? = some o → M.getD i 0 = edgeMask M i o.after.toList
  back : ∀ (i : Nat) (o : Oper), ops[i]? = some o → ∀ e ∈ o.after.toList, Region.binds .any e = true → e.on < i
  looks : ∀ (i : Nat) (o : Oper), ops[i]? = some o → ∀ t ∈ o.looksAt ops, ∀ j, D.get t = some j → (M.getD i 0).testBit j = true ∨ (M.getD j 0).testBit i = true
  dst : ∀ t j, D.get t = some j ↔ ∃ o, ops[j]? = some o ∧ o.dst = some t
theorem statS_spec {ops : Array Oper} {M : List Nat} {D : Tr Nat} (h : statS ops = some (M, D)) : Stat ops M D := by
  unfold statS at h
  split at h
  · rename_i D' hd
    simp only [] at h
    split at h
    · rename_i hs
      cases h
      have sp := statGo_spec _ _ hs
      refine ⟨fun i o ho => ?_, fun i o ho => ?_, fun i o ho => ?_, fun t j => ?_⟩
      · have := (sp i o (by simpa using ho)).1
        rwa [Nat.zero_add] at this
      · have := (sp i o (by simpa using ho)).2.1
        rwa [Nat.zero_add] at this
      · have := (sp i o (by simpa using ho)).2.2
        rwa [Nat.zero_add] at this
      · rw [dstGo_spec _ _ _ _ hd t j]
        constructor
        · rintro (h1 | ⟨k, o', h1, h2, h3⟩)
          · cases h1
          · exact ⟨o', by rw [h2, Nat.zero_add]; simpa using h1, h3⟩
        · rintro ⟨o', h1, h2⟩
          exact .inr ⟨j, o', by simpa using h1, by omega, h2⟩
    · cases h
  · cases h
theorem Stat.lt {ops : Array Oper} {M : List Nat} {D : Tr Nat} (h : Stat ops M D) : ∀ (i : Nat), i < ops.size → ∀ j, (M.getD i 0).testBit j = true → j < i := by
  intro i
  induction i using Nat.strongRecOn with
  | _ i ih =>
    intro hi j hj
    have ho : ops[i]? = some ops[i] := Array.getElem?_eq_getElem hi
    rw [h.mask i _ ho] at hj
    obtain ⟨e, _, _, h3, h4⟩ := edgeMask_bit hj
    rcases h4 with h4 | h4
    · omega
    · have := ih e.on h3 (by omega) j h4
      omega
/-- What an operation waits for, through others too, has come when it may come. -/
theorem Stat.come {ops : Array Oper} {M : List Nat} {D : Tr Nat} (h : Stat ops M D) {listed : Nat → Prop} (hcl : ∀ (j : Nat) (o : Oper), ops[j]? = some o → listed j → ∀ e ∈ o.after.toList, Region.binds .any e = true → listed e.on) :
    ∀ (i : Nat) (o : Oper), ops[i]? = some o → (∀ e ∈ o.after.toList, Region.binds .any e = true → listed e.on) → ∀ j, (M.getD i 0).testBit j = true → listed j := by
  intro i
  induction i using Nat.strongRecOn with
  | _ i ih =>
    intro o ho hall j hj
    rw [h.mask i o ho] at hj
    obtain ⟨e, h1, h2, h3, h4⟩ := edgeMask_bit hj
    have hl := hall e h1 h2
    rcases h4 with h4 | h4
    · rw [h4]; exact hl
    · have hi : i < ops.size := (Array.getElem?_eq_some_iff.1 ho).1
      have ho' : ops[e.on]? = some ops[e.on] := Array.getElem?_eq_getElem (by omega)
      exact ih e.on h3 _ ho' (hcl _ _ ho' hl) j h4

/-- What a slot holds when the operations ahead of i have come. -/
def TAt (D : Tr Nat) (R : Tr Rec) (T0 : Tr Value) (i : Nat) (t : Nat) : Option Value :=
  match D.get t with
  | some q => if q < i then (R.get q).map Rec.v else T0.get t
  | none => T0.get t
/-- What was seen at an operation. -/
def FactAt (call : CallF) (P : Program) (N : Nat) (ops : Array Oper) (M : List Nat) (D : Tr Nat) (T0 : Tr Value) (n0 : Nat) (all : List St) (E : List Nat) (R : Tr Rec) (j : Nat) (o : Oper) : Prop :=
  (∀ d, o.dst = some d → d < N) ∧ ∃ T : Tr Value, (∀ t, T.get t = TAt D R T0 j t) ∧
  match R.get j with
  | some (.val v) => (wants ops T o = some false ∧ v = .tuple #[]) ∨ (wants ops T o = some true ∧ ∃ (c : Nat) (s : St), all[c]? = some s ∧ quiet P o.op T s.h = some v)
  | some (.alc v ob) => wants ops T o = some true ∧ allocV P o.op T (n0 + j) = some (v, ob)
  | some (.eff v) => wants ops T o = some true ∧ ∃ c s s', E[c]? = some j ∧ all[c]? = some s ∧ all[c + 1]? = some s' ∧ (∀ c' e, c' < c → E[c']? = some e → (M.getD j 0).testBit e = true) ∧
      ∃ Lo, effL call P o.op T ⟨s.next, rowsOf R n0 (fun l => (M.getD j 0).testBit l && !matd (E.take c) M l) (rng ops j) s.h⟩ = some Lo ∧ (v, s') ∈ Lo
  | some (.frk _) => wants ops T o = some true ∧ ∃ (c : Nat) (s : St) (u : Value), all[c]? = some s ∧ quiet P o.op T s.h = some u ∧ isUnk u = true
  | none => False
theorem TAt_congr {D : Tr Nat} {R R' : Tr Rec} {T0 : Tr Value} {i : Nat} (h : ∀ q, q < i → R'.get q = R.get q) (t : Nat) : TAt D R' T0 i t = TAt D R T0 i t := by
  unfold TAt
  split
  · split
    · rw [h _ ‹_›]
    · rfl
  · rfl
theorem rowsOf_congr {R R' : Tr Rec} {n0 : Nat} {c : Nat → Bool} : ∀ (l : List Nat) (h : Tr AObj), (∀ q ∈ l, R'.get q = R.get q) → rowsOf R' n0 c l h = rowsOf R n0 c l h
  | [], _, _ => rfl
  | q :: l, h, hq => by
    unfold rowsOf
    rw [hq q List.mem_cons_self]
    split
    · split
      · exact rowsOf_congr l _ fun x hx => hq x (List.mem_cons_of_mem _ hx)
      · exact rowsOf_congr l _ fun x hx => hq x (List.mem_cons_of_mem _ hx)
    · exact rowsOf_congr l _ fun x hx => hq x (List.mem_cons_of_mem _ hx)
/-- A fact stays when more is seen. -/
theorem FactAt.stay {call : CallF} {P : Program} {N : Nat} {ops : Array Oper} {M : List Nat} {D : Tr Nat} {T0 : Tr Value} {n0 : Nat} {all all2 : List St} {E E2 : List Nat} {R R' : Tr Rec} {j : Nat} {o : Oper}
    (h : FactAt call P N ops M D T0 n0 all E R j o) (hR : ∀ q, q ≤ j → R'.get q = R.get q) : FactAt call P N ops M D T0 n0 (all ++ all2) (E ++ E2) R' j o := by
  obtain ⟨hN, T, h1, h2⟩ := h
  refine ⟨hN, T, fun t => by rw [h1 t, TAt_congr (fun q hq => hR q (by omega))], ?_⟩
  rw [hR j (Nat.le_refl _)]
  split
  · rename_i v hv
    rw [hv] at h2
    rcases h2 with h2 | ⟨q1, c, s, q2, q3⟩
    · exact .inl h2
    · exact .inr ⟨q1, c, s, by rw [List.getElem?_append_left (List.getElem?_eq_some_iff.1 q2).1]; exact q2, q3⟩
  · rename_i v ob hv; rw [hv] at h2; exact h2
  · rename_i v hv
    rw [hv] at h2
    obtain ⟨q1, c, s, s', q2, q3, q4, q5, q6⟩ := h2
    have lc : c < E.length := (List.getElem?_eq_some_iff.1 q2).1
    have la : c + 1 < all.length := (List.getElem?_eq_some_iff.1 q4).1
    refine ⟨q1, c, s, s', by rw [List.getElem?_append_left lc]; exact q2, by rw [List.getElem?_append_left (by omega)]; exact q3, by rw [List.getElem?_append_left la]; exact q4, fun c' e hc he => ?_, ?_⟩
    · rw [List.getElem?_append_left (by omega)] at he
      exact q5 c' e hc he
    · obtain ⟨Lo, q6, q7⟩ := q6
      refine ⟨Lo, ?_, q7⟩
      rw [List.take_append_of_le_length (by omega), rowsOf_congr (R := R) (R' := R') _ _ (fun q hq => hR q (by have := rng_lt hq; omega))]
      exact q6
  · rename_i b hv
    rw [hv] at h2
    obtain ⟨q1, c, s, u, q2, q3⟩ := h2
    exact ⟨q1, c, s, u, by rw [List.getElem?_append_left (List.getElem?_eq_some_iff.1 q2).1]; exact q2, q3⟩
  · rename_i hv; rw [hv] at h2; exact h2
/-- What has been seen of the operations ahead of i. -/
structure PInv (call : CallF) (P : Program) (N : Nat) (ops : Array Oper) (M : List Nat) (D : Tr Nat) (T0 : Tr Value) (n0 : Nat) (i : Nat) (T : Tr Value) (all : List St) (cur : St) (E : List Nat) (R : Tr Rec) : Prop where
  slots : ∀ t, T.get t = TAt D R T0 i t
  seen : ∀ j o, j < i → ops[j]? = some o → FactAt call P N ops M D T0 n0 all E R j o
  len : all.length = E.length + 1
  last : all[E.length]? = some cur
  effs : ∀ (c e : Nat), E[c]? = some e → e < i ∧ ∃ v, R.get e = some (.eff v)
  once : ∀ (c c' e : Nat), E[c]? = some e → E[c']? = some e → c = c'
section
variable {call : CallF} {P : Program} {N : Nat} {ops : Array Oper} {M : List Nat} {D : Tr Nat} {T0 : Tr Value} {n0 : Nat} {i : Nat} {T : Tr Value} {all : List St} {cur : St} {E : List Nat} {R : Tr Rec}
theorem put_bound {T' : Tr Value} {d : Option Nat} {v : Value} (h : putT N T d v = some T') : (∀ x, d = some x → x < N) ∧ ∀ t, T'.get t = if d = some t then some v else T.get t := by
  unfold putT at h
  split at h
  · cases h
    exact ⟨fun x hx => (nomatch hx), fun t => by simp⟩
  · rename_i d
    split at h
    · rename_i hd
      cases h
      refine ⟨fun x hx => by cases hx; exact hd, fun t => ?_⟩
      rw [Tr.get_set]
      by_cases htd : t = d
      · subst htd; simp
      · rw [if_neg htd, if_neg (fun e => htd (by cases e; rfl))]
    · cases h
theorem TAt_step (st : Stat ops M D) (hp : PInv call P N ops M D T0 n0 i T all cur E R) {o : Oper} (ho : ops[i]? = some o) {T' : Tr Value} {rec : Rec} (h : putT N T o.dst rec.v = some T') (t : Nat) : T'.get t = TAt D (R.set 40 i (some rec)) T0 (i + 1) t := by
  rw [(put_bound h).2 t]
  unfold TAt
  split
  · rename_i hd
    have hD : D.get t = some i := (st.dst t i).2 ⟨o, ho, hd⟩
    rw [hD]
    simp only []
    rw [if_pos (Nat.lt_succ_self _), Tr.get_set, if_pos rfl]
    rfl
  · rename_i hd
    rw [hp.slots t]
    unfold TAt
    split
    · rename_i q hq
      have hqi : q ≠ i := fun e => by
        subst e
        obtain ⟨o', h1, h2⟩ := (st.dst t q).1 hq
        rw [ho] at h1; cases h1
        exact hd h2
      by_cases hlt : q < i
      · rw [if_pos hlt, if_pos (by omega), Tr.get_set, if_neg hqi]
      · rw [if_neg hlt, if_neg (by omega)]
    · rfl
theorem TAt_next (st : Stat ops M D) (hT : ∀ t, T.get t = TAt D R T0 i t) {o : Oper} (ho : ops[i]? = some o) {rec : Rec} (hr : R.get i = some rec) (t : Nat) : (match o.dst with | some d => T.set 40 d (some rec.v) | none => T).get t = TAt D R T0 (i + 1) t := by
  have key : ∀ {v : Option Value}, (o.dst = some t → v = some rec.v) → (o.dst ≠ some t → v = T.get t) → v = TAt D R T0 (i + 1) t := by
    intro v h1 h2
    unfold TAt
    by_cases hd : o.dst = some t
    · rw [(st.dst t i).2 ⟨o, ho, hd⟩, h1 hd]
      simp [hr]
    · rw [h2 hd, hT t]
      unfold TAt
      split
      · rename_i q hq
        have hqi : q ≠ i := fun e => by
          subst e
          obtain ⟨o', h1, h2⟩ := (st.dst t q).1 hq
          rw [ho] at h1; cases h1
          exact hd h2
        by_cases hlt : q < i
        · rw [if_pos hlt, if_pos (by omega)]
        · rw [if_neg hlt, if_neg (by omega)]
      · rfl
  cases hd : o.dst with
  | none => exact key (fun h => by rw [hd] at h; cases h) (fun _ => rfl)
  | some d =>
    refine key (fun h => ?_) (fun h => ?_)
    · rw [hd] at h; cases h
      simp only []
      rw [Tr.get_set, if_pos rfl]
    · simp only []
      rw [Tr.get_set, if_neg (fun e => h (by rw [hd, e]))]
theorem PInv.step (st : Stat ops M D) (hp : PInv call P N ops M D T0 n0 i T all cur E R) {o : Oper} (ho : ops[i]? = some o) {T' : Tr Value} {rec : Rec} (h : putT N T o.dst rec.v = some T') (all2 : List St) (E2 : List Nat) (cur' : St)
    (hl : (all ++ all2).length = (E ++ E2).length + 1) (hc : (all ++ all2)[(E ++ E2).length]? = some cur') (he : E2 = [] ∨ (E2 = [i] ∧ ∃ v, rec = .eff v))
    (hf : FactAt call P N ops M D T0 n0 (all ++ all2) (E ++ E2) (R.set 40 i (some rec)) i o) : PInv call P N ops M D T0 n0 (i + 1) T' (all ++ all2) cur' (E ++ E2) (R.set 40 i (some rec)) := by
  refine ⟨fun t => TAt_step st hp ho h t, fun j p hj hpj => ?_, hl, hc, fun c e hce => ?_, fun c c' e hce hce' => ?_⟩
  · by_cases hji : j = i
    · subst hji
      rw [ho] at hpj; cases hpj
      exact hf
    · exact (hp.seen j p (by omega) hpj).stay fun q hq => by rw [Tr.get_set, if_neg (by omega)]
  · rw [List.getElem?_append] at hce
    split at hce
    · obtain ⟨h1, v, h2⟩ := hp.effs c e hce
      exact ⟨by omega, v, by rw [Tr.get_set, if_neg (by omega)]; exact h2⟩
    · rcases he with rfl | ⟨rfl, v, hv⟩
      · cases hce
      · obtain rfl : e = i := by have := List.mem_of_getElem? hce; simpa using this
        exact ⟨Nat.lt_succ_self _, v, by rw [Tr.get_set, if_pos rfl, hv]⟩
  · rcases he with rfl | ⟨rfl, v, hv⟩
    · rw [List.append_nil] at hce hce'
      exact hp.once c c' e hce hce'
    · rw [List.getElem?_append] at hce hce'
      have last : ∀ {c : Nat}, ¬ c < E.length → [i][c - E.length]? = some e → e = i ∧ c = E.length := fun {c} h1 h2 => by
        have h3 := (List.getElem?_eq_some_iff.1 h2).1
        have h4 := List.mem_of_getElem? h2
        simp at h3 h4
        exact ⟨h4, by omega⟩
      split at hce
      · split at hce'
        · exact hp.once c c' e hce hce'
        · have h1 := (hp.effs c e hce).1
          have h2 := (last ‹_› hce').1
          omega
      · split at hce'
        · have h1 := (hp.effs c' e hce').1
          have h2 := (last ‹_› hce).1
          omega
        · rw [(last ‹_› hce).2, (last ‹_› hce').2]
end
/-- Two ways that part at operation j. -/
def Agr (M : List Nat) (n j : Nat) (x y : Leaf) : Prop := ∃ c : Nat, (∀ k : Nat, k ≤ c → x.2.1[k]? = y.2.1[k]?) ∧ (∀ k : Nat, k < c → x.2.2.2.1[k]? = y.2.2.2.1[k]?) ∧ (∀ (k e : Nat), c ≤ k → x.2.2.2.1[k]? = some e → e = j ∨ (M.getD e 0).testBit j = true) ∧ (∀ (k e : Nat), c ≤ k → y.2.2.2.1[k]? = some e → e = j ∨ (M.getD e 0).testBit j = true) ∧
  ∀ q : Nat, q < n → q ≠ j → (M.getD q 0).testBit j = false → x.2.2.2.2.get q = y.2.2.2.2.get q
/-- Wherever a way parts, the other one is there too. -/
def ForkC (M : List Nat) (n i m : Nat) (L : List Leaf) : Prop := ∀ x ∈ L, ∀ (j : Nat) (b : Bool), i ≤ j → j < m → x.2.2.2.2.get j = some (.frk b) → ∃ y ∈ L, y.2.2.2.2.get j = some (.frk !b) ∧ Agr M n j x y
/-- An effect may come to any of its outcomes. -/
def ForkE (call : CallF) (P : Program) (ops : Array Oper) (M : List Nat) (D : Tr Nat) (T0 : Tr Value) (n0 : Nat) (i m : Nat) (L : List Leaf) : Prop := ∀ x ∈ L, ∀ (c j : Nat) (o : Oper), x.2.2.2.1[c]? = some j → i ≤ j → j < m → ops[j]? = some o → ∃ (T : Tr Value) (s : St) (Lo : List (Value × St)), (∀ t, T.get t = TAt D x.2.2.2.2 T0 j t) ∧ x.2.1[c]? = some s ∧
  effL call P o.op T ⟨s.next, rowsOf x.2.2.2.2 n0 (fun l => (M.getD j 0).testBit l && !matd (x.2.2.2.1.take c) M l) (rng ops j) s.h⟩ = some Lo ∧
  ∀ z ∈ Lo, (x.2.2.2.2.get j = some (.eff z.1) ∧ x.2.1[c + 1]? = some z.2) ∨ ∃ y ∈ L, y.2.2.2.2.get j = some (.eff z.1) ∧ y.2.2.2.1[c]? = some j ∧ y.2.1[c + 1]? = some z.2 ∧ Agr M ops.size j x y
theorem allL_mem {α β : Type} {f : α → Option β} : ∀ {l : List α} {m : List β}, allL f l = some m → (∀ x ∈ l, ∃ b ∈ m, f x = some b) ∧ ∀ b ∈ m, ∃ x ∈ l, f x = some b
  | [], m, h => by
    cases h
    exact ⟨fun x hx => absurd hx List.not_mem_nil, fun x hx => absurd hx List.not_mem_nil⟩
  | a :: l, m, h => by
    unfold allL at h
    split at h
    · rename_i u v h1 h2
      cases h
      obtain ⟨q1, q2⟩ := allL_mem h2
      refine ⟨fun x hx => ?_, fun b hb => ?_⟩
      · cases hx with
        | head => exact ⟨u, List.mem_cons_self, h1⟩
        | tail _ hx => obtain ⟨b, k1, k2⟩ := q1 x hx; exact ⟨b, List.mem_cons_of_mem _ k1, k2⟩
      · cases hb with
        | head => exact ⟨a, List.mem_cons_self, h1⟩
        | tail _ hb => obtain ⟨x, k1, k2⟩ := q2 b hb; exact ⟨x, List.mem_cons_of_mem _ k1, k2⟩
    · cases h
theorem allL_len {α β : Type} {f : α → Option β} : ∀ {l : List α} {m : List β}, allL f l = some m → m.length = l.length
  | [], m, h => by cases h; rfl
  | a :: l, m, h => by
    unfold allL at h
    split at h
    · rename_i u v h1 h2
      cases h
      simp [allL_len h2]
    · cases h
def GoodL (call : CallF) (P : Program) (N : Nat) (ops : Array Oper) (M : List Nat) (D : Tr Nat) (T0 : Tr Value) (n0 : Nat) (i len : Nat) (all : List St) (E : List Nat) (R : Tr Rec) (L : List Leaf) : Prop :=
  (∀ x ∈ L, PInv call P N ops M D T0 n0 (i + len) x.1 x.2.1 x.2.2.1 x.2.2.2.1 x.2.2.2.2 ∧ (∃ a2, x.2.1 = all ++ a2) ∧ (∃ e2, x.2.2.2.1 = E ++ e2) ∧ ∀ q : Nat, q < i → x.2.2.2.2.get q = R.get q) ∧ ForkC M ops.size i (i + len) L ∧ ForkE call P ops M D T0 n0 i (i + len) L
theorem agr_of {M : List Nat} {n i : Nat} {all : List St} {E : List Nat} {x y : Leaf} (h : agree M n i E.length x y = true) (hlen : all.length = E.length + 1) (h1 : ∃ a2, x.2.1 = all ++ a2) (h2 : ∃ e2, x.2.2.2.1 = E ++ e2) (k1 : ∃ a2, y.2.1 = all ++ a2) (k2 : ∃ e2, y.2.2.2.1 = E ++ e2)
    (hq : ∀ q : Nat, q < i → x.2.2.2.2.get q = y.2.2.2.2.get q) : Agr M n i x y := by
  unfold agree at h
  simp only [Bool.and_eq_true] at h
  obtain ⟨g1, g2, g3⟩ := h
  obtain ⟨a2, h1⟩ := h1
  obtain ⟨e2, h2⟩ := h2
  obtain ⟨b2, k1⟩ := k1
  obtain ⟨f2, k2⟩ := k2
  have key : ∀ {l m : List Nat}, l = E ++ m → (l.drop E.length).all (fun e => e == i || (M.getD e 0).testBit i) = true → ∀ k e, E.length ≤ k → l[k]? = some e → e = i ∨ (M.getD e 0).testBit i = true := by
    intro l m hl ha k e hk he
    have : (e == i || (M.getD e 0).testBit i) = true → e = i ∨ (M.getD e 0).testBit i = true := by simp
    refine this (List.all_eq_true.1 ha e ?_)
    rw [hl, List.drop_left]
    rw [hl, List.getElem?_append_right hk] at he
    exact List.mem_of_getElem? he
  refine ⟨E.length, fun k hk => ?_, fun k hk => ?_, key h2 g1, key k2 g2, fun q hqn hqi hb => ?_⟩
  · rw [h1, k1, List.getElem?_append_left (by omega), List.getElem?_append_left (by omega)]
  · rw [h2, k2, List.getElem?_append_left hk, List.getElem?_append_left hk]
  · by_cases hlt : q < i
    · exact hq q hlt
    · have := List.all_eq_true.1 g3 q (List.mem_range.2 hqn)
      rw [hb, show Nat.ble q i = false from by cases hc : Nat.ble q i with | false => rfl | true => exact absurd (Nat.le_of_ble_eq_true hc) (by omega)] at this
      simp only [Bool.false_or] at this
      exact recEq_eq this
theorem passS_spec {call : CallF} {P : Program} {N : Nat} {ops : Array Oper} {M G : List Nat} {D : Tr Nat} {T0 : Tr Value} {n0 : Nat} (st : Stat ops M D) : ∀ (l : List Oper) (i : Nat) (T : Tr Value) (all : List St) (cur : St) (E : List Nat) (R : Tr Rec) (L : List Leaf),
    (∀ k, l[k]? = ops[i + k]?) → PInv call P N ops M D T0 n0 i T all cur E R → passS call P N ops M G n0 l i T all cur E R = some L →
    GoodL call P N ops M D T0 n0 i l.length all E R L
  | [], i, T, all, cur, E, R, L, hl, hp, h => by
    cases h
    refine ⟨fun x hx => ?_, fun x hx j b hj hm => absurd hm (by simp; omega), fun x hx c j o _ hj hm => absurd hm (by simp; omega)⟩
    obtain rfl : x = _ := by simpa using hx
    exact ⟨hp, ⟨[], by simp⟩, ⟨[], by simp⟩, fun _ _ => rfl⟩
  | o :: r, i, T, all, cur, E, R, L, hl, hp, h => by
    have ho : ops[i]? = some o := by have := hl 0; simpa using this.symm
    have hl' : ∀ k, r[k]? = ops[i + 1 + k]? := fun k => by have := hl (k + 1); rw [show i + 1 + k = i + (k + 1) by omega]; simpa using this
    have hlen : i + (o :: r).length = i + 1 + r.length := by simp; omega
    -- the leaves of one way on
    have on : ∀ {rec : Rec} {T1 : Tr Value} {a1 : List St} {cur1 : St} {e1 : List Nat} {L1 : List Leaf}, PInv call P N ops M D T0 n0 (i + 1) T1 (all ++ a1) cur1 (E ++ e1) (R.set 40 i (some rec)) → passS call P N ops M G n0 r (i + 1) T1 (all ++ a1) cur1 (E ++ e1) (R.set 40 i (some rec)) = some L1 →
        (∀ x ∈ L1, PInv call P N ops M D T0 n0 (i + (o :: r).length) x.1 x.2.1 x.2.2.1 x.2.2.2.1 x.2.2.2.2 ∧ (∃ a2, x.2.1 = all ++ a2) ∧ (∃ e2, x.2.2.2.1 = E ++ e2) ∧ (∀ q : Nat, q < i → x.2.2.2.2.get q = R.get q) ∧ x.2.2.2.2.get i = some rec ∧ (∃ a2, x.2.1 = all ++ a1 ++ a2) ∧ ∃ e2, x.2.2.2.1 = E ++ e1 ++ e2) ∧ ForkC M ops.size (i + 1) (i + (o :: r).length) L1 ∧ ForkE call P ops M D T0 n0 (i + 1) (i + (o :: r).length) L1 := by
      intro rec T1 a1 cur1 e1 L1 h1 h2
      obtain ⟨g1, g2⟩ := passS_spec st r (i + 1) T1 _ cur1 _ _ L1 hl' h1 h2
      rw [hlen]
      refine ⟨fun x hx => ?_, g2⟩
      obtain ⟨k1, ⟨a2, k2⟩, ⟨e2, k3⟩, k4⟩ := g1 x hx
      refine ⟨k1, ⟨a1 ++ a2, by rw [k2, List.append_assoc]⟩, ⟨e1 ++ e2, by rw [k3, List.append_assoc]⟩, fun q hq => ?_, ?_, ⟨a2, k2⟩, ⟨e2, k3⟩⟩
      · rw [k4 q (by omega), Tr.get_set, if_neg (by omega)]
      · rw [k4 i (Nat.lt_succ_self _), Tr.get_set, if_pos rfl]
    -- what came ahead of i is no effect of i's
    have noE : ∀ {x : Leaf} {c : Nat}, PInv call P N ops M D T0 n0 (i + (o :: r).length) x.1 x.2.1 x.2.2.1 x.2.2.2.1 x.2.2.2.2 → x.2.2.2.1[c]? = some i → ∃ v, x.2.2.2.2.get i = some (.eff v) := fun h1 h2 => (h1.effs _ _ h2).2
    have lift : ∀ {rec : Rec} {T1 : Tr Value} {a1 : List St} {cur1 : St} {e1 : List Nat}, (∀ b, rec ≠ .frk b) → (∀ v, rec ≠ .eff v) → PInv call P N ops M D T0 n0 (i + 1) T1 (all ++ a1) cur1 (E ++ e1) (R.set 40 i (some rec)) → passS call P N ops M G n0 r (i + 1) T1 (all ++ a1) cur1 (E ++ e1) (R.set 40 i (some rec)) = some L → GoodL call P N ops M D T0 n0 i (o :: r).length all E R L := by
      intro rec T1 a1 cur1 e1 hne hnf h1 h2
      obtain ⟨g1, g2, g3⟩ := on h1 h2
      refine ⟨fun x hx => ⟨(g1 x hx).1, (g1 x hx).2.1, (g1 x hx).2.2.1, (g1 x hx).2.2.2.1⟩, fun x hx j b hj hm hr => ?_, fun x hx c j p he hj hm hp => ?_⟩
      · by_cases hji : j = i
        · subst hji
          rw [(g1 x hx).2.2.2.2.1] at hr
          cases hr
          exact absurd rfl (hne b)
        · exact g2 x hx j b (by omega) hm hr
      · by_cases hji : j = i
        · subst hji
          obtain ⟨v, hv⟩ := noE (g1 x hx).1 he
          rw [(g1 x hx).2.2.2.2.1] at hv
          cases hv
          exact absurd rfl (hnf v)
        · exact g3 x hx c j p he (by omega) hm hp
    have same : ∀ {rec : Rec} (t : Nat), TAt D (R.set 40 i (some rec)) T0 i t = TAt D R T0 i t := fun t => TAt_congr (fun q hq => by rw [Tr.get_set, if_neg (by omega)]) t
    have quietInv : ∀ {rec : Rec} {T1 : Tr Value}, putT N T o.dst rec.v = some T1 → FactAt call P N ops M D T0 n0 all E (R.set 40 i (some rec)) i o → PInv call P N ops M D T0 n0 (i + 1) T1 (all ++ []) cur (E ++ []) (R.set 40 i (some rec)) := by
      intro rec T1 h1 h3
      exact hp.step st ho h1 [] [] cur (by simpa using hp.len) (by simpa using hp.last) (.inl rfl) (by simpa using h3)
    have quietStep : ∀ {rec : Rec} {T1 : Tr Value}, putT N T o.dst rec.v = some T1 → (∀ b, rec ≠ .frk b) → (∀ v, rec ≠ .eff v) → FactAt call P N ops M D T0 n0 all E (R.set 40 i (some rec)) i o → passS call P N ops M G n0 r (i + 1) T1 all cur E (R.set 40 i (some rec)) = some L → GoodL call P N ops M D T0 n0 i (o :: r).length all E R L := by
      intro rec T1 h1 h2 h2' h3 h4
      exact lift (a1 := []) (e1 := []) h2 h2' (quietInv h1 h3) (by simpa using h4)
    unfold passS at h
    split at h
    · rename_i hw
      split at h
      · rename_i T1 h1
        exact quietStep (rec := .val (.tuple #[])) h1 (fun v e => nomatch e) (fun v e => nomatch e) ⟨fun d hd => (put_bound h1).1 d hd, T, fun t => (hp.slots t).trans (same t).symm, by rw [Tr.get_set, if_pos rfl]; exact .inl ⟨hw, rfl⟩⟩ h
      · cases h
    · rename_i hw
      split at h
      · split at h
        · rename_i v ob ha
          split at h
          · rename_i T1 h1
            exact quietStep (rec := .alc v ob) h1 (fun v e => nomatch e) (fun v e => nomatch e) ⟨fun d hd => (put_bound h1).1 d hd, T, fun t => (hp.slots t).trans (same t).symm, by rw [Tr.get_set, if_pos rfl]; exact ⟨hw, ha⟩⟩ h
          · cases h
        · cases h
      · split at h
        · rename_i v hq
          split at h
          · rename_i hub
            rw [Bool.and_eq_true] at hub
            split at h
            · rename_i T1 T2 h1 h2
              split at h
              · rename_i L1 L2 hL1 hL2
                split at h
                · rename_i hag
                  cases h
                  rw [Bool.and_eq_true] at hag
                  have fact : ∀ b, FactAt call P N ops M D T0 n0 all E (R.set 40 i (some (.frk b))) i o := fun b => ⟨fun d hd => (put_bound h1).1 d hd, T, fun t => (hp.slots t).trans (same t).symm, by rw [Tr.get_set, if_pos rfl]; exact ⟨hw, _, cur, v, hp.last, hq, hub.1⟩⟩
                  obtain ⟨g1, g2, g3⟩ := on (rec := .frk true) (a1 := []) (e1 := []) (quietInv h1 (fact true)) (by simpa using hL1)
                  obtain ⟨k1, k2, k3⟩ := on (rec := .frk false) (a1 := []) (e1 := []) (quietInv h2 (fact false)) (by simpa using hL2)
                  refine ⟨fun x hx => ?_, fun x hx j b hj hm hr => ?_, fun x hx c j p he hj hm hp => ?_⟩
                  · rcases List.mem_append.1 hx with hx | hx
                    · exact ⟨(g1 x hx).1, (g1 x hx).2.1, (g1 x hx).2.2.1, (g1 x hx).2.2.2.1⟩
                    · exact ⟨(k1 x hx).1, (k1 x hx).2.1, (k1 x hx).2.2.1, (k1 x hx).2.2.2.1⟩
                  · rcases List.mem_append.1 hx with hx | hx
                    · by_cases hji : j = i
                      · subst hji
                        obtain ⟨x1, x2, x3, x4, x5, _⟩ := g1 x hx
                        rw [x5] at hr
                        cases hr
                        obtain ⟨y, hy, ha⟩ := List.any_eq_true.1 (List.all_eq_true.1 hag.1 x hx)
                        obtain ⟨y1, y2, y3, y4, y5, _⟩ := k1 y hy
                        exact ⟨y, List.mem_append_right _ hy, y5, agr_of ha hp.len x2 x3 y2 y3 fun q hq => by rw [x4 q hq, y4 q hq]⟩
                      · obtain ⟨y, hy, q1, q2⟩ := g2 x hx j b (by omega) hm hr
                        exact ⟨y, List.mem_append_left _ hy, q1, q2⟩
                    · by_cases hji : j = i
                      · subst hji
                        obtain ⟨x1, x2, x3, x4, x5, _⟩ := k1 x hx
                        rw [x5] at hr
                        cases hr
                        obtain ⟨y, hy, ha⟩ := List.any_eq_true.1 (List.all_eq_true.1 hag.2 x hx)
                        obtain ⟨y1, y2, y3, y4, y5, _⟩ := g1 y hy
                        exact ⟨y, List.mem_append_left _ hy, y5, agr_of ha hp.len x2 x3 y2 y3 fun q hq => by rw [x4 q hq, y4 q hq]⟩
                      · obtain ⟨y, hy, q1, q2⟩ := k2 x hx j b (by omega) hm hr
                        exact ⟨y, List.mem_append_right _ hy, q1, q2⟩
                  · rcases List.mem_append.1 hx with hx | hx
                    · by_cases hji : j = i
                      · subst hji
                        obtain ⟨v, hv⟩ := noE (g1 x hx).1 he
                        rw [(g1 x hx).2.2.2.2.1] at hv
                        cases hv
                      · obtain ⟨T9, s9, Lo, q1, q2, q3, q4⟩ := g3 x hx c j p he (by omega) hm hp
                        refine ⟨T9, s9, Lo, q1, q2, q3, fun z hz => (q4 z hz).imp id ?_⟩
                        rintro ⟨y, hy, q5⟩
                        exact ⟨y, List.mem_append_left _ hy, q5⟩
                    · by_cases hji : j = i
                      · subst hji
                        obtain ⟨v, hv⟩ := noE (k1 x hx).1 he
                        rw [(k1 x hx).2.2.2.2.1] at hv
                        cases hv
                      · obtain ⟨T9, s9, Lo, q1, q2, q3, q4⟩ := k3 x hx c j p he (by omega) hm hp
                        refine ⟨T9, s9, Lo, q1, q2, q3, fun z hz => (q4 z hz).imp id ?_⟩
                        rintro ⟨y, hy, q5⟩
                        exact ⟨y, List.mem_append_right _ hy, q5⟩
                · cases h
              · cases h
            · cases h
          · split at h
            · rename_i T1 h1
              exact quietStep (rec := .val v) h1 (fun v e => nomatch e) (fun v e => nomatch e) ⟨fun d hd => (put_bound h1).1 d hd, T, fun t => (hp.slots t).trans (same t).symm, by rw [Tr.get_set, if_pos rfl]; exact .inr ⟨hw, _, cur, hp.last, hq⟩⟩ h
            · cases h
        · split at h
          · rename_i hE
            split at h
            · rename_i Lo he
              split at h
              · rename_i LL hLL
                split at h
                · rename_i hag
                  cases h
                  obtain ⟨m1, m2⟩ := allL_mem hLL
                  -- each outcome's way on
                  have way : ∀ l ∈ LL, ∃ z ∈ Lo, (∀ x ∈ l, PInv call P N ops M D T0 n0 (i + (o :: r).length) x.1 x.2.1 x.2.2.1 x.2.2.2.1 x.2.2.2.2 ∧ (∃ a2, x.2.1 = all ++ a2) ∧ (∃ e2, x.2.2.2.1 = E ++ e2) ∧ (∀ q : Nat, q < i → x.2.2.2.2.get q = R.get q) ∧ x.2.2.2.2.get i = some (.eff z.1) ∧ (∃ a2, x.2.1 = all ++ [z.2] ++ a2) ∧ ∃ e2, x.2.2.2.1 = E ++ [i] ++ e2) ∧ ForkC M ops.size (i + 1) (i + (o :: r).length) l ∧ ForkE call P ops M D T0 n0 (i + 1) (i + (o :: r).length) l := by
                    intro l hl
                    obtain ⟨z, hz, hf⟩ := m2 l hl
                    refine ⟨z, hz, ?_⟩
                    split at hf
                    · rename_i T1 h1
                      have hlen : (all ++ [z.2]).length = (E ++ [i]).length + 1 := by simp [hp.len]
                      have hlast : (all ++ [z.2])[(E ++ [i]).length]? = some z.2 := by
                        rw [List.getElem?_append_right (by simp [hp.len])]
                        simp [hp.len]
                      refine on (rec := .eff z.1) (a1 := [z.2]) (cur1 := z.2) (e1 := [i]) ?_ hf
                      refine hp.step st ho (rec := .eff z.1) h1 [z.2] [i] z.2 hlen hlast (.inr ⟨rfl, z.1, rfl⟩) ?_
                      refine ⟨fun d hd => (put_bound h1).1 d hd, T, fun t => (hp.slots t).trans (same t).symm, ?_⟩
                      rw [Tr.get_set, if_pos rfl]
                      refine ⟨hw, E.length, cur, z.2, by simp, ?_, ?_, fun c' e hc he => ?_, Lo, ?_, hz⟩
                      · rw [List.getElem?_append_left (by rw [hp.len]; omega)]; exact hp.last
                      · have := hlast; simpa using this
                      · rw [List.getElem?_append_left hc] at he
                        exact List.all_eq_true.1 hE e (List.mem_of_getElem? he)
                      · rw [List.take_left, rowsOf_congr (R := R) _ _ (fun q hq => by rw [Tr.get_set, if_neg (by have := rng_lt hq; omega)])]
                        exact he
                    · cases hf
                  refine ⟨fun x hx => ?_, fun x hx j b hj hm hr => ?_, fun x hx c j p hc hj hm hp' => ?_⟩
                  · obtain ⟨l, hl, hxl⟩ := List.mem_flatten.1 hx
                    obtain ⟨z, hz, g1, _⟩ := way l hl
                    exact ⟨(g1 x hxl).1, (g1 x hxl).2.1, (g1 x hxl).2.2.1, (g1 x hxl).2.2.2.1⟩
                  · obtain ⟨l, hl, hxl⟩ := List.mem_flatten.1 hx
                    obtain ⟨z, hz, g1, g2, _⟩ := way l hl
                    by_cases hji : j = i
                    · subst hji
                      rw [(g1 x hxl).2.2.2.2.1] at hr
                      cases hr
                    · obtain ⟨y, hy, q⟩ := g2 x hxl j b (by omega) hm hr
                      exact ⟨y, List.mem_flatten.2 ⟨l, hl, hy⟩, q⟩
                  · obtain ⟨l, hml, hxl⟩ := List.mem_flatten.1 hx
                    have hl := hml
                    obtain ⟨z, hz, g1, _, g3⟩ := way l hml
                    by_cases hji : j = i
                    · subst hji
                      rw [ho] at hp'; cases hp'
                      obtain ⟨x1, x2, x3, x4, x5, ⟨a2, x6⟩, ⟨e2, x7⟩⟩ := g1 x hxl
                      have hcE : c = E.length := x1.once c E.length j hc (by rw [x7]; simp)
                      subst hcE
                      refine ⟨T, cur, Lo, fun t => ?_, ?_, ?_, fun u hu => ?_⟩
                      · rw [hp.slots t]
                        exact (TAt_congr (fun q hq => x4 q hq) t).symm
                      · rw [x6, List.append_assoc, List.getElem?_append_left (by rw [hp.len]; omega)]
                        exact hp.last
                      · rw [x7, List.append_assoc, List.take_left, rowsOf_congr (R := R) _ _ (fun q hq => x4 q (rng_lt hq))]
                        exact he
                      · obtain ⟨l2, hl2, hf2⟩ := m1 u hu
                        obtain ⟨z2, hz2, g12, _⟩ := way l2 hl2
                        by_cases hone : oneL LL = true
                        · -- one outcome alone
                          left
                          have hLo : Lo.length = 1 := by
                            rw [← allL_len hLL]
                            unfold oneL at hone
                            split at hone
                            · rfl
                            · cases hone
                          obtain ⟨u0, rfl⟩ := List.length_eq_one_iff.1 hLo
                          obtain rfl : z = u0 := by simpa using hz
                          obtain rfl : u = z := by simpa using hu
                          exact ⟨x5, by rw [x6, List.append_assoc, List.getElem?_append_right (by rw [hp.len]; omega)]; simp [hp.len]⟩
                        · right
                          rw [Bool.or_eq_true] at hag
                          have hag := hag.resolve_left hone
                          have hag := List.all_eq_true.1 (List.all_eq_true.1 hag l hml) l2 hl2
                          obtain ⟨y, hy, ha⟩ := List.any_eq_true.1 (List.all_eq_true.1 hag x hxl)
                          -- y stands behind u
                          obtain ⟨y5, y6, y7⟩ : y.2.2.2.2.get j = some (.eff u.1) ∧ (∃ a2, y.2.1 = all ++ [u.2] ++ a2) ∧ ∃ e2, y.2.2.2.1 = E ++ [j] ++ e2 := by
                            split at hf2
                            · rename_i T1 h1
                              have hlen : (all ++ [u.2]).length = (E ++ [j]).length + 1 := by simp [hp.len]
                              have hlast : (all ++ [u.2])[(E ++ [j]).length]? = some u.2 := by
                                rw [List.getElem?_append_right (by simp [hp.len])]
                                simp [hp.len]
                              obtain ⟨k1, _⟩ := on (rec := .eff u.1) (a1 := [u.2]) (cur1 := u.2) (e1 := [j]) (by
                                refine hp.step st ho (rec := .eff u.1) h1 [u.2] [j] u.2 hlen hlast (.inr ⟨rfl, u.1, rfl⟩) ?_
                                refine ⟨fun d hd => (put_bound h1).1 d hd, T, fun t => (hp.slots t).trans (same t).symm, ?_⟩
                                rw [Tr.get_set, if_pos rfl]
                                refine ⟨hw, E.length, cur, u.2, by simp, ?_, ?_, fun c' e hc he => ?_, Lo, ?_, hu⟩
                                · rw [List.getElem?_append_left (by rw [hp.len]; omega)]; exact hp.last
                                · have := hlast; simpa using this
                                · rw [List.getElem?_append_left hc] at he
                                  exact List.all_eq_true.1 hE e (List.mem_of_getElem? he)
                                · rw [List.take_left, rowsOf_congr (R := R) _ _ (fun q hq => by rw [Tr.get_set, if_neg (by have := rng_lt hq; omega)])]
                                  exact he) hf2
                              exact (k1 y hy).2.2.2.2
                            · cases hf2
                          obtain ⟨y1, y2, y3, y4, _⟩ := g12 y hy
                          refine ⟨y, List.mem_flatten.2 ⟨l2, hl2, hy⟩, y5, ?_, ?_, agr_of ha hp.len x2 x3 y2 y3 fun q hq => by rw [x4 q hq, y4 q hq]⟩
                          · obtain ⟨e3, y7⟩ := y7
                            rw [y7]; simp
                          · obtain ⟨a3, y6⟩ := y6
                            rw [y6, List.append_assoc, List.getElem?_append_right (by rw [hp.len]; omega)]
                            simp [hp.len]
                    · obtain ⟨T9, s9, Lo9, q1, q2, q3, q4⟩ := g3 x hxl c j p hc (by omega) hm hp'
                      refine ⟨T9, s9, Lo9, q1, q2, q3, fun z hz => (q4 z hz).imp id ?_⟩
                      rintro ⟨y, hy, q5⟩
                      exact ⟨y, List.mem_flatten.2 ⟨l, hml, hy⟩, q5⟩
                · cases h
              · cases h
            · cases h
          · cases h
    · cases h
end
end Go.Proofs.YtimlldedpbbeoaaGreat
