/- A drawn region: what is seen hangs on what is looked at alone; rows laid on a heap. -/
import Derived.Test.YtimlldedpbbeoaaGreatXM
namespace Go.Proofs.YtimlldedpbbeoaaGreat
open Go.RowKit
noncomputable section

section
variable {T T' : Tr Value}
theorem evs_congr : ∀ (l : List Operand), (∀ x ∈ l, ev T x = ev T' x) → evs T l = evs T' l
  | [], _ => rfl
  | x :: r, h => by
    unfold evs
    rw [h x List.mem_cons_self, evs_congr r fun y hy => h y (List.mem_cons_of_mem _ hy)]
theorem evo_congr (x : Option Operand) (h : ∀ y, x = some y → ev T y = ev T' y) : evo T x = evo T' x := by
  cases x with
  | none => rfl
  | some y =>
    have := h y rfl
    simp only [evo, this]
theorem evParts_congr : ∀ (l : List (Nat × Operand)), (∀ x ∈ l, ev T x.2 = ev T' x.2) → evParts T l = evParts T' l
  | [], _ => rfl
  | (i, x) :: r, h => by
    unfold evParts
    rw [h (i, x) List.mem_cons_self, evParts_congr r fun y hy => h y (List.mem_cons_of_mem _ hy)]
theorem quiet_congr {P : Program} {hp : Tr AObj} (op : Op) (h : ∀ x ∈ op.operands, ev T x = ev T' x) : quiet P op T hp = quiet P op T' hp := by
  cases op
  case makeFunc fn f c =>
    cases fn <;> simp only [quiet]
    rw [evs_congr f.toList fun x hx => h x (by simp [Op.operands] at hx ⊢; exact .inl hx), evs_congr c.toList fun x hx => h x (by simp [Op.operands] at hx ⊢; exact .inr hx)]
  all_goals simp only [quiet] <;> (try rfl)
  case move x => exact h x (by simp [Op.operands])
  case assign x => exact h x (by simp [Op.operands])
  case pick c a b => rw [h c (by simp [Op.operands]), h a (by simp [Op.operands]), h b (by simp [Op.operands])]
  case build t ps => rw [evParts_congr ps.toList fun x hx => h x.2 (by simp only [Op.operands]; simp only [List.mem_toArray, List.mem_map]; exact ⟨x, hx, rfl⟩)]
  case load t x => rw [h x (by simp [Op.operands])]
  case nilCheck x => rw [h x (by simp [Op.operands])]
  case entry x => rw [h x (by simp [Op.operands])]
  case lookup t x i ok => rw [h x (by simp [Op.operands]), h i (by simp [Op.operands])]
  case binOp op t x y ty => rw [h x (by simp [Op.operands]), h y (by simp [Op.operands])]
  case unOp op t x => rw [h x (by simp [Op.operands])]
  case convert a b x => rw [h x (by simp [Op.operands])]
  case slice t x lo hi mx =>
    rw [h x (by simp [Op.operands]), evo_congr lo fun y hy => h y (by subst hy; simp [Op.operands]), evo_congr hi fun y hy => h y (by subst hy; simp [Op.operands]), evo_congr mx fun y hy => h y (by subst hy; simp [Op.operands])]
  case fieldAddr t x f => rw [h x (by simp [Op.operands])]
  case field t x f => rw [h x (by simp [Op.operands])]
  case indexAddr t x i => rw [h x (by simp [Op.operands]), h i (by simp [Op.operands])]
  case index t x i => rw [h x (by simp [Op.operands]), h i (by simp [Op.operands])]
  case extract x i => rw [h x (by simp [Op.operands])]
  case makeInterface t x => rw [h x (by simp [Op.operands])]
  case typeAssert x t a ok => rw [h x (by simp [Op.operands])]
  case call c =>
    obtain ⟨cal, args, ts⟩ := c
    cases cal with
    | builtin b =>
      simp only []
      rw [evs_congr args.toList fun x hx => h x (by simp [Op.operands, Call.operands] at hx ⊢; exact hx)]
    | value f => rfl
    | invoke r m => rfl
theorem alloc_congr {P : Program} {n : Nat} (op : Op) (h : ∀ x ∈ op.operands, ev T x = ev T' x) : allocV P op T n = allocV P op T' n := by
  cases op <;> simp only [allocV]
  case box e v => rw [h v (by simp [Op.operands])]
  case buildSlice t len ps => rw [evParts_congr ps.toList fun x hx => h x.2 (by simp only [Op.operands]; simp only [List.mem_toArray, List.mem_map]; exact ⟨x, hx, rfl⟩)]
  case makeSlice t l c => rw [h l (by simp [Op.operands]), h c (by simp [Op.operands])]
  case makeChan t l => rw [h l (by simp [Op.operands])]
  case makeMap t r => rw [evo_congr r fun y hy => h y (by subst hy; simp [Op.operands])]
theorem eff_congr {call : CallF} {P : Program} {s : St} (op : Op) (h : ∀ x ∈ op.operands, ev T x = ev T' x) : effS call P op T s = effS call P op T' s := by
  cases op <;> simp only [effS]
  case store t x y => rw [h x (by simp [Op.operands]), h y (by simp [Op.operands])]
  case range t x => rw [h x (by simp [Op.operands])]
  case next x b => cases b <;> simp only [] <;> rw [h x (by simp [Op.operands])]
  case mapUpdate t m k x => rw [h m (by simp [Op.operands]), h k (by simp [Op.operands]), h x (by simp [Op.operands])]
  case mapEntry t m k => rw [h m (by simp [Op.operands]), h k (by simp [Op.operands])]
  case entryStore t m p x => rw [h m (by simp [Op.operands]), h p (by simp [Op.operands]), h x (by simp [Op.operands])]
  case call c =>
    obtain ⟨cal, args, ts⟩ := c
    cases cal with
    | builtin b =>
      simp only []
      rw [evs_congr args.toList fun x hx => h x (by simp [Op.operands, Call.operands] at hx ⊢; exact hx)]
    | value f =>
      simp only []
      rw [h f (by simp [Op.operands, Call.operands]), evs_congr args.toList fun x hx => h x (by simp [Op.operands, Call.operands] at hx ⊢; exact .inr hx)]
    | invoke r m =>
      simp only []
      rw [h r (by simp [Op.operands, Call.operands]), evs_congr args.toList fun x hx => h x (by simp [Op.operands, Call.operands] at hx ⊢; exact .inr hx)]
theorem effL_congr {call : CallF} {P : Program} {s : St} (op : Op) (h : ∀ x ∈ op.operands, ev T x = ev T' x) : effL call P op T s = effL call P op T' s := by
  unfold effL
  rw [eff_congr op h]
theorem wants_congr {ops : Array Oper} (o : Oper) (h : ∀ t ∈ o.looksAt ops, T.get t = T'.get t) : wants ops T o = wants ops T' o := by
  unfold wants
  split
  · rfl
  · rename_i j want hg
    split
    · rfl
    · rename_i d hd
      rw [h d (by simp [Oper.looksAt, hg, hd])]
theorem ops_congr {ops : Array Oper} (o : Oper) (h : ∀ t ∈ o.looksAt ops, T.get t = T'.get t) : ∀ x ∈ o.op.operands, ev T x = ev T' x := fun x hx => by
  cases x with
  | tmp t => exact h t (by simp only [Oper.looksAt, List.mem_append, List.mem_filterMap]; exact .inl ⟨.tmp t, by simpa using hx, rfl⟩)
  | _ => rfl
/-- A frame of some slots alone. -/
def restr (T : Tr Value) : List Nat → Tr Value
  | [] => .leaf
  | t :: r => (restr T r).set 40 t (T.get t)
theorem restr_get (T : Tr Value) : ∀ (l : List Nat) (t : Nat), (restr T l).get t = if t ∈ l then T.get t else none
  | [], t => by simp [restr, Tr.get_leaf]
  | x :: r, t => by
    unfold restr
    rw [Tr.get_set, restr_get T r t]
    by_cases h : t = x
    · subst h; simp
    · simp [h]
end
section
variable {R : Tr Rec} {n0 : Nat} {c : Nat → Bool}
theorem rowsOf_out : ∀ (l : List Nat) (h : Tr AObj) (x : Nat), (∀ q ∈ l, x = n0 + q → c q = true → ∀ v ob, R.get q ≠ some (.alc v ob)) → (rowsOf R n0 c l h).get x = h.get x
  | [], _, _, _ => rfl
  | q :: l, h, x, hx => by
    have hl : ∀ y ∈ l, x = n0 + y → c y = true → ∀ v ob, R.get y ≠ some (.alc v ob) := fun y hy => hx y (List.mem_cons_of_mem _ hy)
    unfold rowsOf
    split
    · rename_i v ob hr
      split
      · rename_i hc
        rw [rowsOf_out l _ x hl, Tr.get_set, if_neg (fun e => hx q List.mem_cons_self e hc v ob hr)]
      · exact rowsOf_out l _ x hl
    · exact rowsOf_out l _ x hl
theorem rowsOf_in : ∀ (l : List Nat) (h : Tr AObj) (q : Nat) (v : Value) (ob : AObj), q ∈ l → c q = true → R.get q = some (.alc v ob) → (rowsOf R n0 c l h).get (n0 + q) = some ob
  | [], _, _, _, _, hq, _, _ => nomatch hq
  | y :: l, h, q, v, ob, hq, hc, hr => by
    by_cases hql : q ∈ l
    · unfold rowsOf
      split
      · split
        · exact rowsOf_in l _ q v ob hql hc hr
        · exact rowsOf_in l _ q v ob hql hc hr
      · exact rowsOf_in l _ q v ob hql hc hr
    · have hqy : q = y := by
        cases hq with
        | head => rfl
        | tail _ h => exact absurd h hql
      subst hqy
      unfold rowsOf
      rw [hr]
      simp only []
      rw [if_pos hc, rowsOf_out l _ _ (fun z hz he => absurd (by omega : q = z) (fun e => hql (e ▸ hz))), Tr.get_set, if_pos rfl]
theorem rowsOf_cases (l : List Nat) (h : Tr AObj) (x : Nat) : (∃ q v ob, q ∈ l ∧ x = n0 + q ∧ c q = true ∧ R.get q = some (.alc v ob) ∧ (rowsOf R n0 c l h).get x = some ob) ∨ ((∀ q ∈ l, x = n0 + q → c q = true → ∀ v ob, R.get q ≠ some (.alc v ob)) ∧ (rowsOf R n0 c l h).get x = h.get x) := by
  by_cases hx : ∃ q v ob, q ∈ l ∧ x = n0 + q ∧ c q = true ∧ R.get q = some (.alc v ob)
  · obtain ⟨q, v, ob, h1, rfl, h3, h4⟩ := hx
    exact .inl ⟨q, v, ob, h1, rfl, h3, h4, rowsOf_in l h q v ob h1 h3 h4⟩
  · have : ∀ q ∈ l, x = n0 + q → c q = true → ∀ v ob, R.get q ≠ some (.alc v ob) := fun q h1 h2 h3 v ob h4 => hx ⟨q, v, ob, h1, h2, h3, h4⟩
    exact .inr ⟨this, rowsOf_out l h x this⟩
end
section
variable {P : Program} {B : Ctx} {σ : Sg} {s t : St} {w : World}
theorem Inv.drop (hi : Inv P B σ s w) (h : ∀ x o, t.h.get x = some o → s.h.get x = some o) (hn : ∀ x, t.next ≤ x → σ x = none) : Inv P B σ t w :=
  ⟨hi.base, hi.own, hn, fun x o hx => hi.live x o (h x o hx), fun x y o o' b κ κ' h1 h2 => hi.inj x y o o' b κ κ' (h x o h1) (h y o' h2)⟩
theorem Foot.drop (h : ∀ x o, t.h.get x = some o → s.h.get x = some o) {b : Nat} (hf : Foot σ t b) : Foot σ s b := by
  obtain ⟨x, o, κ, h1, h2⟩ := hf
  exact ⟨x, o, κ, h x o h1, h2⟩
end
theorem countP_lt {α : Type} {p q : α → Bool} : ∀ (l : List α), (∀ x ∈ l, q x = true → p x = true) → (∃ x ∈ l, p x = true ∧ q x = false) → l.countP q + 1 ≤ l.countP p
  | [], _, h => by obtain ⟨x, hx, _⟩ := h; cases hx
  | y :: l, h, hx => by
    have le : l.countP q ≤ l.countP p := List.countP_mono_left fun x hx => h x (List.mem_cons_of_mem _ hx)
    rw [List.countP_cons, List.countP_cons]
    obtain ⟨x, hx, h1, h2⟩ := hx
    cases hx with
    | head =>
      rw [h1, h2]
      simp
      omega
    | tail _ hx =>
      have := countP_lt l (fun x hx => h x (List.mem_cons_of_mem _ hx)) ⟨x, hx, h1, h2⟩
      have hy := h y List.mem_cons_self
      cases hq : q y with
      | false => simp; omega
      | true => rw [hy hq]; simp; omega
end
end Go.Proofs.YtimlldedpbbeoaaGreat
