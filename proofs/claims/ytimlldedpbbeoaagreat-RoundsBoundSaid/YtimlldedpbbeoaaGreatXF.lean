/- The abstract run: an operation that only computes or reads, as one step. -/
import Derived.Test.YtimlldedpbbeoaaGreatXR
namespace Go.Proofs.YtimlldedpbbeoaaGreat
open Go.RowKit
noncomputable section

def evo (T : Tr Value) : Option Operand → Option (Option Value)
  | none => some none
  | some x => match ev T x with
    | some v => some (some v)
    | none => none
theorem evo_ok {ds : List Deferred} {σ : Sg} {N : Nat} {T : Tr Value} {a : Act} (h : TR ds σ N T a) {x : Option Operand} {v : Option Value} (he : evo T x = some v) : VRo σ v (x.map a.eval) := by
  cases x with
  | none => cases he; trivial
  | some x =>
    simp only [evo] at he
    split at he
    · rename_i u hu
      cases he
      exact ev_ok h hu
    · cases he
def evParts (T : Tr Value) : List (Nat × Operand) → Option (List (Nat × Value))
  | [] => some []
  | (i, x) :: r => match ev T x, evParts T r with
    | some v, some l => some ((i, v) :: l)
    | _, _ => none
theorem evParts_ok {ds : List Deferred} {σ : Sg} {N : Nat} {T : Tr Value} {a : Act} (h : TR ds σ N T a) : ∀ {l : List (Nat × Operand)} {ps : List (Nat × Value)}, evParts T l = some ps → partsR σ ps (l.map fun (i, x) => (i, a.eval x))
  | [], ps, e => by simp [evParts] at e; subst e; exact ⟨rfl, fun i x y hx => by simp at hx⟩
  | (i, x) :: r, ps, e => by
    unfold evParts at e
    split at e
    · rename_i v l h1 h2
      cases e
      obtain ⟨q1, q2⟩ := evParts_ok h h2
      refine ⟨by simp [q1], fun k u y hu hy => ?_⟩
      cases k with
      | zero => simp at hu hy; subst hu hy; exact ⟨rfl, ev_ok h h1⟩
      | succ k => exact q2 k u y (by simpa using hu) (by simpa using hy)
    · cases e
def foldI (mx : Bool) : Value → List Value → Option Value
  | v, [] => some v
  | .int k x, .int k' y :: r => if k = k' then foldI mx (.int k (if mx then (if y > x then y else x) else (if y < x then y else x))) r else none
  | _, _ :: _ => none
theorem foldI_ok {P : Program} {σ : Sg} {w : World} (mx : Bool) : ∀ (k : IntKind) (x : Int) (r r' : List Value) (u : Value), foldI mx (.int k x) r = some u → VRs σ r r' → (r'.foldlM (if mx then Builtin.max2 else Builtin.min2) (.int k x)).run P w = .ok u w ∧ VR σ u u
  | k, x, [], r', u, h, hr => by
    have : r' = [] := List.eq_nil_of_length_eq_zero hr.1.symm
    subst this
    cases h
    exact ⟨rfl, .int _ _⟩
  | k, x, v :: r, r', u, h, hr => by
    obtain ⟨v', r2, rfl, h1, h2⟩ := hr.uncons
    cases v <;> first | (simp [foldI] at h; done) | skip
    rename_i k' y
    cases h1
    unfold foldI at h
    split at h
    · have ih := foldI_ok (P := P) (w := w) mx k _ r r2 u h h2
      rw [List.foldlM_cons, Sem.run_bind]
      cases mx with
      | true => exact ih
      | false => exact ih
    · cases h
/-- The same of numbers of which the bounds alone are known. -/
def foldV (mx : Bool) : Int → Int → List Value → Option Value
  | a, b, [] => if 0 ≤ a + 9223372036854775808 then some (.complex .f64 (a + 9223372036854775808).toNat (b + 9223372036854775808).toNat) else none
  | a, b, v :: r => match ivlOf v with
    | some (c, d) => if mx then foldV mx (max a c) (max b d) r else foldV mx (min a c) (min b d) r
    | none => none
theorem foldV_ok {P : Program} {σ : Sg} {w : World} (mx : Bool) : ∀ (r r' : List Value) (a b n : Int) (u : Value), foldV mx a b r = some u → VRs σ r r' → a ≤ n → n ≤ b → ∃ u', (r'.foldlM (if mx then Builtin.max2 else Builtin.min2) (.int .i64 n)).run P w = .ok u' w ∧ VR σ u u'
  | [], r', a, b, n, u, h, hr, h1, h2 => by
    have : r' = [] := List.eq_nil_of_length_eq_zero hr.1.symm
    subst this
    unfold foldV at h
    split at h
    · cases h
      exact ⟨.int .i64 n, rfl, .ivl _ _ _ (by omega) (by omega)⟩
    · cases h
  | v :: r, r', a, b, n, u, h, hr, h1, h2 => by
    obtain ⟨v', r2, rfl, q1, q2⟩ := hr.uncons
    unfold foldV at h
    split at h
    · rename_i c d hv
      obtain ⟨m, rfl, m1, m2⟩ := ivlOf_ok hv q1
      cases mx with
      | true =>
        simp only [if_true] at h ⊢
        obtain ⟨u', p1, p2⟩ := foldV_ok (P := P) (w := w) true r r2 (max a c) (max b d) (if m > n then m else n) u h q2 (by split <;> omega) (by split <;> omega)
        refine ⟨u', ?_, p2⟩
        rw [List.foldlM_cons, Sem.run_bind]
        exact p1
      | false =>
        simp only [Bool.false_eq_true, if_false] at h ⊢
        obtain ⟨u', p1, p2⟩ := foldV_ok (P := P) (w := w) false r r2 (min a c) (min b d) (if m < n then m else n) u h q2 (by split <;> omega) (by split <;> omega)
        refine ⟨u', ?_, p2⟩
        rw [List.foldlM_cons, Sem.run_bind]
        exact p1
    · cases h
def foldW (mx : Bool) (l : List Value) : Option Value := match l with
  | v :: r => if (v :: r).any isIvl then match ivlOf v with
      | some (a, b) => foldV mx a b r
      | none => none
    else match v with
      | .int k a => foldI mx (.int k a) r
      | _ => none
  | [] => none
theorem foldW_ok {P : Program} {σ : Sg} {w : World} {ts : Array TypeId} {ty : TypeId} (mx : Bool) {l : List Value} {l' : Array Value} {u : Value} (h : foldW mx l = some u) (hl : VRs σ l l'.toList) : ∃ u', ((if mx then Builtin.max_ else Builtin.min_) ts ty l').run P w = .ok u' w ∧ VR σ u u' := by
  unfold foldW at h
  split at h
  · rename_i v r
    obtain ⟨v', r2, he, q1, q2⟩ := hl.uncons
    have key : (∃ u', (r2.foldlM (if mx then Builtin.max2 else Builtin.min2) v').run P w = .ok u' w ∧ VR σ u u') → ∃ u', ((if mx then Builtin.max_ else Builtin.min_) ts ty l').run P w = .ok u' w ∧ VR σ u u' := by
      rintro ⟨u', p1, p2⟩
      refine ⟨u', ?_, p2⟩
      cases mx with
      | true =>
        simp only [if_true] at p1 ⊢
        unfold Builtin.max_
        rw [he]
        exact p1
      | false =>
        simp only [Bool.false_eq_true, if_false] at p1 ⊢
        unfold Builtin.min_
        rw [he]
        exact p1
    split at h
    · split at h
      · rename_i a b hv
        obtain ⟨n, rfl, n1, n2⟩ := ivlOf_ok hv q1
        exact key (foldV_ok mx r r2 a b n u h q2 n1 n2)
      · cases h
    · split at h
      · cases q1
        exact key ⟨u, foldI_ok mx _ _ _ _ _ h q2⟩
      · cases h
  · cases h
def quietB (P : Program) (b : Builtin) (ts : Array TypeId) (h : Tr AObj) (l : List Value) : Option Value :=
  match b with
  | .len => match ts.toList, l with
    | t :: _, [x] => lenV P h t x
    | _, _ => none
  | .cap => match ts.toList, l with
    | t :: _, [x] => capV P h t x
    | _, _ => none
  | .min => foldW false l
  | .max => foldW true l
  | _ => none
theorem args1 {σ : Sg} {x : Value} {l : Array Value} (h : VRs σ [x] l.toList) : ∃ x', l = #[x'] ∧ VR σ x x' := by
  obtain ⟨x', c', he, hx, hc⟩ := h.uncons
  have : c' = [] := List.eq_nil_of_length_eq_zero hc.1.symm
  subst this
  exact ⟨x', Array.toList_inj.1 (by simpa using he), hx⟩
theorem args2 {σ : Sg} {x y : Value} {l : Array Value} (h : VRs σ [x, y] l.toList) : ∃ x' y', l = #[x', y'] ∧ VR σ x x' ∧ VR σ y y' := by
  obtain ⟨x', c', he, hx, hc⟩ := h.uncons
  obtain ⟨y', c'', he2, hy, hc2⟩ := hc.uncons
  have : c'' = [] := List.eq_nil_of_length_eq_zero hc2.1.symm
  subst this
  subst he2
  exact ⟨x', y', Array.toList_inj.1 (by simpa using he), hx, hy⟩
/-- A value asserted to be of a type that is no interface: just that type. -/
def assertV (P : Program) (asserted : TypeId) (ok : Bool) : Value → Option Value
  | .iface t v => match P.underlying asserted with
    | some (.interface _) => none
    | some _ => if t = asserted then some (if ok then .tuple #[v, .bool true] else v) else none
    | none => none
  | _ => none
theorem assertV_ok {P : Program} {σ : Sg} {w : World} {x a : TypeId} {ok : Bool} {v v' r : Value} (h : assertV P a ok v = some r) (hv : VR σ v v') : ∃ r', (Instr.typeAssert v' x a ok).run P w = .ok r' w ∧ VR σ r r' := by
  unfold assertV at h
  split at h
  · rename_i t u
    cases hv with
    | iface _ _ u' hu =>
    split at h
    · cases h
    · rename_i d hni hd
      split at h
      · rename_i he
        cases h
        subst he
        refine ⟨if ok then .tuple #[u', .bool true] else u', ?_, ?_⟩
        · cases d <;> first | exact absurd rfl (hni _) | (simp [Instr.typeAssert, run_underlying hd]; done)
        · cases ok
          · exact hu
          · refine .tuple _ _ rfl (fun i v v' h1 h2 => ?_)
            match i with
            | 0 => simp at h1 h2; subst h1; subst h2; exact hu
            | 1 => simp at h1 h2; subst h1; subst h2; exact .bool _
            | n + 2 => simp at h1
      · cases h
    · cases h
  · cases h
/-- One of two values, be it unknown which. -/
def joinV (u v : Value) : Option Value := if isBl u && isBl v then some ubV else match ivlOf u, ivlOf v with
  | some (a, b), some (c, d) => if 0 ≤ min a c + 9223372036854775808 then some (.complex .f64 (min a c + 9223372036854775808).toNat (max b d + 9223372036854775808).toNat) else none
  | _, _ => none
theorem joinV_ok {σ : Sg} {u v u' v' r : Value} (h : joinV u v = some r) (hu : VR σ u u') (hv : VR σ v v') : VR σ r u' ∧ VR σ r v' := by
  unfold joinV at h
  split at h
  · rename_i hb
    cases h
    rw [Bool.and_eq_true] at hb
    obtain ⟨a, rfl⟩ := isBl_ok hb.1 hu
    obtain ⟨b, rfl⟩ := isBl_ok hb.2 hv
    exact ⟨.ub _, .ub _⟩
  · split at h
    · rename_i a b c d h1 h2
      split at h
      · cases h
        obtain ⟨n, rfl, q1, q2⟩ := ivlOf_ok h1 hu
        obtain ⟨m, rfl, q3, q4⟩ := ivlOf_ok h2 hv
        exact ⟨.ivl _ _ _ (by omega) (by omega), .ivl _ _ _ (by omega) (by omega)⟩
      · cases h
    · cases h
/-- A computation's or a read's value. -/
def quiet (P : Program) (o : Op) (T : Tr Value) (h : Tr AObj) : Option Value :=
  match o with
  | .move x => ev T x
  | .assign x => ev T x
  | .pick c a b => match ev T c with
    | some (.bool true) => ev T a
    | some (.bool false) => ev T b
    | some (.func (.method _) _ _) => match ev T a, ev T b with
      | some u, some v => joinV u v
      | _, _ => none
    | _ => none
  | .build t ps => match evParts T ps.toList with
    | some l => buildV P t l
    | none => none
  | .load t x => match ev T x with
    | some v => loadV P h t v
    | none => none
  | .nilCheck x => match ev T x with
    | some v => nilV v
    | none => none
  | .entry x => match ev T x with
    | some v => entryV h v
    | none => none
  | .lookup t x i ok => match ev T x, ev T i with
    | some u, some v => lookV P h t u v ok
    | _, _ => none
  | .binOp op t x y _ => match ev T x, ev T y with
    | some u, some v => binW P h op t u v
    | _, _ => none
  | .unOp op _ x => match ev T x with
    | some v => unV op v
    | none => none
  | .convert a b x => match ev T x with
    | some v => convV P a b v
    | none => none
  | .makeFunc (.func g) f c => match evs T f.toList, evs T c.toList with
    | some l, some m => some (.func (.func g) l.toArray m.toArray)
    | _, _ => none
  | .slice t x lo hi mx => match ev T x, evo T lo, evo T hi, evo T mx with
    | some v, some l, some hx, some m => sliceV P (leastV P h v) t v l hx m
    | _, _, _, _ => none
  | .fieldAddr t x f => match ev T x with
    | some v => fieldV P t f v
    | none => none
  | .field t x f => match ev T x with
    | some v => fieldOf P t f v
    | none => none
  | .indexAddr t x i => match ev T x, ev T i with
    | some v, some j => indexAddrV P t v j
    | _, _ => none
  | .index t x i => match ev T x, ev T i with
    | some v, some j => indexV P t v j
    | _, _ => none
  | .extract x i => match ev T x with
    | some v => extractV i v
    | none => none
  | .makeInterface t x => match ev T x with
    | some v => if P.concrete t then some (.iface t v) else none
    | none => none
  | .typeAssert x _ a ok => match ev T x with
    | some v => assertV P a ok v
    | none => none
  | .call c => match c.callee with
    | .builtin b => match evs T c.args.toList with
      | some l => quietB P b c.argTypes h l
      | none => none
    | _ => none
  | _ => none
section
variable {P : Program} {B : Ctx} {σ : Sg} {s : St} {w : World}
theorem leastV_ok {P : Program} {B : Ctx} {σ : Sg} {s : St} {w : World} (hi : Inv P B σ s w) {v v' : Value} (hv : VR σ v v') : ∀ a n c a' n' c', v = .slice a n c → v' = .slice a' n' c' → grownMark ≤ c → c < anyMark → leastV P s.h v ≤ c' := by
  intro a n c a' n' c' h1 h2 hg ha
  subst h1
  cases hv with
  | nils => exact Nat.zero_le _
  | empty _ _ _ _ h => exact absurd h (by omega)
  | sl x o _ _ b κ c'' hx hc hn hl =>
    cases h2
    unfold leastV
    simp only []
    split
    · rename_i cs e hr
      obtain ⟨b', κ', h3, _, h4⟩ := hi.live x _ hr
      rw [hx] at h3
      cases h3
      obtain ⟨cur, _, h5, _, _, h6⟩ := h4
      simp only [] at h6
      unfold CapR at hc
      rw [if_neg (by omega), if_pos hg] at hc
      have : cs.length / P.cellsOf e ≤ κ := Nat.div_le_of_le_mul (by rw [Nat.mul_comm]; omega)
      omega
    · exact Nat.zero_le _
theorem quiet_ok {ds : List Deferred} (hi : Inv P B σ s w) {N : Nat} {T : Tr Value} {a : Act} (ht : TR ds σ N T a) {o : Oper} {r : Value} (h : quiet P o.op T s.h = some r) : ∃ r', (execOp a.eval o).run P w = .ok (.value r') w ∧ VR σ r r' := by
  have lift : ∀ {m : Sem Value} {r : Value}, (∃ r', m.run P w = .ok r' w ∧ VR σ r r') → ∃ r', (do pure (Next.value (← m)) : Sem Next).run P w = .ok (.value r') w ∧ VR σ r r' := by
    rintro m r ⟨r', h1, h2⟩
    exact ⟨r', by rw [Sem.run_bind, h1]; rfl, h2⟩
  have lift' : ∀ {m : Sem Value} {r r' : Value}, (m.run P w = .ok r' w ∧ VR σ r r') → ∃ r', (do pure (Next.value (← m)) : Sem Next).run P w = .ok (.value r') w ∧ VR σ r r' := fun q => lift ⟨_, q⟩
  unfold execOp
  generalize o.op = op at *
  cases op
  case makeFunc fn f c =>
    cases fn <;> simp only [quiet] at h <;> first | (cases h; done) | skip
    case func fn =>
    split at h
    · rename_i l m hl hm
      cases h
      have q1 := evs_ok ht hl
      have q2 := evs_ok ht hm
      refine lift ⟨.func (.func fn) (f.map a.eval) (c.map a.eval), rfl, .func _ _ _ _ _ (by have := q1.1; simpa using this) (by have := q2.1; simpa using this) (fun i v v' p q => ?_) (fun i v v' p q => ?_)⟩
      · exact q1.2 i v v' (by simpa using p) (by simpa using q)
      · exact q2.2 i v v' (by simpa using p) (by simpa using q)
    · cases h
  all_goals simp only [quiet] at h <;> first | (cases h; done) | skip
  case move x => exact ⟨_, rfl, ev_ok ht h⟩
  case assign x => exact ⟨_, rfl, ev_ok ht h⟩
  case pick c x y =>
    split at h
    · rename_i hc
      have q := ev_ok ht hc
      generalize hv : a.eval c = v at q
      cases q
      exact ⟨a.eval x, by simp [hv, asBool], ev_ok ht h⟩
    · rename_i hc
      have q := ev_ok ht hc
      generalize hv : a.eval c = v at q
      cases q
      exact ⟨a.eval y, by simp [hv, asBool], ev_ok ht h⟩
    · rename_i hc
      have q := ev_ok ht hc
      split at h
      · rename_i u v hu hv'
        obtain ⟨j1, j2⟩ := joinV_ok h (ev_ok ht hu) (ev_ok ht hv')
        generalize hv : a.eval c = v at q
        cases q with
        | ub b =>
          cases b with
          | true => exact ⟨a.eval x, by simp [hv, asBool], j1⟩
          | false => exact ⟨a.eval y, by simp [hv, asBool], j2⟩
      · cases h
    · cases h
  case build t ps =>
    split at h
    · rename_i l hl
      exact lift (buildV_ok h (by simpa using evParts_ok ht hl))
    · cases h
  case load t x =>
    split at h
    · exact lift (loadV_ok hi h (ev_ok ht ‹_›))
    · cases h
  case nilCheck x =>
    split at h
    · rename_i v hv
      have q := ev_ok ht hv
      dsimp only
      generalize a.eval x = u at q ⊢
      unfold nilV at h
      split at h
      · cases h
        cases q
        exact ⟨_, rfl, .ptr _ _ _ _ ‹_›⟩
      · cases h
        cases q
        exact ⟨_, rfl, .func _ _ _ _ _ ‹_› ‹_› ‹_› ‹_›⟩
      · cases h
        cases q
        exact ⟨_, rfl, .map _ _ _ ‹_›⟩
      · cases h
        have q' := q
        cases q
        · exact ⟨_, rfl, q'⟩
        · exact ⟨_, rfl, q'⟩
        · exact ⟨_, rfl, q'⟩
      · cases h
    · cases h
  case entry x =>
    split at h
    · exact lift (entryV_ok hi h (ev_ok ht ‹_›))
    · cases h
  case lookup t x i ok =>
    split at h
    · exact lift (lookV_ok hi h (ev_ok ht ‹_›) (ev_ok ht ‹_›))
    · cases h
  case binOp op t x y ty =>
    split at h
    · exact lift (binW_ok hi h (ev_ok ht ‹_›) (ev_ok ht ‹_›))
    · cases h
  case unOp op t x =>
    split at h
    · exact lift (unV_ok h (ev_ok ht ‹_›))
    · cases h
  case convert t u x =>
    split at h
    · exact lift' (convV_ok h (ev_ok ht ‹_›))
    · cases h
  case slice t x lo hi' mx =>
    split at h
    · exact lift (sliceV_ok h (leastV_ok hi (ev_ok ht ‹_›)) (ev_ok ht ‹_›) (evo_ok ht ‹_›) (evo_ok ht ‹_›) (evo_ok ht ‹_›))
    · cases h
  case fieldAddr t x f =>
    split at h
    · exact lift (fieldV_ok h (ev_ok ht ‹_›))
    · cases h
  case field t x f =>
    split at h
    · exact lift (fieldOf_ok h (ev_ok ht ‹_›))
    · cases h
  case indexAddr t x i =>
    split at h
    · exact lift (indexAddrV_ok h (ev_ok ht ‹_›) (ev_ok ht ‹_›))
    · cases h
  case index t x i =>
    split at h
    · exact lift (indexV_ok h (ev_ok ht ‹_›) (ev_ok ht ‹_›))
    · cases h
  case extract x i =>
    split at h
    · exact lift (extractV_ok h (ev_ok ht ‹_›))
    · cases h
  case makeInterface t x =>
    split at h
    · split at h
      · cases h
        exact lift ⟨_, run_makeInterface w t _ ‹_›, .iface _ _ _ (ev_ok ht ‹_›)⟩
      · cases h
    · cases h
  case typeAssert x xt a ok =>
    split at h
    · exact lift (assertV_ok h (ev_ok ht ‹_›))
    · cases h
  case call c =>
    obtain ⟨cal, args, ts⟩ := c
    simp only [] at h
    split at h
    · rename_i b
      split at h
      · rename_i l hl
        have q := evs_ok ht hl
        have q : VRs σ l (args.map a.eval).toList := by simpa using q
        have hrun : ∀ {m : Sem Value} {r r' : Value}, (builtin b ts o.type (args.map fun | .const _ => true | _ => false) (args.map a.eval) = (do pure (Next.value (← m)))) → m.run P w = .ok r' w ∧ VR σ r r' →
            ∃ r', (do let d ← resolve a.eval ⟨.builtin b, args, ts⟩ o.type; invoke d.target d.args : Sem Next).run P w = .ok (.value r') w ∧ VR σ r r' := by
          rintro m r r' he ⟨h1, h2⟩
          refine ⟨r', ?_, h2⟩
          have : (do let d ← resolve a.eval ⟨.builtin b, args, ts⟩ o.type; invoke d.target d.args : Sem Next) = builtin b ts o.type (args.map fun | .const _ => true | _ => false) (args.map a.eval) := rfl
          rw [this, he, Sem.run_bind, h1]
          rfl
        unfold quietB at h
        split at h
        · split at h
          · rename_i t tr x hts hl1
            obtain ⟨x', he, hx⟩ := args1 q
            have ht0 : ts[0]? = some t := by rw [← Array.getElem?_toList, hts]; rfl
            rw [he] at hrun
            obtain ⟨r', q1, q2⟩ := lenV_ok (ty := o.type) hi h hx ht0
            exact hrun (m := Builtin.len_ ts o.type #[x']) rfl ⟨q1, q2⟩
          · cases h
        · split at h
          · rename_i t tr x hts hl1
            obtain ⟨x', he, hx⟩ := args1 q
            have ht0 : ts[0]? = some t := by rw [← Array.getElem?_toList, hts]; rfl
            rw [he] at hrun
            exact hrun rfl (capV_ok hi h hx ht0)
          · cases h
        · obtain ⟨u', q1, q2⟩ := foldW_ok (P := P) (w := w) (ts := ts) (ty := o.type) false h q
          exact hrun (m := Builtin.min_ ts o.type (args.map a.eval)) rfl ⟨by simpa using q1, q2⟩
        · obtain ⟨u', q1, q2⟩ := foldW_ok (P := P) (w := w) (ts := ts) (ty := o.type) true h q
          exact hrun (m := Builtin.max_ ts o.type (args.map a.eval)) rfl ⟨by simpa using q1, q2⟩
        · cases h
      · cases h
    · cases h
end
end
end Go.Proofs.YtimlldedpbbeoaaGreat
