/- The abstract run: code, and functions. -/
import Derived.Test.YtimlldedpbbeoaaGreatXJ
import Derived.LoopNIn
import Derived.Scope
namespace Go.Proofs.YtimlldedpbbeoaaGreat
open Go.RowKit
noncomputable section

abbrev DrawF := CallF → Nat → Array Oper → Tr Value → St → Option (List (Tr Value × St))
def Ex.to : Ex → Exit
  | .normal => .normal
  | .exit id => .exit id
  | .ret => .ret
def DrawOK (P : Program) (draw : DrawF) : Prop := ∀ (B : Ctx) (call : CallF), CallOK P B call → ∀ (N : Nat) (id : Nat) (ops : Array Oper) (T : Tr Value) (s : St) (L : List (Tr Value × St)), draw call N ops T s = some L →
  ∀ (ρ : Option Nat) (ds : List Deferred) (σ : Sg) (w : World) (a : Act) (Q : Exit → Act → World → Prop), Inv P B σ s w → TR ds σ N T a → (∀ x ∈ L, ∀ a' w', Left P B ds σ s w N x.1 x.2 a' w' → Q .normal a' w') → (Code.region id ops true).wpIn (FR ρ) 0 P Q a w
def roundOK (rd : Option Nat) (h : Tr AObj) : Bool := match rd with
  | none => true
  | some x => match h.get x with
    | some (.loop ..) => true
    | _ => false
/-- What stands behind a loop over a function. -/
def popS (x : Nat) (T : Tr Value) (s2 : St) : Option (Ex × Tr Value × St) :=
  match s2.h.get x with
  | some (.loop st pend _ _ _) => if st = 1 then none else some (pend, T, ⟨s2.next, s2.h.set 40 x none⟩)
  | _ => none
def leave (id : Nat) (r : Ex × Tr Value × St) : Ex × Tr Value × St := match r.1 with
  | .exit id' => if id' = id then (.normal, r.2.1, r.2.2) else r
  | _ => r
def codeS (rf : Bool) (draw : DrawF) (call : CallF) (P : Program) (N : Nat) (rd : Option Nat) (fu : Nat) : Nat → List Nat → Code → Tr Value → St → Option (List (Ex × Tr Value × St))
  | 0, _, _, _, _ => none
  | k + 1, rp, c, T, s =>
    match c with
    | .skip => some [(.normal, T, s)]
    | .region _ ops false => match seqS call P N ops ops.toList T s with
      | some l => some (l.map fun x => (.normal, x.1, x.2))
      | none => none
    | .region _ ops true => match draw call N ops T s with
      | some l => some (l.map fun x => (.normal, x.1, x.2))
      | none => none
    | .seq x y => match codeS rf draw call P N rd fu k (0 :: rp) x T s with
      | some l => bindL (fun r => match r.1 with
        | .normal => codeS rf draw call P N rd fu k (1 :: rp) y r.2.1 r.2.2
        | _ => some [r]) l
      | none => none
    | .cond c x y => match ev T c with
      | some (.bool true) => codeS rf draw call P N rd fu k (0 :: rp) x T s
      | some (.bool false) => codeS rf draw call P N rd fu k (1 :: rp) y T s
      | some (.func (.method _) _ _) => match c with
        | .tmp t => match codeS rf draw call P N rd fu k (0 :: rp) x (T.set 40 t (some (.bool true))) s, codeS rf draw call P N rd fu k (1 :: rp) y (T.set 40 t (some (.bool false))) s with
          | some l, some m => some (l ++ m)
          | _, _ => none
        | _ => none
      | _ => none
    | .block id x => match codeS rf draw call P N rd fu k (0 :: rp) x T s with
      | some l => some (l.map (leave id))
      | none => none
    | .loop x => match codeS rf draw call P N rd fu k (0 :: rp) x T s with
      | some l => bindL (fun r => match r.1 with
        | .normal => codeS rf draw call P N rd fu k rp (.loop x) r.2.1 r.2.2
        | _ => some [r]) l
      | none => none
    | .scope x => codeS rf draw call P N rd fu k (0 :: rp) x T s
    | .label _ => some [(.normal, T, s)]
    | .exit id => some [(.exit id, T, s)]
    | .ret => some [(.ret, T, s)]
    | .rangeFunc g _ _ _ => match ev T g with
      | some (.func (.func f) first captured) => if rf && (enters P f && roundOK rd s.h) then
          match call (.func f) (first.toList ++ [.func (.yield s.next) #[] #[]] ++ captured.toList) ⟨s.next + 1, s.h.set 40 s.next (some (.loop 0 .normal T fu rp))⟩ with
          | some L => bindL (fun x => ones (popS s.next T x.2)) L
          | none => none
        else none
      | _ => none
    | _ => none
/-- Where the code stands that is run. -/
def PosOK (P : Program) (f N : Nat) (rp : List Nat) (c : Code) : Prop := ∃ fn root, P.funcs[f]? = some fn ∧ fn.body = some root ∧ fn.ntmps = N ∧ codeAt root rp = some c
theorem PosOK.kid {P : Program} {f N : Nat} {rp : List Nat} {c d : Code} (h : PosOK P f N rp c) (i : Nat) (hk : kid c i = some d) : PosOK P f N (i :: rp) d := by
  obtain ⟨fn, root, h1, h2, h3, h4⟩ := h
  exact ⟨fn, root, h1, h2, h3, by unfold codeAt; rw [h4]; exact hk⟩
theorem PosOK.loop {P : Program} {f N : Nat} {rp : List Nat} {g : Operand} {ps : Array Tmp} {assign body : Code} (h : PosOK P f N rp (.rangeFunc g ps assign body)) : loopAt P f rp = some (N, ps.toList, assign, body) := by
  obtain ⟨fn, root, h1, h2, h3, h4⟩ := h
  unfold loopAt
  rw [h1]
  simp only [h2, h4, h3]
theorem loopAt_pos {P : Program} {f : Nat} {rp : List Nat} {N : Nat} {ps : List Nat} {assign body : Code} (h : loopAt P f rp = some (N, ps, assign, body)) : PosOK P f N (0 :: rp) assign ∧ PosOK P f N (1 :: rp) body := by
  unfold loopAt at h
  split at h
  · rename_i fn h1
    split at h
    · rename_i root h2
      split at h
      · rename_i g ps' a b h3
        cases h
        have h : PosOK P f fn.ntmps rp (.rangeFunc g ps' assign body) := ⟨fn, root, h1, h2, rfl, h3⟩
        exact ⟨h.kid 0 rfl, h.kid 1 rfl⟩
      · cases h
    · cases h
  · cases h
section
variable {P : Program} {B : Ctx} {σ τ : Sg} {s : St} {w : World}
/-- The marks that outermost loops over functions leave among the deferred calls. -/
def mk1 (r : Nat) : Deferred := { target := .collected r, args := #[] }
def Marks (lo : Nat) (σ : Sg) (s : St) (w : World) (ds : List Deferred) : Prop := ∃ rs : List Nat, ds = rs.map mk1 ∧ rs.Nodup ∧ ∀ r ∈ rs, w.heap[r]? = some (.deferred (some [])) ∧ lo ≤ r ∧ ¬ Foot σ s r
theorem Marks.nil {lo : Nat} : Marks lo σ s w [] := ⟨[], rfl, List.nodup_nil, fun _ h => nomatch h⟩
theorem Marks.step {lo : Nat} {ds : List Deferred} (h : Marks lo σ s w ds) {s' : St} {w' : World} (k : Stp P B σ s w τ s' w') : Marks lo τ s' w' ds := by
  obtain ⟨rs, h1, h2, h3⟩ := h
  refine ⟨rs, h1, h2, fun r hr => ?_⟩
  obtain ⟨q1, q2, q3⟩ := h3 r hr
  have hlt := lt_of_block q1
  exact ⟨(k.fr.block r hlt q3).trans q1, q2, fun hf => q3 (k.sub r hlt hf)⟩
/-- What a piece of code leaves, its marks too. -/
def LeftC (P : Program) (B : Ctx) (rf : Bool) (ds0 : List Deferred) (lo : Nat) (σ : Sg) (s : St) (w : World) (N : Nat) (T' : Tr Value) (s' : St) (a' : Act) (w' : World) : Prop := ∃ τ ds, TR ds τ N T' a' ∧ Marks lo τ s' w' ds ∧ Stp P B σ s w τ s' w' ∧ (rf = false → ds = ds0)
/-- In which round the frame is. -/
def RD (σ : Sg) : Option Nat → Option Nat → Prop
  | none, ρ => ρ = none
  | some x, ρ => ∃ b κ, ρ = some b ∧ σ x = some (b, κ)
theorem RD.mono (h : σ.le τ) {rd ρ : Option Nat} (q : RD σ rd ρ) : RD τ rd ρ := by
  cases rd with
  | none => exact q
  | some x => obtain ⟨b, κ, q1, q2⟩ := q; exact ⟨b, κ, q1, h.1 _ _ q2⟩
theorem wpIn_scope {F : Fence} {n : Nat} {Q : Exit → Act → World → Prop} {a : Act} {c : Code} (h : c.wpIn F n P (Exit.noGoto Q) a w) : (Code.scope c).wpIn F n P Q a w := by
  intro b k cs hro hb hr
  have h0 : (lone (b.atR a (.code (.scope c) :: k)) cs w).fenced P F := fenced_calm hb hr rfl
  have s1 : step P (lone (b.atR a (.code (.scope c) :: k)) cs w) = .next (lone (b.atR a (.code c :: .inScope c :: k)) cs w) := step_lone_go (by simp [stepG, stepG.exec, Frame.atR])
  have s2 : ∀ (a : Act) (w : World), step P (lone (b.atR a (.inScope c :: k)) cs w) = .next (lone (b.atR a k) cs w) := fun a w => step_lone_go (by simp [stepG, stepG.exec, Frame.atR])
  obtain ⟨e, a₁, w₁, hq, harr⟩ := h b (.inScope c :: k) cs hro hb hr
  cases e with
  | normal => exact ⟨.normal, a₁, w₁, hq, .head h0 s1 (StepsIn.trans harr (.one (fenced_calm (fr := b.atR a₁ (.inScope c :: k)) hb hr rfl) (s2 _ _)))⟩
  | exit id => exact ⟨.exit id, a₁, w₁, hq, fun k' hk => .head h0 s1 (harr.1 k' (by simp [exitTo, hk])), fun hr hk => by
      obtain ⟨k₁, q1, q2⟩ := harr.2 hr (by simp [exitTo, hk])
      exact ⟨k₁, q1, .head h0 s1 q2⟩⟩
  | goto l => exact hq.elim
  | ret => exact ⟨_, a₁, w₁, hq, .of_steps (.one h0 s1) harr⟩
  | panic ch => exact ⟨_, a₁, w₁, hq, .of_steps (.one h0 s1) harr⟩
  | outgrown => exact ⟨_, a₁, w₁, hq, .of_steps (.one h0 s1) harr⟩
theorem range_ok {call : CallF} (hcall : CallOK P B call) {rd ρ : Option Nat} {N : Nat} {lo : Nat} {ds : List Deferred} {f : Nat} {first captured : Array Value} {g : Operand} {ps : Array Tmp} {assign body : Code} {T : Tr Value} {a : Act} {Q : Exit → Act → World → Prop}
    (hi : Inv P B σ s w) (ht : TR ds σ N T a) (hm : Marks lo σ s w ds) (hlo : lo ≤ w.heap.size) (hrd : RD σ rd ρ) (hg : ev T g = some (.func (.func f) first captured)) (hen : (enters P f && roundOK rd s.h) = true) {fu : Nat} {rp : List Nat} (hpos : PosOK P fu N rp (.rangeFunc g ps assign body)) {L0 : List (Value × St)}
    (hc : call (.func f) (first.toList ++ [.func (.yield s.next) #[] #[]] ++ captured.toList) ⟨s.next + 1, s.h.set 40 s.next (some (.loop 0 .normal T fu rp))⟩ = some L0) {L : List (Ex × Tr Value × St)} (hL : bindL (fun x => ones (popS s.next T x.2)) L0 = some L)
    (hQ : ∀ r ∈ L, ∀ a' w', LeftC P B true ds lo σ s w N r.2.1 r.2.2 a' w' → Q r.1.to a' w') : (Code.rangeFunc g ps assign body).wpIn (FR ρ) 0 P Q a w := by
  simp only [Bool.and_eq_true] at hen
  obtain ⟨hen1, hen2⟩ := hen
  have qf := ev_ok ht hg
  generalize hv : a.eval g = vf at qf
  cases qf with
  | func _ _ first' _ captured' e1 e2 e3 e4 =>
  refine wpIn_rangeFunc fun fn _ => ?_
  -- the record, and where it lies
  have enter : ∃ (mark : List Deferred) (w0 : World) (df : Nat), (Instr.enterLoop fn a.tmps ps assign body (FR ρ).round).run P w = .ok (w0.heap.size, mark) (w0.alloc (.loop { state := .ready, pending := none, fn, tmps := a.tmps, params := ps, assign, body, defers := df })) ∧
      Below w.heap.size w w0 ∧ Marks lo σ s w0 (mark ++ ds) := by
    cases rd with
    | none =>
      obtain rfl : ρ = none := hrd
      have hb0 : Below w.heap.size w (w.alloc (.deferred (some []))) := (Below.refl _ w).alloc (Nat.le_refl _) _
      refine ⟨[mk1 w.heap.size], w.alloc (.deferred (some [])), w.heap.size, ?_, hb0, ?_⟩
      · simp only [Instr.enterLoop, FR, newObj, Sem.run_bind]
        rfl
      · obtain ⟨rs, q1, q2, q3⟩ := hm.step (stp_below hi hb0)
        refine ⟨w.heap.size :: rs, by rw [q1]; rfl, ?_, fun r hr => ?_⟩
        · refine List.nodup_cons.2 ⟨fun hmem => ?_, q2⟩
          obtain ⟨rs0, p1, _, p3⟩ := hm
          have : rs = rs0 := by
            have h := q1.symm.trans p1
            exact (List.map_inj_right (fun x y h => by simpa [mk1] using h)).1 h
          subst this
          have := lt_of_block (p3 _ hmem).1
          omega
        · cases hr with
          | head => exact ⟨alloc_new _ _, hlo, fun hf => by
              obtain ⟨x, o, κ, f1, f2⟩ := hf
              have := hi.lt f1 f2
              omega⟩
          | tail _ hr => exact q3 r hr
    | some x =>
      obtain ⟨b, κ, rfl, hx⟩ := hrd
      have hl : ∃ L, w.heap[b]? = some (.loop L) := by
        unfold roundOK at hen2
        simp only [] at hen2
        split at hen2
        · rename_i hgx
          obtain ⟨b1, κ1, q1, _, L, _, _, _, _, q2, _⟩ := hi.live x _ hgx
          rw [hx] at q1; cases q1
          exact ⟨L, q2⟩
        · cases hen2
      obtain ⟨L, hL⟩ := hl
      refine ⟨[], w, L.defers, ?_, Below.refl _ _, by simpa using hm⟩
      have hgl : (Instr.getLoop b).run P w = .ok L w := by simp [Instr.getLoop, getObj, Sem.run, hL]
      simp only [Instr.enterLoop, FR, newObj, Sem.run_bind, hgl, Result.andThen_ok]
      rfl
  obtain ⟨mark, w0, df, hent, hbw0, hmk0⟩ := enter
  have st0 := stp_below hi hbw0
  have hstp := stp_add (w := w0) st0.inv (ob := .loop 0 .normal T fu rp) (obj := .loop { state := .ready, pending := none, fn, tmps := a.tmps, params := ps, assign, body, defers := df }) (κ := 0)
    ⟨_, N, ps.toList, assign, body, rfl, hpos.loop, rfl, rfl, rfl, rfl, rfl, ht.size, fun t u hu => by
      obtain ⟨u', q1, q2⟩ := ht.at_ t u hu
      exact ⟨u', q1, q2.mono (Sg.le_put (hi.dom _ (Nat.le_refl _)))⟩⟩
  have st1 := st0.trans hstp
  have hle1 := st1.le hi
  refine ⟨w0.heap.size, mark, _, { target := .fn (.func f) captured', args := first' ++ #[.func (.yield w0.heap.size) #[] #[]] }, _, f, (first' ++ #[.func (.yield w0.heap.size) #[] #[]]) ++ captured', _, hent, ?_, fun _ _ => trivial, (show (callFunc f _).run P _ = _ from callFunc_run hen1 _), fun h => (nomatch h), calls_FR ((hcall.func _ _ _ _ hc _ _ _ st1.inv ?_).mono ?_)⟩
  · have hc0 : a.eval (.const (.func (.yield w0.heap.size) #[] #[])) = .func (.yield w0.heap.size) #[] #[] := rfl
    simp [resolve, hv, Deferred.ofValue, hc0]
  · simp only [Array.toList_append]
    refine (((vrs_arr.2 ⟨e1, e3⟩).mono hle1).append (VRs.cons (.yield _ _ 0 (Sg.put_same ..)) (VRs.nil _))).append ((vrs_arr.2 ⟨e2, e4⟩).mono hle1)
  · rintro e w3 ⟨⟨v, s2⟩, hmem, v', υ, rfl, _, st2⟩
    obtain ⟨m, hm1, hm2⟩ := bindL_mem hL _ hmem
    obtain ⟨r, hr1, rfl⟩ := ones_some hm1
    have hQr := hQ r (hm2 _ (List.mem_singleton.2 rfl))
    simp only [popS] at hr1
    split at hr1
    · rename_i st pend T1 f1 r1 h2
      split at hr1
      · cases hr1
      · rename_i hst
        cases hr1
        have st3 := st1.trans st2
        have hx3 : υ s.next = some (w0.heap.size, 0) := by
          rw [st2.old s.next (Nat.lt_succ_self _)]
          exact Sg.put_same ..
        obtain ⟨b2, κ2, p1, p2, L, N1, ps1, as1, bd1, p3, p0, p4, p5, p6⟩ := st2.inv.live s.next _ h2
        rw [hx3] at p1; cases p1
        have st4 := setobj_stp st2.inv (new := none) (o' := .loop { L with state := .exhausted }) h2 hx3 (fun a h => nomatch h)
        have hnb : ¬ (L.state == LoopState.busy) = true := by
          rw [p4]
          unfold stOf
          split <;> first | (simp; done) | (exact absurd rfl hst)
        refine ⟨pend.pend, { w3 with heap := w3.heap.setIfInBounds w0.heap.size (.loop { L with state := .exhausted }) }, ?_, ?_⟩
        · have hgl : (Instr.getLoop w0.heap.size).run P w3 = .ok L w3 := by simp [Instr.getLoop, getObj, Sem.run, p3]
          have hso : (setObj w0.heap.size (.loop { L with state := .exhausted })).run P w3 = .ok () { w3 with heap := w3.heap.setIfInBounds w0.heap.size (.loop { L with state := .exhausted }) } := by simp [setObj, Sem.run, p3]
          simp only [Instr.endLoop, Sem.run_bind, hgl, Result.andThen_ok]
          rw [if_neg hnb]
          simp only [hso, Sem.run_bind, Result.andThen_ok, Sem.run_pure]
          rw [p5]
        · have hleft : LeftC P B true ds lo σ s w N T ⟨s2.next, s2.h.set 40 s.next none⟩ { a with defers := mark ++ a.defers } { w3 with heap := w3.heap.setIfInBounds w0.heap.size (.loop { L with state := .exhausted }) } := by
            have stt := st3.trans st4
            refine ⟨υ, mark ++ ds, ⟨ht.size, by simp [ht.defers], fun t u hu => ?_⟩, (hmk0.step (hstp.trans (st2.trans st4))), stt, fun h => (nomatch h)⟩
            obtain ⟨u', q1, q2⟩ := ht.at_ t u hu
            exact ⟨u', q1, q2.mono (stt.le hi)⟩
          have := hQr _ _ hleft
          cases pend with
          | normal => exact this
          | ret => exact wpIn_ret this
          | exit id => exact wpIn_exit this
    · cases hr1
theorem code_ok {rf : Bool} {draw : DrawF} (hdraw : DrawOK P draw) {call : CallF} (hcall : CallOK P B call) {rd ρ : Option Nat} {lo : Nat} {N fu : Nat} : ∀ (k : Nat),
    (∀ (rp : List Nat) (c : Code) {σ : Sg} {ds : List Deferred} {s : St} {w : World} {T : Tr Value} {a : Act} {L : List (Ex × Tr Value × St)} {Q : Exit → Act → World → Prop}, codeS rf draw call P N rd fu k rp c T s = some L → (rf = true → PosOK P fu N rp c) → Inv P B σ s w → TR ds σ N T a → Marks lo σ s w ds → lo ≤ w.heap.size → RD σ rd ρ →
      (∀ r ∈ L, ∀ a' w', LeftC P B rf ds lo σ s w N r.2.1 r.2.2 a' w' → Q r.1.to a' w') → c.wpIn (FR ρ) 0 P Q a w) ∧
    (∀ (rp : List Nat) (c : Code) {σ : Sg} {ds : List Deferred} {s : St} {w : World} {T : Tr Value} {a : Act} {L : List (Ex × Tr Value × St)} {Q : Exit → Act → World → Prop}, codeS rf draw call P N rd fu k rp (.loop c) T s = some L → (rf = true → PosOK P fu N rp (.loop c)) → Inv P B σ s w → TR ds σ N T a → Marks lo σ s w ds → lo ≤ w.heap.size → RD σ rd ρ →
      (∀ r ∈ L, ∀ a' w', LeftC P B rf ds lo σ s w N r.2.1 r.2.2 a' w' → Q r.1.to a' w') → Code.roundsIn (FR ρ) 0 P c Q k a w)
  | 0 => ⟨fun _ c => fun h => (nomatch h), fun _ c => fun h => (nomatch h)⟩
  | k + 1 => by
    have ih := code_ok (rf := rf) hdraw hcall (rd := rd) (ρ := ρ) (lo := lo) (N := N) (fu := fu) k
    -- one piece behind another
    have chain : ∀ {σ : Sg} {ds0 : List Deferred} {s : St} {w : World} {T1 : Tr Value} {s1 : St} {a1 : Act} {w1 : World} {L : List (Ex × Tr Value × St)} {Q : Exit → Act → World → Prop}, Inv P B σ s w → lo ≤ w.heap.size → RD σ rd ρ → LeftC P B rf ds0 lo σ s w N T1 s1 a1 w1 → (∀ r ∈ L, ∀ a' w', LeftC P B rf ds0 lo σ s w N r.2.1 r.2.2 a' w' → Q r.1.to a' w') →
        ∃ (τ : Sg) (ds : List Deferred), Inv P B τ s1 w1 ∧ TR ds τ N T1 a1 ∧ Marks lo τ s1 w1 ds ∧ lo ≤ w1.heap.size ∧ RD τ rd ρ ∧ (∀ r ∈ L, ∀ a' w', LeftC P B rf ds lo τ s1 w1 N r.2.1 r.2.2 a' w' → Q r.1.to a' w') := by
      rintro σ ds0 s w T1 s1 a1 w1 L Q hi hlo hrd ⟨τ, ds, q1, q2, q3, q4⟩ hQ
      refine ⟨τ, ds, q3.inv, q1, q2, Nat.le_trans hlo q3.fr.size, hrd.mono (q3.le hi), fun r hr a' w' hl => ?_⟩
      obtain ⟨υ, ds', r1, r2, r3, r4⟩ := hl
      exact hQ r hr a' w' ⟨υ, ds', r1, r2, q3.trans r3, fun h => (r4 h).trans (q4 h)⟩
    have loop : ∀ (rp : List Nat) (c : Code) {σ : Sg} {ds : List Deferred} {s : St} {w : World} {T : Tr Value} {a : Act} {L : List (Ex × Tr Value × St)} {Q : Exit → Act → World → Prop}, codeS rf draw call P N rd fu (k + 1) rp (.loop c) T s = some L → (rf = true → PosOK P fu N rp (.loop c)) → Inv P B σ s w → TR ds σ N T a → Marks lo σ s w ds → lo ≤ w.heap.size → RD σ rd ρ →
        (∀ r ∈ L, ∀ a' w', LeftC P B rf ds lo σ s w N r.2.1 r.2.2 a' w' → Q r.1.to a' w') → Code.roundsIn (FR ρ) 0 P c Q (k + 1) a w := by
      intro rp c σ ds s w T a L Q h hp hi ht hm hlo hrd hQ
      rw [roundsIn_succ]
      simp only [codeS] at h
      split at h
      · rename_i l1 h1
        refine ih.1 _ c h1 (fun e => (hp e).kid 0 rfl) hi ht hm hlo hrd fun r hr a1 w1 hl => ?_
        obtain ⟨m, hm1, hm2⟩ := bindL_mem h r hr
        obtain ⟨ex, T1, s1⟩ := r
        cases ex with
        | normal =>
          obtain ⟨τ, ds1, q1, q2, q3, q4, q5, q6⟩ := chain hi hlo hrd hl (fun x hx => hQ x (hm2 x hx))
          exact ih.2 rp c hm1 hp q1 q2 q3 q4 q5 q6
        | exit id => cases hm1; exact hQ _ (hm2 _ (List.mem_singleton.2 rfl)) a1 w1 hl
        | ret => cases hm1; exact hQ _ (hm2 _ (List.mem_singleton.2 rfl)) a1 w1 hl
      · cases h
    refine ⟨?_, loop⟩
    intro rp c σ ds s w T a L Q h hp hi ht hm hlo hrd hQ
    have toC : ∀ {T' : Tr Value} {s' : St} {a' : Act} {w' : World}, Left P B ds σ s w N T' s' a' w' → LeftC P B rf ds lo σ s w N T' s' a' w' := by
      rintro T' s' a' w' ⟨τ, q1, q2⟩
      exact ⟨τ, ds, q1, hm.step q2, q2, fun _ => rfl⟩
    have same : LeftC P B rf ds lo σ s w N T s a w := ⟨σ, ds, ht, hm, Stp.refl hi, fun _ => rfl⟩
    have only : ∀ {ex : Ex} {T' : Tr Value} {s' : St}, L = [(ex, T', s')] → ∀ a' w', LeftC P B rf ds lo σ s w N T' s' a' w' → Q ex.to a' w' := fun e => by subst e; exact hQ _ (List.mem_singleton.2 rfl)
    cases c with
    | skip => cases h; exact wpIn_skip (only rfl _ _ same)
    | region id ops draw =>
      cases draw with
      | false =>
        simp only [codeS] at h
        split at h
        · rename_i l1 h1
          cases h
          exact wpIn_region_list (seq_ok hcall _ hi ht h1 fun x hx a' w' hl => hQ (.normal, x.1, x.2) (List.mem_map.2 ⟨x, hx, rfl⟩) a' w' (toC hl))
        · cases h
      | true =>
        simp only [codeS] at h
        split at h
        · rename_i l1 h1
          cases h
          exact hdraw B call hcall N id ops T s _ h1 ρ ds σ w a Q hi ht fun x hx a' w' hl => hQ (.normal, x.1, x.2) (List.mem_map.2 ⟨x, hx, rfl⟩) a' w' (toC hl)
        · cases h
    | seq x y =>
      refine wpIn_seq ?_
      simp only [codeS] at h
      split at h
      · rename_i l1 h1
        refine ih.1 _ x h1 (fun e => (hp e).kid 0 rfl) hi ht hm hlo hrd fun r hr a1 w1 hl => ?_
        obtain ⟨m, hm1, hm2⟩ := bindL_mem h r hr
        obtain ⟨ex, T1, s1⟩ := r
        cases ex with
        | normal =>
          obtain ⟨τ, ds1, q1, q2, q3, q4, q5, q6⟩ := chain hi hlo hrd hl (fun x hx => hQ x (hm2 x hx))
          exact ih.1 _ y hm1 (fun e => (hp e).kid 1 rfl) q1 q2 q3 q4 q5 q6
        | exit id => cases hm1; exact hQ _ (hm2 _ (List.mem_singleton.2 rfl)) a1 w1 hl
        | ret => cases hm1; exact hQ _ (hm2 _ (List.mem_singleton.2 rfl)) a1 w1 hl
      · cases h
    | cond c x y =>
      simp only [codeS] at h
      split at h
      · rename_i hc
        have q := ev_ok ht hc
        have hv : a.eval c = .bool true := by
          generalize a.eval c = v at q ⊢
          cases q; rfl
        exact wpIn_cond_true hv (ih.1 _ x h (fun e => (hp e).kid 0 rfl) hi ht hm hlo hrd hQ)
      · rename_i hc
        have q := ev_ok ht hc
        have hv : a.eval c = .bool false := by
          generalize a.eval c = v at q ⊢
          cases q; rfl
        exact wpIn_cond_false hv (ih.1 _ y h (fun e => (hp e).kid 1 rfl) hi ht hm hlo hrd hQ)
      · rename_i hc
        split at h
        · rename_i t
          split at h
          · rename_i l1 m1 h1 h2
            cases h
            obtain ⟨v', hv1, hv2⟩ := ht.at_ t _ hc
            cases hv2 with
            | ub b =>
              have hv : a.eval (.tmp t) = .bool b := by simp [Act.eval, Array.getD_eq_getD_getElem?, hv1]
              have ht' : TR ds σ N (T.set 40 t (some (.bool b))) a := ⟨ht.size, ht.defers, fun j u hj => by
                rw [Tr.get_set] at hj
                split at hj
                · rename_i he
                  subst he
                  cases hj
                  exact ⟨_, hv1, .bool b⟩
                · exact ht.at_ j u hj⟩
              cases b with
              | true => exact wpIn_cond_true hv (ih.1 _ x h1 (fun e => (hp e).kid 0 rfl) hi ht' hm hlo hrd fun r hr => hQ r (List.mem_append_left _ hr))
              | false => exact wpIn_cond_false hv (ih.1 _ y h2 (fun e => (hp e).kid 1 rfl) hi ht' hm hlo hrd fun r hr => hQ r (List.mem_append_right _ hr))
          · cases h
        · cases h
      · cases h
    | block id x =>
      refine wpIn_block ?_
      simp only [codeS] at h
      split at h
      · rename_i l1 h1
        cases h
        refine ih.1 _ x h1 (fun e => (hp e).kid 0 rfl) hi ht hm hlo hrd fun r hr a1 w1 hl => ?_
        have := hQ (leave id r) (List.mem_map.2 ⟨r, hr, rfl⟩) a1 w1
        obtain ⟨ex, T1, s1⟩ := r
        cases ex with
        | normal => exact this hl
        | ret => exact this hl
        | exit id' =>
          unfold leave at this
          by_cases he : id' = id
          · simp only [he, if_true] at this
            simp only [Ex.to, Exit.inBlock, he, if_true]
            exact this hl
          · simp only [he, if_false] at this
            simp only [Ex.to, Exit.inBlock, he, if_false]
            exact this hl
      · cases h
    | loop x => exact wpIn_loop_rounds (k + 1) (loop rp x h hp hi ht hm hlo hrd hQ)
    | exit id => cases h; exact wpIn_exit (only rfl _ _ same)
    | ret => cases h; exact wpIn_ret (only rfl _ _ same)
    | scope x =>
      refine wpIn_scope ?_
      simp only [codeS] at h
      refine ih.1 _ x h (fun e => (hp e).kid 0 rfl) hi ht hm hlo hrd fun r hr a1 w1 hl => ?_
      have := hQ r hr a1 w1 hl
      obtain ⟨ex, T1, s1⟩ := r
      cases ex <;> exact this
    | label l => cases h; exact wpIn_label (only rfl _ _ same)
    | rangeFunc g ps assign body =>
      simp only [codeS] at h
      split at h
      · rename_i f first captured hg
        split at h
        · rename_i hen0
          obtain ⟨hrf, hen⟩ := Bool.and_eq_true_iff.1 hen0
          subst hrf
          split at h
          · rename_i L0 hc
            exact range_ok hcall hi ht hm hlo hrd hg hen (hp rfl) hc h hQ
          · cases h
        · cases h
      · cases h
    | _ => cases h
/-- What a function hands back. -/
def resV (P : Program) (T : Tr Value) (h : Tr AObj) : List ResultVar → Option (List Value)
  | [] => some []
  | .tmp t :: r => match T.get t, resV P T h r with
    | some v, some vs => some (v :: vs)
    | _, _ => none
  | .cell p t :: r => match T.get p with
    | some (.pointer (some a)) => match loadV P h t (.pointer (some a)), resV P T h r with
      | some v, some vs => some (v :: vs)
      | _, _ => none
    | _ => none
def outV : List Value → Value
  | [v] => v
  | vs => .tuple vs.toArray
def args0 : Nat → List Value → Tr Value
  | _, [] => .leaf
  | i, v :: r => (args0 (i + 1) r).set 40 i (some v)
/-- What is run by another road than its text. -/
abbrev OvF := Nat → List Value → St → Option (Value × St)
def noOv : OvF := fun _ _ _ => none
/-- The values that a round is given, laid into its slots. -/
def setPs (N : Nat) : Tr Value → List Nat → List Value → Option (Tr Value)
  | T, [], [] => some T
  | T, p :: ps, v :: vs => if p < N then setPs N (T.set 40 p (some v)) ps vs else none
  | _, _, _ => none
def setLoop (s : St) (x st : Nat) (pend : Ex) : Option St :=
  match s.h.get x with
  | some (.loop 1 _ T f rp) => some ⟨s.next, s.h.set 40 x (some (.loop st pend T f rp))⟩
  | _ => none
def endRd (s : St) (x : Nat) : Ex → Option (Value × St)
  | .normal => match setLoop s x 0 .normal with
    | some s' => some (.bool true, s')
    | none => none
  | .ret => match setLoop s x 2 .ret with
    | some s' => some (.bool false, s')
    | none => none
  | .exit id => match setLoop s x 2 (.exit id) with
    | some s' => some (.bool false, s')
    | none => none
/-- What a function's end hands back. -/
def backS (P : Program) (fn : Func) (r : Ex × Tr Value × St) : Option (Value × St) := match r.1 with
  | .exit _ => none
  | _ => match resV P r.2.1 r.2.2.h fn.results.toList with
    | some vs => some (outV vs, r.2.2)
    | none => none
def funcS (ov : OvF) (draw : DrawF) (P : Program) (fuel : Nat) : Nat → CallF
  | 0, _, _, _ => none
  | d + 1, .func f, args, s =>
    match ov f args s with
    | some r => some [r]
    | none =>
    match P.funcs[f]? with
    | some fn => match fn.body with
      | some c =>
        if fn.ntmps < args.length then none else
        match codeS true draw (funcS ov draw P fuel d) P fn.ntmps none f fuel [] c (args0 0 args) s with
        | some l => match bindL (fun r => ones (backS P fn r)) l with
          | some L => some (mergeL s.next L)
          | none => none
        | none => none
      | none => none
    | none => none
  | d + 1, .yield x, args, s =>
    match s.h.get x with
    | some (.loop 0 _ T f rp) => match loopAt P f rp with
      | some (N, ps, assign, body) => match setPs N T ps args with
        | some T1 => match codeS true draw (funcS ov draw P fuel d) P N (some x) f fuel (0 :: rp) assign T1 s with
          | some l => match bindL (fun r => match r.1 with
            | .normal => (match r.2.2.h.get x with
              | some (.loop 0 pe Ta fa ra) => (match codeS true draw (funcS ov draw P fuel d) P N (some x) f fuel (1 :: rp) body r.2.1 ⟨r.2.2.next, r.2.2.h.set 40 x (some (.loop 1 pe Ta fa ra))⟩ with
                | some l3 => bindL (fun q => ones (endRd q.2.2 x q.1)) l3
                | none => none)
              | _ => none)
            | _ => none) l with
            | some L => some (mergeL s.next L)
            | none => none
          | none => none
        | none => none
      | none => none
    | _ => none
  | _ + 1, _, _, _ => none
theorem args0_get : ∀ (l : List Value) (i t : Nat), (args0 i l).get t = if i ≤ t then l[t - i]? else none
  | [], i, t => by simp [args0, Tr.get_leaf]
  | v :: r, i, t => by
    unfold args0
    rw [Tr.get_set, args0_get r (i + 1) t]
    by_cases h : t = i
    · subst h; simp
    · rw [if_neg h]
      by_cases h2 : i ≤ t
      · rw [if_pos h2, if_pos (by omega), show t - i = (t - (i + 1)) + 1 by omega, List.getElem?_cons_succ]
      · rw [if_neg h2, if_neg (by omega)]
theorem args0_ok {σ : Sg} {l : List Value} {args : Array Value} (h : VRs σ l args.toList) {N : Nat} (hN : l.length ≤ N) : TR [] σ N (args0 0 l) { tmps := args ++ Array.replicate (N - args.size) undef, defers := [] } := by
  have hs : l.length = args.size := by have := h.1; simpa using this
  refine ⟨by simp; omega, rfl, fun t v hv => ?_⟩
  rw [args0_get, if_pos (Nat.zero_le _), Nat.sub_zero] at hv
  obtain ⟨v', h1, h2⟩ := h.get hv
  have ht : t < args.size := by
    have := (List.getElem?_eq_some_iff.1 h1).1
    simpa using this
  refine ⟨v', ?_, h2⟩
  rw [Array.getElem?_append_left ht, ← Array.getElem?_toList]
  exact h1
def resSem (tmps : Array Value) : ResultVar → Sem Value
  | .tmp t => pure (tmps.getD t undef)
  | .cell p t => do loadVar t (← asAddr (tmps.getD p undef))
theorem results_eq (fn : Func) (tmps : Array Value) : results fn tmps = (do
    let vs ← fn.results.mapM (resSem tmps)
    pure (if h : vs.size = 1 then vs[0] else .tuple vs)) := by
  have : (fun x => match x with | ResultVar.tmp t => (pure (tmps.getD t undef) : Sem Value) | .cell a t => do loadVar t (← asAddr (tmps.getD a undef))) = resSem tmps := by
    funext x; cases x <;> rfl
  unfold results
  rw [← this]
  rfl
theorem resV_ok {σ : Sg} {s : St} {w : World} (hi : Inv P B σ s w) {ds : List Deferred} {N : Nat} {T : Tr Value} {a : Act} (ht : TR ds σ N T a) : ∀ {l : List ResultVar} {vs : List Value}, resV P T s.h l = some vs →
    ∃ vs', (l.mapM (resSem a.tmps)).run P w = .ok vs' w ∧ VRs σ vs vs'
  | [], vs, h => by
    cases h
    exact ⟨[], by simp, VRs.nil _⟩
  | .tmp t :: r, vs, h => by
    unfold resV at h
    split at h
    · rename_i v vs1 h1 h2
      cases h
      obtain ⟨vs', q1, q2⟩ := resV_ok hi ht h2
      obtain ⟨v', q3, q4⟩ := ht.at_ t v h1
      have e : a.tmps.getD t undef = v' := by simp [Array.getD_eq_getD_getElem?, q3]
      refine ⟨v' :: vs', ?_, VRs.cons q4 q2⟩
      rw [List.mapM_cons, Sem.run_bind]
      simp only [resSem, Sem.run_pure, Result.andThen_ok, Sem.run_bind, e]
      rw [q1]
      rfl
    · cases h
  | .cell p t :: r, vs, h => by
    unfold resV at h
    split at h
    · rename_i ad h0
      split at h
      · rename_i v vs1 h1 h2
        cases h
        obtain ⟨vs', q1, q2⟩ := resV_ok hi ht h2
        obtain ⟨p', q3, q4⟩ := ht.at_ p _ h0
        obtain ⟨v', q5, q6⟩ := loadV_ok hi h1 q4
        have e : a.tmps.getD p undef = p' := by simp [Array.getD_eq_getD_getElem?, q3]
        refine ⟨v' :: vs', ?_, VRs.cons q6 q2⟩
        rw [List.mapM_cons, Sem.run_bind]
        cases q4 with
        | ptr x o b c hx =>
          have q5' : (loadVar t ⟨b, o, none⟩).run P w = .ok v' w := q5
          have e2 : (asAddr (Value.pointer (some ⟨b, o, none⟩))).run P w = .ok ⟨b, o, none⟩ w := rfl
          simp only [resSem, e, Sem.run_bind, e2, Result.andThen_ok, q5', Sem.run_pure]
          rw [q1]
          rfl
      · cases h
    · cases h
theorem outV_ok {σ : Sg} {vs : List Value} {vs' : List Value} (h : VRs σ vs vs') : VR σ (outV vs) (if h : vs'.toArray.size = 1 then vs'.toArray[0] else .tuple vs'.toArray) := by
  cases vs with
  | nil =>
    have : vs' = [] := List.eq_nil_of_length_eq_zero h.1.symm
    subst this
    exact .tuple _ _ rfl (fun i v v' h => by simp at h)
  | cons v r =>
    obtain ⟨v', r', rfl, h1, h2⟩ := h.uncons
    cases r with
    | nil =>
      have : r' = [] := List.eq_nil_of_length_eq_zero h2.1.symm
      subst this
      exact h1
    | cons u r2 =>
      have hl := h2.1
      rw [dif_neg (by simp at hl ⊢; intro e; rw [e] at hl; simp at hl)]
      exact VR.tuple' (VRs.cons h1 h2)
theorem setPs_ok {τ : Sg} {N : Nat} : ∀ {ps : List Nat} {vs vs' : List Value} {T T' : Tr Value} {tmps : Array Value}, setPs N T ps vs = some T' → VRs τ vs vs' → tmps.size = N → (∀ t v, T.get t = some v → ∃ v', tmps[t]? = some v' ∧ VR τ v v') →
    ps.length = vs'.length ∧ ((ps.zip vs').foldl (fun tm (x : Nat × Value) => tm.setIfInBounds x.1 x.2) tmps).size = N ∧ ∀ t v, T'.get t = some v → ∃ v', ((ps.zip vs').foldl (fun tm (x : Nat × Value) => tm.setIfInBounds x.1 x.2) tmps)[t]? = some v' ∧ VR τ v v'
  | [], [], vs', T, T', tmps, h, hv, hs, ht => by
    cases h
    have : vs' = [] := List.eq_nil_of_length_eq_zero hv.1.symm
    subst this
    exact ⟨rfl, hs, ht⟩
  | [], _ :: _, _, _, _, _, h, _, _, _ => nomatch h
  | _ :: _, [], _, _, _, _, h, _, _, _ => nomatch h
  | p :: ps, v :: vs, vs', T, T', tmps, h, hv, hs, ht => by
    unfold setPs at h
    split at h
    · rename_i hp
      obtain ⟨v', r, rfl, h1, h2⟩ := hv.uncons
      obtain ⟨q1, q2, q3⟩ := setPs_ok (tmps := tmps.setIfInBounds p v') h h2 (by simp [hs]) (fun t u hu => by
        rw [Tr.get_set] at hu
        split at hu
        · rename_i he
          subst he
          cases hu
          exact ⟨v', by simp [hs, hp], h1⟩
        · rename_i he
          obtain ⟨u', q1, q2⟩ := ht t u hu
          exact ⟨u', by rw [Array.getElem?_setIfInBounds_ne (fun e => he e.symm)]; exact q1, q2⟩)
      exact ⟨by simp [q1], q2, q3⟩
    · cases h
theorem roundPost_mono {l : Nat} {R R' : Ending → World → Prop} (h : ∀ e w, R e w → R' e w) {x : Exit} {a : Act} {w : World} (q : roundPost P l R x a w) : roundPost P l R' x a w := by
  cases x with
  | normal => obtain ⟨v, w', q1, q2⟩ := q; exact ⟨v, w', q1, h _ _ q2⟩
  | ret => obtain ⟨v, w', q1, q2⟩ := q; exact ⟨v, w', q1, h _ _ q2⟩
  | exit id => obtain ⟨v, w', q1, q2⟩ := q; exact ⟨v, w', q1, h _ _ q2⟩
  | goto t => obtain ⟨v, w', q1, q2⟩ := q; exact ⟨v, w', q1, h _ _ q2⟩
  | panic _ => exact q.elim
  | outgrown => exact q.elim
theorem endRd_ok {σ0 : Sg} {s0 s' : St} {w0 : World} {v : Value} {x b κ : Nat} (k : Stp P B σ0 s0 w0 σ s w) (hx : σ x = some (b, κ)) {ex : Ex} (h : endRd s x ex = some (v, s')) {a : Act} : roundPost P b (CallR P B σ0 s0 w0 v s') ex.to a w := by
  have key : ∀ {st : Nat} {pe : Ex} {pend : Option Code} {s1 : St}, pe.pend = pend → setLoop s x st pe = some s1 → stOf st = (if pend.isNone then .ready else .done) → ∃ w', (Instr.endRound b pend).run P w = .ok (.bool pend.isNone) w' ∧ Stp P B σ s w σ s1 w' := by
    intro st pe pend s1 hpe hs hst
    unfold setLoop at hs
    split at hs
    · rename_i pe0 T f rp hg
      cases hs
      obtain ⟨b1, κ1, p1, p2, L, N, ps, assign, body, p3, p0, p4, p5, p6, p7, p8, p9, p10⟩ := k.inv.live x _ hg
      rw [hx] at p1; cases p1
      have hgl : (Instr.getLoop b).run P w = .ok L w := by simp [Instr.getLoop, getObj, Sem.run, p3]
      have hso : ∀ o, (setObj b o).run P w = .ok () { w with heap := w.heap.setIfInBounds b o } := fun o => by simp [setObj, Sem.run, p3]
      refine ⟨_, ?_, setobj_stp (o' := .loop { L with state := if pend.isNone then .ready else .done, pending := pend }) k.inv hg hx (fun a ha => by
        cases ha
        exact ⟨_, N, ps, assign, body, rfl, p0, by simp only [hst], hpe.symm, p6, p7, p8, p9, p10⟩)⟩
      simp only [Instr.endRound, Sem.run_bind, hgl, Result.andThen_ok, hso]
      rfl
    · cases hs
  cases ex with
  | normal =>
    simp only [endRd] at h
    split at h
    · rename_i s1 hs
      cases h
      obtain ⟨w', q1, q2⟩ := key rfl hs rfl
      exact ⟨_, w', q1, _, σ, rfl, .bool _, k.trans q2⟩
    · cases h
  | ret =>
    simp only [endRd] at h
    split at h
    · rename_i s1 hs
      cases h
      obtain ⟨w', q1, q2⟩ := key rfl hs rfl
      exact ⟨_, w', q1, _, σ, rfl, .bool _, k.trans q2⟩
    · cases h
  | exit id =>
    simp only [endRd] at h
    split at h
    · rename_i s1 hs
      cases h
      obtain ⟨w', q1, q2⟩ := key rfl hs rfl
      exact ⟨_, w', q1, _, σ, rfl, .bool _, k.trans q2⟩
    · cases h
/-- A function leaves: its marks are taken, one behind the other. -/
theorem leaves_marks {fn : Func} {tmps : Array Value} {R : Ending → World → Prop} {σ0 : Sg} {s0 : St} {w0 : World} (hB0 : B.w.heap.size ≤ w0.heap.size) : ∀ (rs : List Nat) {w : World}, rs.Nodup → (∀ r ∈ rs, w.heap[r]? = some (.deferred (some [])) ∧ w0.heap.size ≤ r ∧ ¬ Foot σ s r) → Stp P B σ0 s0 w0 σ s w →
    (∀ w', Stp P B σ0 s0 w0 σ s w' → ∃ v, (results fn tmps).run P w' = .ok v w' ∧ R (.returned v) w') → LeavesInM (FR none) 0 P fn tmps R (rs.map mk1) .returning w
  | [], w, _, _, k, hR => hR w k
  | r :: rs, w, hn, hr, k, hR => by
    obtain ⟨hn1, hn2⟩ := List.nodup_cons.1 hn
    obtain ⟨q1, q2, q3⟩ := hr r List.mem_cons_self
    have hlt := lt_of_block q1
    have hfr : Fr (fun j => j = r) w { w with heap := w.heap.setIfInBounds r (.deferred none) } := ⟨rfl, rfl, rfl, by simp, fun j hj hne => Array.getElem?_setIfInBounds_ne (fun e => hne e.symm)⟩
    have k' : Stp P B σ0 s0 w0 σ s { w with heap := w.heap.setIfInBounds r (.deferred none) } := by
      have hB : B.w.heap.size ≤ w.heap.size := k.inv.base.size
      refine ⟨⟨?_, k.inv.own, k.inv.dom, fun x o h => ?_, k.inv.inj⟩, k.old, k.nle, k.fr.trans hfr (fun i hi he => by omega), fun b hb hf => k.sub b hb hf, k.keep, k.ext⟩
      · exact k.inv.base.trans (hfr.below hB (fun j hj he => by
          omega))
      · obtain ⟨b, κ, p1, p2, p3⟩ := k.inv.live x o h
        refine ⟨b, κ, p1, p2, ?_⟩
        have : b ≠ r := fun e => q3 ⟨x, o, κ, h, e ▸ p1⟩
        have e : (w.heap.setIfInBounds r (.deferred none))[b]? = w.heap[b]? := Array.getElem?_setIfInBounds_ne (fun e => this e.symm)
        rw [e]
        exact p3
    refine ⟨by simp, .inl ⟨r, _, rfl, ?_, leaves_marks hB0 rs hn2 (fun j hj => ?_) k' hR⟩⟩
    · simp [Instr.takeDeferred, getObj, setObj, Sem.run, q1]
    · obtain ⟨p1, p2, p3⟩ := hr j (List.mem_cons_of_mem _ hj)
      refine ⟨?_, p2, p3⟩
      have : j ≠ r := fun e => hn1 (e ▸ hj)
      show (w.heap.setIfInBounds r (.deferred none))[j]? = _
      rw [Array.getElem?_setIfInBounds_ne (fun e => this e.symm)]
      exact p1
structure OvOK (P : Program) (B : Ctx) (ov : OvF) : Prop where
  ok : ∀ g args s v s', ov g args s = some (v, s') → ∀ (σ : Sg) (w : World) (args' : Array Value), Inv P B σ s w → VRs σ args args'.toList → Calls P g args' w (CallR P B σ s w v s')
theorem func_ok {ov : OvF} (hov : OvOK P B ov) {draw : DrawF} (hdraw : DrawOK P draw) (fuel : Nat) : ∀ d : Nat, CallOK P B (funcS ov draw P fuel d)
  | 0 => ⟨fun g args s L h => (nomatch h), fun x args s L h => (nomatch h)⟩
  | d + 1 => by
    have ih := func_ok hov hdraw fuel d
    refine ⟨fun f args s L h σ w args' hi hargs => ?_, fun x args s L h σ w args' b κ hi hx hargs => ?_⟩
    · unfold funcS at h
      split at h
      · rename_i r ho
        cases h
        refine (hov.ok f args s r.1 r.2 ho σ w args' hi hargs).mono fun e w' hr => ⟨r, List.mem_singleton.2 rfl, hr⟩
      split at h
      · rename_i fn hf
        split at h
        · rename_i c hb
          split at h
          · cases h
          · rename_i hN
            have hN : args.length ≤ fn.ntmps := by omega
            split at h
            · rename_i l hc
              split at h
              · rename_i L1 hL1
                cases h
                refine (callsIn_wide (n := 0)).1 (callsIn_of_wp_marks (F := FR none) hf hb trivial ?_ rfl)
                have fin : ∀ {r : Ex × Tr Value × St}, r ∈ l → ∀ a' w', LeftC P B true [] w.heap.size σ s w fn.ntmps r.2.1 r.2.2 a' w' → (r.1.to = .normal ∨ r.1.to = .ret) ∧ LeavesInM (FR none) 0 P fn a'.tmps (CallRs P B σ s w (mergeL s.next L1)) a'.defers .returning w' := by
                  rintro r hr a' w' ⟨τ, ds, q1, ⟨rs, m1, m2, m3⟩, q2, _⟩
                  obtain ⟨m, hm1, hm2⟩ := bindL_mem hL1 r hr
                  obtain ⟨y, hy, rfl⟩ := ones_some hm1
                  have hyL := hm2 y (List.mem_singleton.2 rfl)
                  have key : ∃ vs, resV P r.2.1 r.2.2.h fn.results.toList = some vs ∧ y = (outV vs, r.2.2) ∧ (r.1.to = .normal ∨ r.1.to = .ret) := by
                    unfold backS at hy
                    split at hy
                    · cases hy
                    · rename_i hne
                      split at hy
                      · rename_i vs hvs
                        cases hy
                        refine ⟨vs, hvs, rfl, ?_⟩
                        cases he : r.1 with
                        | normal => exact .inl rfl
                        | ret => exact .inr rfl
                        | exit id => exact absurd he (hne id)
                      · cases hy
                  obtain ⟨vs, hvs, rfl, hex⟩ := key
                  refine ⟨hex, ?_⟩
                  rw [q1.defers, m1]
                  refine leaves_marks hi.base.size rs m2 m3 q2 fun w2 k2 => ?_
                  obtain ⟨vs', r1, r2⟩ := resV_ok k2.inv q1 hvs
                  obtain ⟨z, hz1, hz2⟩ := mergeL_cov s.next L1 _ hyL
                  refine ⟨_, ?_, z, hz1, CallR.cov hz2 ⟨_, τ, rfl, outV_ok r2, k2⟩⟩
                  rw [results_eq, Sem.run_bind, Array.mapM_eq_mapM_toList, Sem.run_map, r1]
                  rfl
                refine (code_ok hdraw ih (rd := none) (ρ := none) (lo := w.heap.size) (fu := f) fuel).1 [] c hc (fun _ => ⟨fn, c, hf, hb, rfl, rfl⟩) hi (args0_ok hargs hN) Marks.nil (Nat.le_refl _) rfl fun r hr a' w' hl => ?_
                obtain ⟨he, hlv⟩ := fin hr a' w' hl
                rcases he with he | he <;> (rw [he]; exact hlv)
              · cases h
            · cases h
        · cases h
      · cases h
    · unfold funcS at h
      split at h
      · rename_i pe T f rp hg
        obtain ⟨b1, κ1, p1, p2, L0, N, ps, assign, body, p3, p0, p4, p5, p6, p7, p8, p9, p10⟩ := hi.live x _ hg
        rw [hx] at p1; cases p1
        rw [p0] at h
        simp only [] at h
        obtain ⟨hpa, hpb⟩ := loopAt_pos p0
        split at h
        · rename_i T1 hT1
          obtain ⟨z1, z2, z3⟩ := setPs_ok hT1 hargs p9 p10
          have hgl : (Instr.getLoop b).run P w = .ok L0 w := by simp [Instr.getLoop, getObj, Sem.run, p3]
          have hzip : (L0.params.zip args').foldl (fun tmps (x : Nat × Value) => tmps.setIfInBounds x.1 x.2) L0.tmps = (ps.zip args'.toList).foldl (fun tm (x : Nat × Value) => tm.setIfInBounds x.1 x.2) L0.tmps := by
            rw [← Array.foldl_toList, Array.toList_zip, p6]
          refine ⟨L0.fn, (L0.params.zip args').foldl (fun tmps (x : Nat × Value) => tmps.setIfInBounds x.1 x.2) L0.tmps, assign, body, ?_, ?_⟩
          · have hsz : ¬ args'.size ≠ L0.params.size := by
              have : L0.params.toList.length = args'.toList.length := by rw [p6]; exact z1
              simp at this ⊢
              exact this.symm
            simp only [Instr.yield, Sem.run_bind, hgl, Result.andThen_ok]
            rw [if_neg hsz, p7, p8]
            rfl
          · refine roundIn_of_wpIn (F := Fence.wide) trivial ?_
            split at h
            · rename_i l hc2
              split at h
              · rename_i L1 hL1
                cases h
                refine (code_ok hdraw ih (rd := some x) (ρ := some b) (lo := w.heap.size) (fu := f) fuel).1 _ assign hc2 (fun _ => hpa) hi ⟨by rw [hzip]; exact z2, rfl, fun t v hv => by rw [hzip]; exact z3 t v hv⟩ Marks.nil (Nat.le_refl _) ⟨b, κ, rfl, hx⟩ fun r hr a2 w2 hl => ?_
                obtain ⟨τ, ds, y1, y2, y3, _⟩ := hl
                have hx2 : τ x = some (b, κ) := (y3.le hi).1 _ _ hx
                obtain ⟨m, hm1, hm2⟩ := bindL_mem hL1 r hr
                obtain ⟨ex0, T2, s2⟩ := r
                cases ex0 with
                | ret => cases hm1
                | exit id => cases hm1
                | normal =>
                  simp only [] at hm1 y1 y2 y3
                  split at hm1
                  · rename_i pe2 Ta fa ra hg2
                    obtain ⟨b2, κ2, o1, o2, L2, N2, ps2, as2, bd2, o3, o0, o4, o5, o6, o7, o8, o9, o10⟩ := y3.inv.live x _ hg2
                    rw [hx2] at o1; cases o1
                    have st2 := setobj_stp (new := some (.loop 1 pe2 Ta fa ra)) (o' := .loop { L2 with state := .busy }) y3.inv hg2 hx2 (fun a ha => by
                      cases ha
                      exact ⟨_, N2, ps2, as2, bd2, rfl, o0, rfl, o5, o6, o7, o8, o9, o10⟩)
                    have hgl2 : (Instr.getLoop b).run P w2 = .ok L2 w2 := by simp [Instr.getLoop, getObj, Sem.run, o3]
                    have hso2 : (setObj b (.loop { L2 with state := .busy })).run P w2 = .ok () { w2 with heap := w2.heap.setIfInBounds b (.loop { L2 with state := .busy }) } := by simp [setObj, Sem.run, o3]
                    refine ⟨{ w2 with heap := w2.heap.setIfInBounds b (.loop { L2 with state := .busy }) }, ?_, ?_⟩
                    · simp only [Instr.beginRound, Sem.run_bind, hgl2, Result.andThen_ok, hso2, o4]
                      rfl
                    · split at hm1
                      · rename_i l3 hc3
                        refine (code_ok hdraw ih (rd := some x) (ρ := some b) (lo := w.heap.size) (fu := f) fuel).1 _ body hc3 (fun _ => hpb) st2.inv y1 (y2.step st2) (Nat.le_trans y3.fr.size st2.fr.size) ⟨b, κ, rfl, hx2⟩ fun q hq a3 w3 hl3 => ?_
                        obtain ⟨υ, ds3, v1, v2, v3, _⟩ := hl3
                        obtain ⟨m3, hm3, hm4⟩ := bindL_mem hm1 q hq
                        obtain ⟨y, hy, rfl⟩ := ones_some hm3
                        obtain ⟨z, hz1, hz2⟩ := mergeL_cov s.next L1 y (hm2 y (hm4 y (List.mem_singleton.2 rfl)))
                        have := endRd_ok (v := y.1) (s' := y.2) ((y3.trans st2).trans v3) ((v3.le st2.inv).1 _ _ hx2) (ex := q.1) hy (a := a3)
                        exact roundPost_mono (fun e w' hr => ⟨z, hz1, CallR.cov hz2 hr⟩) this
                      · cases hm1
                  · cases hm1
              · cases h
            · cases h
        · cases h
      · cases h
theorem noOv_ok : OvOK P B noOv := ⟨fun _ _ _ _ _ h => nomatch h⟩
/-- A run's beginning: no rows, the values that came from without. -/
def Rds (ext : Nat → Value) (w : World) : Prop := ∀ (j : Nat) (a : Option Addr) (n c : Nat), ext j = .slice a n c → Opq w a n
def ctx0 (ext : Nat → Value) (w : World) (rd : Rds ext w) : Ctx := ⟨w, ⟨fun _ => none, ext⟩, rd⟩
theorem inv0 (ext : Nat → Value) (w : World) (rd : Rds ext w) : Inv P (ctx0 ext w rd) (ctx0 ext w rd).σ ⟨0, .leaf⟩ w := ⟨Below.refl _ _, Sg.le_refl _, fun _ _ => rfl, fun _ _ h => (nomatch h), fun _ _ _ _ _ _ _ h => (nomatch h)⟩
theorem run_call {ov : OvF} {draw : DrawF} (hdraw : DrawOK P draw) (ext : Nat → Value) {w : World} (rd : Rds ext w) (hov : OvOK P (ctx0 ext w rd) ov) {fuel d f : Nat} {args : List Value} {args' : Array Value} (hargs : VRs (ctx0 ext w rd).σ args args'.toList) {L : List (Value × St)} (h : funcS ov draw P fuel d (.func f) args ⟨0, .leaf⟩ = some L) :
    Calls P f args' w fun e w' => ∃ x ∈ L, ∃ v' τ, e = .returned v' ∧ VR τ x.1 v' ∧ Sg.le (ctx0 ext w rd).σ τ ∧ Below w.heap.size w w' := by
  refine ((func_ok hov hdraw fuel d).func f args _ L h _ w args' (inv0 ext w rd) hargs).mono ?_
  rintro e w' ⟨x, hx, v', τ, rfl, h1, h2⟩
  exact ⟨x, hx, v', τ, rfl, h1, h2.inv.own, h2.inv.base⟩
def isTrue (r : Option (List (Value × St))) : Bool := match r with
  | some l => l.all fun x => match x.1 with
    | .bool b => b
    | _ => false
  | none => false
theorem run_true {ov : OvF} {draw : DrawF} (hdraw : DrawOK P draw) (ext : Nat → Value) {w : World} (rd : Rds ext w) (hov : OvOK P (ctx0 ext w rd) ov) {fuel d f : Nat} {args : List Value} {args' : Array Value} (hargs : VRs (ctx0 ext w rd).σ args args'.toList) (h : isTrue (funcS ov draw P fuel d (.func f) args ⟨0, .leaf⟩) = true) :
    Calls P f args' w fun e w' => e = .returned (.bool true) ∧ Below w.heap.size w w' := by
  unfold isTrue at h
  split at h
  · rename_i l hf
    refine (run_call hdraw ext rd hov hargs hf).mono ?_
    rintro e w' ⟨x, hx, v', τ, rfl, h1, _, h2⟩
    have := List.all_eq_true.1 h x hx
    split at this
    · rename_i b hb
      rw [hb] at h1
      cases h1
      subst this
      exact ⟨rfl, h2⟩
    · cases this
  · cases h
/-- A call without arguments, in any world. -/
theorem closed_true {draw : DrawF} (hdraw : DrawOK P draw) {fuel d f : Nat} (h : isTrue (funcS noOv draw P fuel d (.func f) [] ⟨0, .leaf⟩) = true) (w : World) : Calls P f #[] w fun e w' => e = .returned (.bool true) ∧ Below w.heap.size w w' :=
  run_true hdraw (fun _ => undef) (fun _ _ _ _ h => nomatch h) noOv_ok (VRs.nil _) h
end
end
end Go.Proofs.YtimlldedpbbeoaaGreat
