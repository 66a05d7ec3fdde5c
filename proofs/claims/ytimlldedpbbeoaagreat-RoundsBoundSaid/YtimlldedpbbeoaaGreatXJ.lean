/- The abstract run: any operation as one step; operations one behind the other. -/
import Derived.Test.YtimlldedpbbeoaaGreatXS
import Derived.Test.YtimlldedpbbeoaaGreatXW
import Derived.TacticsIn
import Derived.KernelRfl
import Derived.Lib.Bytealg
import Derived.Laws.Externs
namespace Go.Proofs.YtimlldedpbbeoaaGreat
open Go.RowKit
noncomputable section

section
variable {P : Program} {B : Ctx} {σ : Sg} {s : St} {w : World}
def enters (P : Program) (g : Nat) : Bool :=
  match P.funcs[g]? with
  | some fn => !(fn.name == "runtime.NumGoroutine") && fn.body.isSome
  | none => false
/-- The entry that holds two strings against each other. -/
def isCmp (P : Program) (g : Nat) : Bool :=
  match P.funcs[g]? with
  | some fn => (fn.name == "internal/bytealg.abigen_runtime_cmpstring") && (fn.origin == "") && fn.body.isNone
  | none => false
theorem cmp_look1 : Extern.allNextRows.lookup "internal/bytealg.abigen_runtime_cmpstring" = none := by kernel_rfl
theorem cmp_look2 : Extern.allNextRows.lookup "" = none := by kernel_rfl
theorem cmp_look3 : Extern.allGenericRows.lookup "internal/bytealg.abigen_runtime_cmpstring" = none := by kernel_rfl
theorem cmp_look4 : Extern.allTypedRows.lookup "internal/bytealg.abigen_runtime_cmpstring" = none := by kernel_rfl
theorem cmp_look5 : Extern.allRows.lookup "internal/bytealg.abigen_runtime_cmpstring" = some Extern.BytealgCompare.compare := by kernel_rfl
theorem cmp_run {g : Nat} (h : isCmp P g = true) (a b : ByteArray) : (callFunc g #[.string a, .string b]).run P w = .ok (.value (.int .i64 (Lib.compareBytes a.data.toList b.data.toList))) w := by
  unfold isCmp at h
  split at h
  · rename_i fn hf
    simp only [Bool.and_eq_true, beq_iff_eq] at h
    obtain ⟨⟨h1, h2⟩, h3⟩ := h
    have hn : Extern.findNext fn = none := by
      simp only [Extern.findNext, h1, h2, cmp_look1, cmp_look2]
      rfl
    have he : Extern.find fn = some Extern.BytealgCompare.compare := by
      simp only [Extern.find, h1, cmp_look3, cmp_look4, cmp_look5]
      rfl
    rw [run_callFunc_extern hf (by rw [h1]; kernel_rfl) h3 hn he, Lib.run_compareString]
    rfl
  · cases h
theorem extract_tail {α : Type} (x : α) (A : Array α) : (#[x] ++ A).extract 1 (#[x] ++ A).size = A := by
  apply Array.ext
  · simp
  · intro i h1 h2
    rw [Array.getElem_extract, Array.getElem_append_right (by simp)]
    simp
theorem head_of {α : Type} (x : α) (A : Array α) : (#[x] ++ A)[0]? = some x := by
  rw [Array.getElem?_append_left (by simp)]; rfl
/-- A method by its row: a pointer's, or a value's own. -/
def methodV (P : Program) (t : TypeId) (name : String) : Option FuncId :=
  match P.info? t with
  | some i => match i.methods.find? (·.name == name) with
    | some m => match m.path.toList, m.func, P.underlying t with
      | [], some (f, true), some (.pointer _) => some f
      | _, _, _ => none
    | none => none
  | none => none
theorem method_run {t : TypeId} {name : String} {f : FuncId} {v : Value} (n : Nat) (h : methodV P t name = some f) : (method (n + 1) t v name).run P w = .ok (f, v) w := by
  unfold methodV at h
  split at h
  · rename_i i hi
    split at h
    · rename_i m hm
      split at h
      · rename_i hp hf hu
        cases h
        simp [method, typeInfo, hi, hm, hp, hf, follow, receiverAt, run_underlying hu, Place.get]
      · cases h
    · cases h
  · cases h
def isOpq : Value → Bool
  | .complex .f32 _ _ => true
  | _ => false
def effS (call : CallF) (P : Program) (o : Op) (T : Tr Value) (s : St) : Option (List (Value × St)) :=
  match o with
  | .store t x y => match ev T x, ev T y with
    | some p, some v => match storeS P s t p v with
      | some s' => some [(.tuple #[], s')]
      | none => none
    | _, _ => none
  | .range t x => match ev T x with
    | some m => ones (rangeS P s t m)
    | none => none
  | .next x false => match ev T x with
    | some v => nextS s v
    | none => none
  | .mapUpdate t m k x => match ev T m, ev T k, ev T x with
    | some m, some k, some v => match mupS P s t m k v with
      | some s' => some [(.tuple #[], s')]
      | none => none
    | _, _, _ => none
  | .mapEntry t m k => match ev T m, ev T k with
    | some m, some k => ones (entS P s t m k)
    | _, _ => none
  | .entryStore _ m p x => match ev T m, ev T p, ev T x with
    | some m, some p, some v => match estS s m p v with
      | some s' => some [(.tuple #[], s')]
      | none => none
    | _, _, _ => none
  | .call c => match c.callee with
    | .builtin b => match b, evs T c.args.toList with
      | .delete, some [v, u] => ones (delS P s c.argTypes.toList v u)
      | .append, some [v, u] => ones (if isOpq u then appendO P s c.argTypes.toList v u else appendS P s c.argTypes.toList v u)
      | .copy, some [v, u] => ones (copyS P s c.argTypes.toList v u)
      | .clear, some [v] => ones (clearS P s c.argTypes.toList v)
      | _, _ => none
    | .value f => match ev T f, evs T c.args.toList with
      | some (.func (.func g) first captured), some l => if enters P g then call (.func g) (first.toList ++ l ++ captured.toList) s else if isCmp P g then match first.toList ++ l ++ captured.toList with
          | [.string a, .string b] => some [(.int .i64 (Lib.compareBytes a.data.toList b.data.toList), s)]
          | _ => none
        else none
      | some (.func (.yield x) _ _), some l => call (.yield x) l s
      | _, _ => none
    | .invoke r name => match ev T r, evs T c.args.toList with
      | some (.iface t v), some l => match methodV P t name with
        | some g => if enters P g then call (.func g) (v :: l) s else none
        | none => none
      | _, _ => none
  | _ => none
theorem callFunc_run {g : Nat} (h : enters P g = true) (args : Array Value) : (callFunc g args).run P w = .ok (.enter g args) w := by
  unfold enters at h
  split at h
  · rename_i fn hf
    simp only [Bool.and_eq_true, Bool.not_eq_true'] at h
    obtain ⟨h1, h2⟩ := h
    have h1' : ¬ fn.name = "runtime.NumGoroutine" := by simpa using h1
    have h3 : ¬ fn.body = none := fun hb => by rw [hb] at h2; cases h2
    simp [callFunc, hf, h1', h3]
  · cases h
/-- What an operation leaves, whatever the world is. -/
def OpK (P : Program) (B : Ctx) (σ : Sg) (s : St) (w : World) (a : Act) (o : Oper) (v : Value) (s' : St) (K : Act → World → Prop) : Prop :=
  ∀ (v' : Value) (τ : Sg) (w' : World), VR τ v v' → Stp P B σ s w τ s' w' → K (a.put o.dst v') w'
theorem wpIn_mk {ρ : Option Nat} {o : Oper} {a : Act} {K : Act → World → Prop} {Q : Exit → Act → World → Prop} (hnd : ∀ c, o.op ≠ .defer c) (h : o.uponIn (FR ρ) 0 P a K Q ((execOp a.eval o).run P w)) : o.wpIn (FR ρ) 0 P a w K Q :=
  ⟨fun _ _ => trivial, by rw [Oper.semAt_eq _ _ _ hnd]; exact h⟩
theorem calls_FR {ρ : Option Nat} {g : Nat} {args : Array Value} {R : Ending → World → Prop} (h : Calls P g args w R) : CallsIn (FR ρ) (0 - 1) P g args w R := (callsIn_wide (n := 0 - 1)).2 h
theorem eff_ok {call : CallF} (hcall : CallOK P B call) {ρ : Option Nat} {ds : List Deferred} (hi : Inv P B σ s w) {N : Nat} {T : Tr Value} {a : Act} (ht : TR ds σ N T a) {o : Oper} {L : List (Value × St)} (h : effS call P o.op T s = some L)
    {K : Act → World → Prop} {Q : Exit → Act → World → Prop} (hK : ∀ x ∈ L, OpK P B σ s w a o x.1 x.2 K) : o.wpIn (FR ρ) 0 P a w K Q := by
  have only : ∀ {v : Value} {s' : St}, L = [(v, s')] → OpK P B σ s w a o v s' K := fun e => by subst e; exact hK _ (List.mem_singleton.2 rfl)
  unfold effS at h
  split at h
  · rename_i t x y hop
    split at h
    · rename_i p u hp hu
      split at h
      · rename_i s1 hs
        cases h
        obtain ⟨w', h1, h2⟩ := storeS_ok hi hs (ev_ok ht hp) (ev_ok ht hu)
        have : (execOp a.eval o).run P w = .ok .skip w' := by
          unfold execOp
          rw [hop]
          simp [h1]
        refine wpIn_mk (fun c hc => by rw [hop] at hc; cases hc) ?_
        rw [this]
        exact only rfl undef σ w' (.tuple _ _ rfl (fun i v v' h => by simp at h)) h2
      · cases h
    · cases h
  · rename_i t x hop
    split at h
    · rename_i m hm
      obtain ⟨⟨v, s'⟩, hr, rfl⟩ := ones_some h
      obtain ⟨r', w', τ, h1, h2, h3⟩ := rangeS_ok hi hr (ev_ok ht hm)
      have : (execOp a.eval o).run P w = .ok (.value r') w' := by
        unfold execOp
        rw [hop]
        simp [h1]
      refine wpIn_mk (fun c hc => by rw [hop] at hc; cases hc) ?_
      rw [this]
      exact only rfl _ _ _ h2 h3
    · cases h
  · rename_i x hop
    split at h
    · rename_i m hm
      obtain ⟨r', w', h1, y, hy, h2, h3⟩ := nextS_ok (t := o.type) hi h (ev_ok ht hm)
      have : (execOp a.eval o).run P w = .ok (.value r') w' := by
        unfold execOp
        rw [hop]
        simp [h1]
      refine wpIn_mk (fun c hc => by rw [hop] at hc; cases hc) ?_
      rw [this]
      exact hK y hy _ _ _ h2 h3
    · cases h
  · rename_i t m k x hop
    split at h
    · rename_i m k v hm hk hv
      split at h
      · rename_i s1 hs
        cases h
        obtain ⟨w', h1, h2⟩ := mupS_ok hi hs (ev_ok ht hm) (ev_ok ht hk) (ev_ok ht hv)
        have : (execOp a.eval o).run P w = .ok .skip w' := by
          unfold execOp
          rw [hop]
          simp [h1]
        refine wpIn_mk (fun c hc => by rw [hop] at hc; cases hc) ?_
        rw [this]
        exact only rfl undef σ w' (.tuple _ _ rfl (fun i v v' h => by simp at h)) h2
      · cases h
    · cases h
  · rename_i t m k hop
    split at h
    · rename_i m k hm hk
      obtain ⟨⟨v, s'⟩, hr, rfl⟩ := ones_some h
      obtain ⟨r', w', h1, h2, h3⟩ := entS_ok hi hr (ev_ok ht hm) (ev_ok ht hk)
      have : (execOp a.eval o).run P w = .ok (.value r') w' := by
        unfold execOp
        rw [hop]
        simp [h1]
      refine wpIn_mk (fun c hc => by rw [hop] at hc; cases hc) ?_
      rw [this]
      exact only rfl _ _ _ h2 h3
    · cases h
  · rename_i t m p x hop
    split at h
    · rename_i m p v hm hp hv
      split at h
      · rename_i s1 hs
        cases h
        obtain ⟨w', h1, h2⟩ := estS_ok (t := t) hi hs (ev_ok ht hm) (ev_ok ht hp) (ev_ok ht hv)
        have : (execOp a.eval o).run P w = .ok .skip w' := by
          unfold execOp
          rw [hop]
          simp [h1]
        refine wpIn_mk (fun c hc => by rw [hop] at hc; cases hc) ?_
        rw [this]
        exact only rfl undef σ w' (.tuple _ _ rfl (fun i v v' h => by simp at h)) h2
      · cases h
    · cases h
  · rename_i c hop
    obtain ⟨cal, args, ts⟩ := c
    simp only [] at h
    split at h
    · rename_i b
      have fin : ∀ {m : Sem Value} {v : Value} {s' : St} {r' : Value} {w' : World} {τ : Sg}, L = [(v, s')] → (builtin b ts o.type (args.map fun | .const _ => true | _ => false) (args.map a.eval) = (do pure (Next.value (← m)))) → m.run P w = .ok r' w' → VR τ v r' → Stp P B σ s w τ s' w' → o.wpIn (FR ρ) 0 P a w K Q := by
        intro m v s' r' w' τ hL he h1 h2 h3
        have : (execOp a.eval o).run P w = .ok (.value r') w' := by
          unfold execOp
          rw [hop]
          show ((builtin b ts o.type (args.map fun | .const _ => true | _ => false) (args.map a.eval)).run P w) = _
          rw [he, Sem.run_bind, h1]
          rfl
        refine wpIn_mk (fun c hc => by rw [hop] at hc; cases hc) ?_
        rw [this]
        exact only hL _ _ _ h2 h3
      split at h
      · rename_i x y hl
        have q : VRs σ [x, y] (args.map a.eval).toList := by simpa using evs_ok ht hl
        obtain ⟨x', y', he, hx, hy⟩ := args2 q
        obtain ⟨⟨v, s'⟩, hr, hL⟩ := ones_some h
        obtain ⟨w', h1, h2, h3⟩ := delS_ok (ty := o.type) hi hr hx hy
        exact fin hL (by rw [he]; rfl) h1 h2 h3
      · rename_i x y hl
        have q : VRs σ [x, y] (args.map a.eval).toList := by simpa using evs_ok ht hl
        obtain ⟨x', y', he, hx, hy⟩ := args2 q
        obtain ⟨⟨v, s'⟩, hr, hL⟩ := ones_some h
        split at hr
        · obtain ⟨r', w', τ, h1, h2, h3⟩ := appendO_ok (ty := o.type) hi hr hx hy
          exact fin hL (by rw [he]; rfl) h1 h2 h3
        · obtain ⟨r', w', τ, h1, h2, h3⟩ := appendS_ok (ty := o.type) hi hr hx hy
          exact fin hL (by rw [he]; rfl) h1 h2 h3
      · rename_i x y hl
        have q : VRs σ [x, y] (args.map a.eval).toList := by simpa using evs_ok ht hl
        obtain ⟨x', y', he, hx, hy⟩ := args2 q
        obtain ⟨⟨v, s'⟩, hr, hL⟩ := ones_some h
        obtain ⟨w', h1, h2, h3⟩ := copyS_ok (ty := o.type) hi hr hx hy
        exact fin hL (by rw [he]; rfl) h1 h2 h3
      · rename_i x hl
        have q : VRs σ [x] (args.map a.eval).toList := by simpa using evs_ok ht hl
        obtain ⟨x', he, hx⟩ := args1 q
        obtain ⟨⟨v, s'⟩, hr, hL⟩ := ones_some h
        obtain ⟨w', h1, h2, h3⟩ := clearS_ok (ty := o.type) hi hr hx
        exact fin hL (by rw [he]; rfl) h1 h2 h3
      · cases h
    · rename_i f
      split at h
      · rename_i g first captured l hf hl
        have q := ev_ok ht hf
        have ql : VRs σ l (args.map a.eval).toList := by simpa using evs_ok ht hl
        generalize hv : a.eval f = vf at q
        cases q with
        | func _ _ first' _ captured' e1 e2 e3 e4 =>
        have hres : (execOp a.eval o).run P w = (callFunc g ((first' ++ args.map a.eval) ++ captured')).run P w := by
          unfold execOp
          rw [hop]
          show ((do let d ← resolve a.eval ⟨.value f, args, ts⟩ o.type; invoke d.target d.args : Sem Next).run P w) = _
          have : resolve a.eval ⟨.value f, args, ts⟩ o.type = pure { target := .fn (.func g) captured', args := first' ++ args.map a.eval } := by
            simp only [resolve, hv]; rfl
          rw [this, Sem.run_bind, Sem.run_pure, Result.andThen_ok]
          rfl
        have hall : VRs σ (first.toList ++ l ++ captured.toList) ((first' ++ args.map a.eval) ++ captured').toList := by
          simp only [Array.toList_append]
          exact ((vrs_arr.2 ⟨e1, e3⟩).append ql).append (vrs_arr.2 ⟨e2, e4⟩)
        split at h
        · rename_i hg
          have this := hres.trans (callFunc_run hg _)
          refine wpIn_mk (fun c hc => by rw [hop] at hc; cases hc) ?_
          rw [this, Oper.uponIn_enter]
          refine ⟨fun h => (nomatch h), calls_FR ((hcall.func _ _ _ _ h σ w _ hi hall).mono ?_)⟩
          rintro e w' ⟨y, hy, v', τ, rfl, h1, h2⟩
          exact hK y hy _ _ _ h1 h2
        · split at h
          · rename_i hcmp
            split at h
            · rename_i s1 s2 hl2
              cases h
              rw [hl2] at hall
              obtain ⟨x', y', he, hx, hy⟩ := args2 hall
              cases hx; cases hy
              rw [he] at hres
              refine wpIn_mk (fun c hc => by rw [hop] at hc; cases hc) ?_
              rw [hres, cmp_run hcmp]
              exact only rfl _ _ _ (.int _ _) (Stp.refl hi)
            · cases h
          · cases h
      · rename_i x f1 c1 l hf hl
        have q := ev_ok ht hf
        have ql : VRs σ l (args.map a.eval).toList := by simpa using evs_ok ht hl
        generalize hv : a.eval f = vf at q
        cases q with
        | yield _ b κ hx =>
        obtain ⟨fn, tmps, assign, body, hy, hr⟩ := hcall.yield _ _ _ _ h σ w _ b κ hi hx ql
        have : (execOp a.eval o).run P w = .ok (.round b fn tmps assign body) w := by
          unfold execOp
          rw [hop]
          show ((do let d ← resolve a.eval ⟨.value f, args, ts⟩ o.type; invoke d.target d.args : Sem Next).run P w) = _
          have : resolve a.eval ⟨.value f, args, ts⟩ o.type = pure { target := .fn (.yield b) #[], args := #[] ++ args.map a.eval } := by
            simp only [resolve, hv]; rfl
          rw [this, Sem.run_bind, Sem.run_pure, Result.andThen_ok]
          simp only [Array.empty_append]
          exact hy
        refine wpIn_mk (fun c hc => by rw [hop] at hc; cases hc) ?_
        rw [this, Oper.uponIn_round]
        refine ⟨fun h => (nomatch h), RoundIn.mono (F := FR ρ) hr ?_⟩
        rintro e w' ⟨y, hy, v', τ, rfl, h1, h2⟩
        exact hK y hy _ _ _ h1 h2
      · cases h
    · rename_i r name
      split at h
      · rename_i t v l hr hl
        split at h
        · rename_i g hg
          split at h
          · rename_i hen
            have q := ev_ok ht hr
            have ql : VRs σ l (args.map a.eval).toList := by simpa using evs_ok ht hl
            generalize hv : a.eval r = vr at q
            cases q with
            | iface _ _ v' hvv =>
            have hx : (#[a.eval r] ++ args.map a.eval).extract 1 (#[a.eval r] ++ args.map a.eval).size = args.map a.eval := extract_tail _ _
            have hres : (execOp a.eval o).run P w = (callFunc g (#[v'] ++ args.map a.eval)).run P w := by
              unfold execOp
              rw [hop]
              show ((do let d ← resolve a.eval ⟨.invoke r name, args, ts⟩ o.type; invoke d.target d.args : Sem Next).run P w) = _
              have h0 : resolve a.eval ⟨.invoke r name, args, ts⟩ o.type = pure { target := .fn (.method name) #[], args := #[a.eval r] ++ args.map a.eval } := rfl
              rw [h0, Sem.run_bind, Sem.run_pure, Result.andThen_ok]
              have h1 : (#[a.eval r] ++ args.map a.eval)[0]? = some (a.eval r) := head_of _ _
              show (invoke (.fn (.method name) #[]) (#[a.eval r] ++ args.map a.eval)).run P w = _
              unfold invoke
              simp only [h1, hx]
              unfold callMethod
              rw [hv]
              obtain ⟨n, hn⟩ : ∃ n, P.types.size + Made.depth = n + 1 := ⟨P.types.size + (Made.depth - 1), by unfold Made.depth; omega⟩
              simp only []
              simp [hn, method_run n hg]
            refine wpIn_mk (fun c hc => by rw [hop] at hc; cases hc) ?_
            rw [hres, callFunc_run hen, Oper.uponIn_enter]
            refine ⟨fun h => (nomatch h), calls_FR ((hcall.func _ _ _ _ h σ w _ hi (by rw [Array.toList_append]; exact VRs.cons hvv ql)).mono ?_)⟩
            rintro e w' ⟨y, hy, v', τ, rfl, h1, h2⟩
            exact hK y hy _ _ _ h1 h2
          · cases h
        · cases h
      · cases h
  · cases h
/-- All outcomes: as one, where they can be. -/
def effL (call : CallF) (P : Program) (o : Op) (T : Tr Value) (s : St) : Option (List (Value × St)) := match effS call P o T s with
  | some L => match forceM L with
    | some x => some [x]
    | none => some L
  | none => none
theorem effL_ok {call : CallF} (hcall : CallOK P B call) {ρ : Option Nat} {ds : List Deferred} (hi : Inv P B σ s w) {N : Nat} {T : Tr Value} {a : Act} (ht : TR ds σ N T a) {o : Oper} {L : List (Value × St)} (h : effL call P o.op T s = some L)
    {K : Act → World → Prop} {Q : Exit → Act → World → Prop} (hK : ∀ x ∈ L, OpK P B σ s w a o x.1 x.2 K) : o.wpIn (FR ρ) 0 P a w K Q := by
  unfold effL at h
  split at h
  · rename_i L0 hL
    split at h
    · rename_i y hy
      cases h
      refine eff_ok hcall hi ht hL fun x hx v' τ w' q1 q2 => ?_
      have hc := forceM_cov hy x hx
      exact hK y (List.mem_singleton.2 rfl) v' τ w' (hc.1 _ _ q1) (q2.cov hc.2.2 hc.2.1)
    · cases h
      exact eff_ok hcall hi ht hL hK
  · cases h
def opS (call : CallF) (P : Program) (o : Op) (T : Tr Value) (s : St) : Option (List (Value × St)) :=
  match quiet P o T s.h with
  | some v => some [(v, s)]
  | none => match allocV P o T s.next with
    | some (v, ob) => some [(v, ⟨s.next + 1, s.h.set 40 s.next (some ob)⟩)]
    | none => effS call P o T s
theorem op_ok {call : CallF} (hcall : CallOK P B call) {ρ : Option Nat} {ds : List Deferred} (hi : Inv P B σ s w) {N : Nat} {T : Tr Value} {a : Act} (ht : TR ds σ N T a) {o : Oper} {L : List (Value × St)} (h : opS call P o.op T s = some L)
    {K : Act → World → Prop} {Q : Exit → Act → World → Prop} (hK : ∀ x ∈ L, OpK P B σ s w a o x.1 x.2 K) : o.wpIn (FR ρ) 0 P a w K Q := by
  unfold opS at h
  split at h
  · rename_i v1 hq
    cases h
    obtain ⟨v', h1, h2⟩ := quiet_ok hi ht hq
    refine wpIn_mk (fun c hc => by rw [hc] at hq; cases hq) ?_
    rw [h1]
    exact hK _ (List.mem_singleton.2 rfl) _ _ _ h2 (Stp.refl hi)
  · split at h
    · rename_i v1 ob ha
      cases h
      obtain ⟨v', obj, h1, h2⟩ := alloc_ok ht ha w
      obtain ⟨h3, h4⟩ := h2 (σ.put s.next w.heap.size 0) (Sg.le_put (hi.dom _ (Nat.le_refl _))) (Sg.put_same ..)
      refine wpIn_mk (fun c hc => by rw [hc] at ha; cases ha) ?_
      rw [h1]
      exact hK _ (List.mem_singleton.2 rfl) _ _ _ h3 (stp_add hi h4)
    · exact eff_ok hcall hi ht h hK
def putT (N : Nat) (T : Tr Value) (d : Option Nat) (v : Value) : Option (Tr Value) :=
  match d with
  | none => some T
  | some d => if d < N then some (T.set 40 d (some v)) else none
theorem put_ok {ds : List Deferred} {N : Nat} {T T' : Tr Value} {a : Act} (ht : TR ds σ N T a) {d : Option Nat} {v v' : Value} (h : putT N T d v = some T') (hv : VR σ v v') : TR ds σ N T' (a.put d v') := by
  unfold putT at h
  split at h
  · cases h; exact ht
  · rename_i d
    split at h
    · rename_i hd
      cases h
      refine ⟨by simp [Act.put, ht.size], ht.defers, fun t u hu => ?_⟩
      rw [Tr.get_set] at hu
      split at hu
      · rename_i htd
        subst htd
        cases hu
        exact ⟨v', by simp [Act.put, ht.size, hd], hv⟩
      · rename_i htd
        obtain ⟨u', h1, h2⟩ := ht.at_ t u hu
        exact ⟨u', by simp only [Act.put]; rw [Array.getElem?_setIfInBounds_ne (fun e => htd e.symm)]; exact h1, h2⟩
    · cases h
/-- Is an operation done? none: that is not known. -/
def wants (ops : Array Oper) (T : Tr Value) (o : Oper) : Option Bool :=
  match o.guard with
  | none => some true
  | some (j, want) => match (ops[j]?).bind (·.dst) with
    | none => some false
    | some d => match T.get d with
      | some (.bool b) => some (b == want)
      | some (.tuple _) => some false
      | _ => none
theorem wants_ok {ds : List Deferred} {N : Nat} {T : Tr Value} {a : Act} (ht : TR ds σ N T a) {ops : Array Oper} {o : Oper} {b : Bool} (h : wants ops T o = some b) : Region.wanted o (yielded ops a.tmps) = b := by
  unfold wants at h
  unfold Region.wanted
  split at h
  · rename_i hg; cases h; rw [hg]
  · rename_i j want hg
    rw [hg]
    simp only [yielded]
    split at h
    · rename_i hd; cases h; rw [hd]; rfl
    · rename_i d hd
      rw [hd]
      simp only [Option.bind_some]
      split at h
      · rename_i c hc
        cases h
        obtain ⟨v', h1, h2⟩ := ht.at_ d _ hc
        cases h2
        rw [h1]
        simp
      · rename_i u hu
        cases h
        obtain ⟨v', h1, h2⟩ := ht.at_ d _ hu
        rw [h1]
        cases h2
        rfl
      · cases h
def putAll (N : Nat) (T : Tr Value) (d : Option Nat) : List (Value × St) → Option (List (Tr Value × St))
  | [] => some []
  | x :: r => match putT N T d x.1, putAll N T d r with
    | some T', some l => some ((T', x.2) :: l)
    | _, _ => none
theorem putAll_mem {N : Nat} {T : Tr Value} {d : Option Nat} : ∀ {L : List (Value × St)} {l : List (Tr Value × St)}, putAll N T d L = some l → ∀ x ∈ L, ∃ T', putT N T d x.1 = some T' ∧ (T', x.2) ∈ l
  | [], _, _, _, h => nomatch h
  | y :: r, l, h, x, hx => by
    unfold putAll at h
    split at h
    · rename_i T' l' h1 h2
      cases h
      cases hx with
      | head => exact ⟨T', h1, List.mem_cons_self⟩
      | tail _ hx =>
        obtain ⟨T2, q1, q2⟩ := putAll_mem h2 x hx
        exact ⟨T2, q1, List.mem_cons_of_mem _ q2⟩
    · cases h
def stepS (call : CallF) (P : Program) (N : Nat) (ops : Array Oper) (o : Oper) (T : Tr Value) (s : St) : Option (List (Tr Value × St)) :=
  match wants ops T o with
  | some true => match opS call P o.op T s with
    | some L => putAll N T o.dst L
    | none => none
  | some false => match putT N T o.dst (.tuple #[]) with
    | some T' => some [(T', s)]
    | none => none
  | none => none
/-- The slot of a guard that nobody knows. -/
def openG (ops : Array Oper) (T : Tr Value) (o : Oper) : Option Nat :=
  match o.guard with
  | none => none
  | some (j, _) => match (ops[j]?).bind (·.dst) with
    | none => none
    | some d => match T.get d with
      | some (.func (.method _) _ _) => some d
      | _ => none
theorem openG_ok {ops : Array Oper} {T : Tr Value} {o : Oper} {d : Nat} (h : openG ops T o = some d) {ds : List Deferred} {N : Nat} {a : Act} (ht : TR ds σ N T a) : ∃ b, TR ds σ N (T.set 40 d (some (.bool b))) a := by
  unfold openG at h
  split at h
  · cases h
  · split at h
    · cases h
    · split at h
      · rename_i hc
        cases h
        obtain ⟨v', hv1, hv2⟩ := ht.at_ d _ hc
        cases hv2 with
        | ub b =>
          refine ⟨b, ht.size, ht.defers, fun j u hj => ?_⟩
          rw [Tr.get_set] at hj
          split at hj
          · rename_i he
            subst he
            cases hj
            exact ⟨_, hv1, .bool b⟩
          · exact ht.at_ j u hj
      · cases h
def stepF (call : CallF) (P : Program) (N : Nat) (ops : Array Oper) (o : Oper) (T : Tr Value) (s : St) : Option (List (Tr Value × St)) :=
  match openG ops T o with
  | none => stepS call P N ops o T s
  | some d => match stepS call P N ops o (T.set 40 d (some (.bool true))) s, stepS call P N ops o (T.set 40 d (some (.bool false))) s with
    | some l, some m => some (l ++ m)
    | _, _ => none
theorem stepF_ok {call : CallF} {P : Program} {N : Nat} {ops : Array Oper} {o : Oper} {T : Tr Value} {s : St} {L : List (Tr Value × St)} (h : stepF call P N ops o T s = some L) {ds : List Deferred} {a : Act} (ht : TR ds σ N T a) :
    ∃ T' l, TR ds σ N T' a ∧ stepS call P N ops o T' s = some l ∧ ∀ x ∈ l, x ∈ L := by
  unfold stepF at h
  split at h
  · exact ⟨T, L, ht, h, fun _ h => h⟩
  · rename_i d hd
    split at h
    · rename_i l m h1 h2
      cases h
      obtain ⟨b, hb⟩ := openG_ok hd ht
      cases b with
      | true => exact ⟨_, l, hb, h1, fun x hx => List.mem_append_left _ hx⟩
      | false => exact ⟨_, m, hb, h2, fun x hx => List.mem_append_right _ hx⟩
    · cases h
def seqS (call : CallF) (P : Program) (N : Nat) (ops : Array Oper) : List Oper → Tr Value → St → Option (List (Tr Value × St))
  | [], T, s => some [(T, s)]
  | o :: r, T, s => match stepF call P N ops o T s with
    | some l => bindL (fun x => seqS call P N ops r x.1 x.2) l
    | none => none
/-- What a piece of code leaves. -/
def Left (P : Program) (B : Ctx) (ds : List Deferred) (σ : Sg) (s : St) (w : World) (N : Nat) (T' : Tr Value) (s' : St) (a' : Act) (w' : World) : Prop := ∃ τ, TR ds τ N T' a' ∧ Stp P B σ s w τ s' w'
theorem seq_ok {call : CallF} (hcall : CallOK P B call) {ρ : Option Nat} {ds : List Deferred} {N : Nat} {ops : Array Oper} {Q : Exit → Act → World → Prop} : ∀ (l : List Oper) {σ : Sg} {s : St} {w : World} {T : Tr Value} {a : Act} {L : List (Tr Value × St)}, Inv P B σ s w → TR ds σ N T a → seqS call P N ops l T s = some L →
    (∀ x ∈ L, ∀ a' w', Left P B ds σ s w N x.1 x.2 a' w' → Q .normal a' w') → wpListIn (FR ρ) 0 P ops Q l a w
  | [], σ, s, w, T, a, L, hi, ht, h, hQ => by
    cases h
    exact hQ _ (List.mem_singleton.2 rfl) _ _ ⟨σ, ht, Stp.refl hi⟩
  | o :: r, σ, s, w, T, a, L, hi, ht, h, hQ => by
    unfold seqS at h
    split at h
    · rename_i l0 hs0
      obtain ⟨T, l1, ht, hs, hsub⟩ := stepF_ok hs0 ht
      unfold stepS at hs
      have next : ∀ {x : Tr Value × St} {a1 : Act} {w1 : World} {τ : Sg}, x ∈ l1 → TR ds τ N x.1 a1 → Stp P B σ s w τ x.2 w1 → wpListIn (FR ρ) 0 P ops Q r a1 w1 := fun {x a1 w1 τ} hx h1 h2 => by
        obtain ⟨m, hm, hin⟩ := bindL_mem h x (hsub x hx)
        refine seq_ok hcall r h2.inv h1 hm fun y hy a' w' hl => ?_
        obtain ⟨υ, q1, q2⟩ := hl
        exact hQ y (hin y hy) a' w' ⟨υ, q1, h2.trans q2⟩
      unfold wpListIn
      split at hs
      · rename_i hw
        rw [wants_ok ht hw, if_pos rfl]
        split at hs
        · rename_i L1 ho
          refine op_ok hcall hi ht ho fun y hy v' τ w' h1 h2 => ?_
          obtain ⟨T1, hp, hin⟩ := putAll_mem hs y hy
          exact next hin (put_ok (ht.mono (h2.le hi)) hp h1) h2
        · cases hs
      · rename_i hw
        rw [wants_ok ht hw, if_neg (by simp)]
        split at hs
        · rename_i T2 hp
          cases hs
          exact ⟨fun _ _ => trivial, next (List.mem_singleton.2 rfl) (put_ok ht hp (.tuple _ _ rfl (fun i v v' h => by simp at h))) (Stp.refl hi)⟩
        · cases hs
      · cases hs
    · cases h
end
end
end Go.Proofs.YtimlldedpbbeoaaGreat
