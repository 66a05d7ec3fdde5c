/- The abstract run: what only computes or reads: operands, loads, places, parts. -/
import Derived.Test.YtimlldedpbbeoaaGreatXA
import Derived.Laws.Entries
import Derived.Laws.Build
import Derived.Laws.StructEq
import Derived.DeepKeys
import Derived.WalkLawsBesides
namespace Go.Proofs.YtimlldedpbbeoaaGreat
open Go.RowKit
noncomputable section

/-- A value without an address. -/
def flat : Nat → Value → Bool
  | _, .bool _ => true
  | _, .int _ _ => true
  | _, .string _ => true
  | _, .pointer none => true
  | _, .slice none _ _ => true
  | _, .map none => true
  | _, .nilFunc => true
  | _, .nilIface => true
  | k + 1, .agg cs => cs.toList.all (flat k)
  | k + 1, .tuple cs => cs.toList.all (flat k)
  | k + 1, .iface _ v => flat k v
  | k + 1, .func (.func _) f c => f.toList.all (flat k) && c.toList.all (flat k)
  | _, _ => false
theorem flat_vr {σ : Sg} : ∀ (k : Nat) (v : Value), flat k v = true → VR σ v v
  | _, .bool b, _ => .bool b
  | _, .int k n, _ => .int k n
  | _, .string s, _ => .string s
  | _, .pointer none, _ => .nilp
  | _, .slice none n c, _ => .nils n c
  | _, .map none, _ => .nilm
  | _, .nilFunc, _ => .nilFunc
  | _, .nilIface, _ => .nilIface
  | 0, .agg _, h => by simp [flat] at h
  | 0, .tuple _, h => by simp [flat] at h
  | 0, .iface _ _, h => by simp [flat] at h
  | 0, .func _ _ _, h => by simp [flat] at h
  | k + 1, .agg cs, h => .agg _ _ rfl fun i v v' a b => by
    simp only [flat, List.all_eq_true] at h
    rw [a] at b; cases b
    exact flat_vr k v (h v (List.mem_of_getElem? (by simpa using a)))
  | k + 1, .tuple cs, h => .tuple _ _ rfl fun i v v' a b => by
    simp only [flat, List.all_eq_true] at h
    rw [a] at b; cases b
    exact flat_vr k v (h v (List.mem_of_getElem? (by simpa using a)))
  | k + 1, .iface t v, h => .iface t v v (flat_vr k v (by simpa [flat] using h))
  | k + 1, .func (.func fn) f c, h => by
    simp only [flat, Bool.and_eq_true, List.all_eq_true] at h
    refine .func fn _ _ _ _ rfl rfl (fun i v v' a b => ?_) (fun i v v' a b => ?_)
    · rw [a] at b; cases b
      exact flat_vr k v (h.1 v (List.mem_of_getElem? (by simpa using a)))
    · rw [a] at b; cases b
      exact flat_vr k v (h.2 v (List.mem_of_getElem? (by simpa using a)))
  | _ + 1, .func (.method _) _ _, h => by simp [flat] at h
  | _ + 1, .func (.methodOf _ _) _ _, h => by simp [flat] at h
  | _ + 1, .func (.via _ _ _ _) _ _, h => by simp [flat] at h
  | _ + 1, .func (.yield _) _ _, h => by simp [flat] at h
  | 0, .pointer (some _), h => by simp [flat] at h
  | _ + 1, .pointer (some _), h => by simp [flat] at h
  | 0, .slice (some _) _ _, h => by simp [flat] at h
  | _ + 1, .slice (some _) _ _, h => by simp [flat] at h
  | 0, .map (some _), h => by simp [flat] at h
  | _ + 1, .map (some _), h => by simp [flat] at h
  | 0, .float _ _, h => by simp [flat] at h
  | _ + 1, .float _ _, h => by simp [flat] at h
  | 0, .complex _ _ _, h => by simp [flat] at h
  | _ + 1, .complex _ _ _, h => by simp [flat] at h
  | 0, .chan _, h => by simp [flat] at h
  | _ + 1, .chan _, h => by simp [flat] at h
def ev (T : Tr Value) : Operand → Option Value
  | .tmp t => T.get t
  | .const v => if flat 9 v then some v else match v with
    | .chan none => some (.float .f32 0)
    | _ => none
  | .func f => some (.func (.func f) #[] #[])
  | .global _ => none
theorem ev_ok {ds : List Deferred} {σ : Sg} {N : Nat} {T : Tr Value} {a : Act} (h : TR ds σ N T a) {x : Operand} {v : Value} (he : ev T x = some v) : VR σ v (a.eval x) := by
  cases x with
  | tmp t =>
    obtain ⟨v', h1, h2⟩ := h.at_ t v he
    simpa [Act.eval, Array.getD_eq_getD_getElem?, h1] using h2
  | const u =>
    simp only [ev] at he
    split at he
    · cases he; exact flat_vr 9 _ ‹_›
    · split at he
      · cases he; exact .nilc
      · cases he
  | func f =>
    simp only [ev, Option.some.injEq] at he
    subst he
    exact .func _ _ _ _ _ rfl rfl (fun i v v' a => by simp at a) (fun i v v' a => by simp at a)
  | global g => cases he
def evs (T : Tr Value) : List Operand → Option (List Value)
  | [] => some []
  | x :: r => match ev T x, evs T r with
    | some v, some vs => some (v :: vs)
    | _, _ => none
theorem evs_ok {ds : List Deferred} {σ : Sg} {N : Nat} {T : Tr Value} {a : Act} (h : TR ds σ N T a) : ∀ {l : List Operand} {vs : List Value}, evs T l = some vs → VRs σ vs (l.map a.eval)
  | [], vs, e => by simp [evs] at e; subst e; exact VRs.nil σ
  | x :: r, vs, e => by
    unfold evs at e
    split at e
    · rename_i v vs' h1 h2
      cases e
      exact VRs.cons (ev_ok h h1) (evs_ok h h2)
    · cases e

/-- The cells that stand there. -/
def rowAt (h : Tr AObj) (x o n : Nat) : Option (List Value) :=
  match h.get x with
  | some (.row cs _ _) => if o + n ≤ cs.length then some ((cs.drop o).take n) else none
  | _ => none
section
variable {P : Program} {B : Ctx} {σ : Sg} {s : St} {w : World}
theorem rowAt_ok (hi : Inv P B σ s w) {x o n : Nat} {cs : List Value} (h : rowAt s.h x o n = some cs) {b κ : Nat} (hx : σ x = some (b, κ)) : ∃ cs', VRs σ cs cs' ∧ w.rangeAt b o cs' := by
  unfold rowAt at h
  split at h
  · rename_i ds e room hg
    split at h
    · cases h
      obtain ⟨b1, κ1, q1, _, cur, q3, q4, q5, _⟩ := hi.live x _ hg
      rw [hx] at q1; cases q1
      refine ⟨((cur.toList.take ds.length).drop o).take n, (q5.drop o).take n, fun j v hj => ?_⟩
      rw [List.getElem?_take] at hj
      split at hj
      · rw [List.getElem?_drop, List.getElem?_take] at hj
        split at hj
        · rw [World.cell?, q3]
          simpa using hj
        · cases hj
      · cases hj
    · cases h
  · cases h
theorem rowAt_len {h : Tr AObj} {x o n : Nat} {cs : List Value} (hr : rowAt h x o n = some cs) : cs.length = n := by
  unfold rowAt at hr
  split at hr
  · split at hr
    · cases hr; simp; omega
    · cases hr
  · cases hr
/-- A variable's value. -/
def loadV (P : Program) (h : Tr AObj) (t : TypeId) : Value → Option Value
  | .pointer (some ⟨x, o, none⟩) =>
    match P.underlying t, P.info? t with
    | some d, some i => if d.isRow then (rowAt h x o i.size).map fun cs => .agg cs.toArray else
      match rowAt h x o 1 with
      | some [v] => some v
      | _ => none
    | _, _ => none
  | _ => none
theorem isAgg_run {t : TypeId} {d : TypeDesc} (h : P.underlying t = some d) : (isAgg t).run P w = .ok d.isRow w := by
  unfold isAgg
  rw [Sem.run_bind, run_underlying h, Result.andThen_ok]
  cases d <;> rfl
theorem loadV_ok (hi : Inv P B σ s w) {t : TypeId} {v v' r : Value} (h : loadV P s.h t v = some r) (hv : VR σ v v') : ∃ r', (Instr.loadAt t v').run P w = .ok r' w ∧ VR σ r r' := by
  unfold loadV at h
  split at h
  · rename_i x o
    cases hv with
    | ptr _ _ b κ hx =>
    split at h
    · rename_i d i hd hti
      split at h
      · rename_i hrow
        cases hr : rowAt s.h x o i.size with
        | none => simp [hr] at h
        | some cs =>
          simp only [hr, Option.map_some, Option.some.injEq] at h
          subst h
          obtain ⟨cs', h1, h2⟩ := rowAt_ok hi hr hx
          have hl := rowAt_len hr
          exact ⟨_, run_loadAt_mid w b o t cs' d h2 hd hrow (by rw [hti]; simp [← h1.1, hl]), .agg' h1⟩
      · rename_i hrow
        split at h
        · rename_i u hr
          cases h
          obtain ⟨cs', h1, h2⟩ := rowAt_ok hi hr hx
          obtain ⟨u', c', rfl, hu, _⟩ := h1.uncons
          have hc : w.cell? ⟨b, o, none⟩ = some u' := by simpa using h2 0 u' (by simp)
          refine ⟨u', ?_, hu⟩
          have hrow' : d.isRow = false := by simpa using hrow
          simp [Instr.loadAt, Instr.sureAddr, loadVar, isAgg_run hd, hrow', load, Sem.run, hc]
        · cases h
    · cases h
  · cases h
theorem info_run {t : TypeId} {i : TypeInfo} (h : P.info? t = some i) : (sizeOf t).run P w = .ok i.size w := by simp [sizeOf, typeInfo, h]
theorem add_addr (b o n : Nat) : (⟨b, o, none⟩ : Addr).add n = ⟨b, o + n, none⟩ := by
  unfold Addr.add
  split
  · subst n; rfl
  · rfl
/-- A field's place. -/
def fieldV (P : Program) (t : TypeId) (f : Nat) : Value → Option Value
  | .pointer (some ⟨x, o, none⟩) =>
    match P.underlying t with
    | some (.struct fs) =>
      match fs[f]? with
      | some fd => match P.info? fd.type with
        | some i => if i.size = 0 then none else some (.pointer (some ⟨x, o + fd.offset, none⟩))
        | none => none
      | none => none
    | _ => none
  | _ => none
theorem fieldV_ok {t : TypeId} {f : Nat} {v v' r : Value} (h : fieldV P t f v = some r) (hv : VR σ v v') : ∃ r', (Instr.fieldAt t v' f).run P w = .ok r' w ∧ VR σ r r' := by
  unfold fieldV at h
  split at h
  · rename_i x o
    cases hv with
    | ptr _ _ b κ hx =>
    split at h
    · rename_i fs hd
      split at h
      · rename_i fd hf
        split at h
        · rename_i i hti
          split at h
          · cases h
          · rename_i hz
            cases h
            refine ⟨.pointer (some ⟨b, o + fd.offset, none⟩), ?_, .ptr _ _ _ _ hx⟩
            simp [Instr.fieldAt, run_underlying hd, hf, Instr.sureAddr, fieldPlace, info_run hti, hz, add_addr]
        · cases h
      · cases h
    · cases h
  · cases h
/-- A part of a struct or an array. -/
def partV (P : Program) (t : TypeId) (cs : List Value) (o : Nat) : Option Value :=
  match P.underlying t, P.info? t with
  | some d, some i => if d.isRow then some (.agg ((cs.drop o).take i.size).toArray) else cs[o]?
  | _, _ => none
theorem partV_ok {t : TypeId} {o : Nat} {cs cs' : List Value} {r : Value} (h : partV P t cs o = some r) (hc : VRs σ cs cs') : ∃ r', (part t cs'.toArray o).run P w = .ok r' w ∧ VR σ r r' := by
  unfold partV at h
  split at h
  · rename_i d i hd hti
    split at h
    · rename_i hrow
      cases h
      refine ⟨.agg ((cs'.drop o).take i.size).toArray, ?_, .agg' ((hc.drop o).take _)⟩
      simp [part, isAgg_run hd, hrow, info_run hti, List.take_drop]
    · rename_i hrow
      obtain ⟨r', h1, h2⟩ := hc.get h
      refine ⟨r', ?_, h2⟩
      have hrow' : d.isRow = false := by simpa using hrow
      simp [part, isAgg_run hd, hrow', h1]
  · cases h
def fieldOf (P : Program) (t : TypeId) (f : Nat) : Value → Option Value
  | .agg cs =>
    match P.underlying t with
    | some (.struct fs) => match fs[f]? with
      | some fd => partV P fd.type cs.toList fd.offset
      | none => none
    | _ => none
  | _ => none
theorem fieldOf_ok {t : TypeId} {f : Nat} {v v' r : Value} (h : fieldOf P t f v = some r) (hv : VR σ v v') : ∃ r', (Instr.field t v' f).run P w = .ok r' w ∧ VR σ r r' := by
  unfold fieldOf at h
  split at h
  · obtain ⟨c', rfl, hc⟩ := hv.of_agg
    split at h
    · rename_i fs hd
      split at h
      · rename_i fd hf
        obtain ⟨r', h1, h2⟩ := partV_ok (w := w) h hc
        refine ⟨r', ?_, h2⟩
        simp only [Array.toArray_toList] at h1
        simp [Instr.field, run_underlying hd, hf, asAgg, h1]
      · cases h
    · cases h
  · cases h
/-- An element's place. -/
def indexAddrV (P : Program) (t : TypeId) : Value → Value → Option Value
  | .slice (some ⟨x, o, none⟩) n c, .int _ i =>
    match P.underlying t with
    | some (.slice e) => match P.info? e with
      | some ie => if 0 ≤ i ∧ i < n then if c < anyMark then some (.pointer (some ⟨x, o + i.toNat * ie.size, none⟩)) else none else none
      | none => none
    | _ => none
  | .pointer (some ⟨x, o, none⟩), .int _ i =>
    match P.underlying t with
    | some (.array n e) => match P.info? e with
      | some ie => if 0 ≤ i ∧ i < n then some (.pointer (some ⟨x, o + i.toNat * ie.size, none⟩)) else none
      | none => none
    | _ => none
  | _, _ => none
theorem indexAddrV_ok {t : TypeId} {v v' i i' r : Value} (h : indexAddrV P t v i = some r) (hv : VR σ v v') (hi : VR σ i i') : ∃ r', (Instr.indexAt t v' i').run P w = .ok r' w ∧ VR σ r r' := by
  unfold indexAddrV at h
  split at h
  · cases hi
    split at h
    · rename_i e hd
      split at h
      · rename_i ie hti
        split at h
        · rename_i hb
          split at h
          · rename_i hany
            cases h
            cases hv with
            | sl x o n c b κ c' hx hc hn hl =>
              refine ⟨_, ?_, .ptr _ _ _ _ hx⟩
              simp [Instr.indexAt, asIntOf, run_underlying hd, hb, info_run hti, add_addr]
            | empty a a' c c' hc => omega
          · cases h
        · cases h
      · cases h
    · cases h
  · cases hi
    split at h
    · rename_i n e hd
      split at h
      · rename_i ie hti
        split at h
        · rename_i hb
          cases h
          cases hv with
          | ptr x o b κ hx =>
            refine ⟨_, ?_, .ptr _ _ _ _ hx⟩
            simp [Instr.indexAt, asIntOf, run_underlying hd, Instr.sureAddr, hb, info_run hti, add_addr]
        · cases h
      · cases h
    · cases h
  · cases h
def indexV (P : Program) (t : TypeId) : Value → Value → Option Value
  | .agg cs, .int _ i =>
    match P.underlying t with
    | some (.array n e) => match P.info? e with
      | some ie => if 0 ≤ i ∧ i < n then partV P e cs.toList (i.toNat * ie.size) else none
      | none => none
    | _ => none
  | .string s, .int _ i =>
    match P.underlying t with
    | some .string => if 0 ≤ i then (s.data.toList[i.toNat]?).map fun b => .int .u8 b.toNat else none
    | _ => none
  | _, _ => none
theorem indexV_ok {t : TypeId} {v v' i i' r : Value} (h : indexV P t v i = some r) (hv : VR σ v v') (hi : VR σ i i') : ∃ r', (Instr.index t v' i').run P w = .ok r' w ∧ VR σ r r' := by
  unfold indexV at h
  split at h
  · cases hi
    obtain ⟨c', rfl, hc⟩ := hv.of_agg
    split at h
    · rename_i n e hd
      split at h
      · rename_i ie hti
        split at h
        · rename_i hb
          obtain ⟨r', h1, h2⟩ := partV_ok (w := w) h hc
          refine ⟨r', ?_, h2⟩
          simp only [Array.toArray_toList] at h1
          simp [Instr.index, asIntOf, run_underlying hd, hb, info_run hti, h1]
        · cases h
      · cases h
    · cases h
  · rename_i s k i
    cases hi
    cases hv
    split at h
    · rename_i hd
      split at h
      · rename_i h0
        cases hb : s.data.toList[i.toNat]? with
        | none => simp [hb] at h
        | some u =>
          simp only [hb, Option.map_some, Option.some.injEq] at h
          subst h
          refine ⟨_, ?_, .int _ _⟩
          have hlt : i.toNat < s.size := by
            have := (List.getElem?_eq_some_iff.1 hb).1
            simpa using this
          have hu : s[i.toNat] = u := by
            have := (List.getElem?_eq_some_iff.1 hb).2
            show s.data[i.toNat] = u
            simpa using this
          rw [run_index_string _ t s _ i hd, dif_pos ⟨h0, by omega⟩, hu]
      · cases h
    · cases h
  · cases h
end
end
end Go.Proofs.YtimlldedpbbeoaaGreat
