/- The abstract run: what writes: stores, appends, copies, calls. -/
import Derived.Test.YtimlldedpbbeoaaGreatXG
import Derived.Maps.AppendAt
namespace Go.Proofs.YtimlldedpbbeoaaGreat
open Go.RowKit
noncomputable section

section
variable {P : Program} {B : Ctx} {σ : Sg} {s : St} {w : World}
def splice (cs : List Value) (o : Nat) (vs : List Value) : List Value := cs.take o ++ vs ++ cs.drop (o + vs.length)
theorem splice_length {cs vs : List Value} {o : Nat} (h : o + vs.length ≤ cs.length) : (splice cs o vs).length = cs.length := by simp [splice]; omega
theorem splice_at {cs vs : List Value} {o i : Nat} (h : o + vs.length ≤ cs.length) : (splice cs o vs)[i]? = if o ≤ i ∧ i < o + vs.length then vs[i - o]? else cs[i]? := by
  unfold splice
  have hl : (cs.take o).length = o := by simp; omega
  rw [List.append_assoc, List.getElem?_append, hl]
  by_cases h1 : i < o
  · rw [if_pos h1, if_neg (by omega), List.getElem?_take, if_pos h1]
  · rw [if_neg h1, List.getElem?_append]
    by_cases h2 : i - o < vs.length
    · rw [if_pos h2, if_pos (by omega)]
    · rw [if_neg h2, if_neg (by omega), List.getElem?_drop, show o + vs.length + (i - o - vs.length) = i by omega]
theorem Inv.foot (hi : Inv P B σ s w) {b : Nat} (h : Foot σ s b) : B.w.heap.size ≤ b := by
  obtain ⟨x, o, κ, h1, h2⟩ := h
  obtain ⟨b1, κ1, q1, q2, _⟩ := hi.live x o h1
  rw [h2] at q1; cases q1
  exact q2
theorem write_stp (hi : Inv P B σ s w) {x o b κ : Nat} {cs vs vs' : List Value} {e : TypeId} {room : Option Nat} (hg : s.h.get x = some (.row cs e room)) (hx : σ x = some (b, κ)) (hv : VRs σ vs vs') (hb : o + vs.length ≤ cs.length) :
    Stp P B σ s w σ ⟨s.next, s.h.set 40 x (some (.row (splice cs o vs) e room))⟩ (w.setCells b o vs') := by
  obtain ⟨b1, κ1, q1, q2, cur, q3, q4, q5, q6, q7⟩ := hi.live x _ hg
  rw [hx] at q1; cases q1
  have hfr : Fr (Foot σ s) w (w.setCells b o vs') := fr_setCells (S := Foot σ s) (a := w) ⟨x, _, _, hg, hx⟩ vs' o (Fr.refl _ _)
  have hnew := block_setCells vs' o q3
  have hsz : (setL cur o vs').size = cur.size := setL_size vs' cur o
  refine ⟨⟨hi.base.trans (hfr.below hi.base.size (fun k hk hf => by have := hi.foot hf; omega)), hi.own, hi.dom, fun y ob hy => ?_, fun y z o1 o2 b1 κ1 κ2 h1 h2 h3 h4 => ?_⟩, fun _ _ => rfl, Nat.le_refl _, hfr, fun b1 hb1 hf => ?_, fun y hy hn => ?_, rfl⟩
  · simp only [Tr.get_set] at hy
    split at hy
    · rename_i he
      subst he
      cases hy
      refine ⟨b, κ, hx, q2, setL cur o vs', hnew, by rw [hsz, splice_length hb]; exact q4, ?_, q6, by rw [hsz]; exact q7⟩
      rw [splice_length hb]
      have hcl : o + vs'.length ≤ cur.size := by rw [← hv.1]; omega
      refine ⟨by rw [splice_length hb]; simp [hsz]; omega, fun i v v' p q => ?_⟩
      rw [splice_at hb] at p
      rw [List.getElem?_take] at q
      split at q
      · rename_i hil
        rw [Array.getElem?_toList, setL_at vs' cur o i hcl] at q
        by_cases hr : o ≤ i ∧ i < o + vs.length
        · rw [if_pos hr] at p
          rw [if_pos (by rw [← hv.1]; exact hr)] at q
          exact hv.2 _ v v' p q
        · rw [if_neg hr] at p
          rw [if_neg (by rw [← hv.1]; exact hr)] at q
          exact q5.2 i v v' p (by rw [List.getElem?_take, if_pos hil]; simpa using q)
      · cases q
    · rename_i hne
      obtain ⟨b2, κ2, r1, r2, r3⟩ := hi.live y ob hy
      refine ⟨b2, κ2, r1, r2, ?_⟩
      have hbne : b2 ≠ b := fun e => hne (hi.inj y x _ _ b κ2 κ hy hg (e ▸ r1) hx)
      have := (fr_setCells (S := fun j => j = b) (a := w) rfl vs' o (Fr.refl _ w)).block b2 (hi.lt hy r1) hbne
      rw [this]
      exact r3
  · simp only [Tr.get_set] at h1 h2
    have get : ∀ {y : Nat} {ob : AObj}, (if y = x then some (.row (splice cs o vs) e room) else s.h.get y) = some ob → ∃ ob', s.h.get y = some ob' := by
      intro y ob h
      split at h
      · rename_i he; subst he; exact ⟨_, hg⟩
      · exact ⟨_, h⟩
    obtain ⟨_, g1⟩ := get h1
    obtain ⟨_, g2⟩ := get h2
    exact hi.inj y z _ _ b1 κ1 κ2 g1 g2 h3 h4
  · obtain ⟨y, ob, κ1, h1, h2⟩ := hf
    simp only [Tr.get_set] at h1
    split at h1
    · rename_i he; subst he; exact ⟨y, _, κ1, hg, h2⟩
    · exact ⟨y, ob, κ1, h1, h2⟩
  · simp only [Tr.get_set]
    rw [if_neg (fun e => by subst e; rw [hg] at hn; cases hn)]
    exact hn
theorem write_run (hi : Inv P B σ s w) {x o b κ : Nat} {cs vs vs' : List Value} {e : TypeId} {room : Option Nat} (hg : s.h.get x = some (.row cs e room)) (hx : σ x = some (b, κ)) (hv : VRs σ vs vs') (hb : o + vs.length ≤ cs.length) (h1 : vs.all (·.oneCell') = true) :
    (storeCells ⟨b, o, none⟩ vs' 0).run P w = .ok () (w.setCells b o vs') := by
  obtain ⟨b1, κ1, q1, q2, cur, q3, q4, q5, q6, q7⟩ := hi.live x _ hg
  rw [hx] at q1; cases q1
  have hl := hv.1
  refine run_storeCells_cells b o vs' 0 w (fun j hj => ?_) (fun j hj => ?_) (fun v' hv' => ?_)
  · rw [cell_of_block q3, Array.getElem?_eq_getElem (by omega)]; rfl
  · exact free_of_block q3 _
  · obtain ⟨i, hi', he⟩ := List.getElem_of_mem hv'
    have hlt : i < vs.length := by omega
    have := hv.2 i vs[i] v' (List.getElem?_eq_getElem hlt) (by rw [List.getElem?_eq_getElem hi', he])
    rw [this.one]
    exact List.all_eq_true.1 h1 _ (List.getElem_mem hlt)
def storeS (P : Program) (s : St) (t : TypeId) (p v : Value) : Option St :=
  match p with
  | .pointer (some ⟨x, o, none⟩) => match s.h.get x, P.info? t with
    | some (.row cs e room), some i => if v.cells.size = i.size ∧ o + v.cells.toList.length ≤ cs.length ∧ v.cells.toList.all (·.oneCell') = true then some ⟨s.next, s.h.set 40 x (some (.row (splice cs o v.cells.toList) e room))⟩ else none
    | _, _ => none
  | _ => none
theorem storeS_ok (hi : Inv P B σ s w) {t : TypeId} {p v p' v' : Value} {s' : St} (h : storeS P s t p v = some s') (hp : VR σ p p') (hv : VR σ v v') : ∃ w', (Instr.storeAt t p' v').run P w = .ok () w' ∧ Stp P B σ s w σ s' w' := by
  unfold storeS at h
  split at h
  · rename_i x o
    cases hp with
    | ptr _ _ b κ hx =>
    split at h
    · rename_i cs e room i hg hti
      split at h
      · rename_i hc
        obtain ⟨c1, c2, c3⟩ := hc
        cases h
        refine ⟨w.setCells b o v'.cells.toList, ?_, write_stp hi hg hx hv.cells c2⟩
        have hsz : v'.cells.size = i.size := by have := hv.cells.1; simp at this; omega
        have hr := write_run hi hg hx hv.cells c2 c3
        simp [Instr.storeAt, Instr.sureAddr, storeVar, info_run hti, hsz, hr]
      · cases h
    · cases h
  · cases h
/-- The elements of a slice. -/
def srcV (h : Tr AObj) (size : Nat) : Value → Option (Nat × List Value)
  | .slice none 0 _ => some (0, [])
  | .slice (some ⟨y, q, none⟩) m c => if m = 0 then some (0, []) else if anyMark ≤ c then none else match rowAt h y q (m * size) with
    | some cs => some (m, cs)
    | none => none
  | _ => none
theorem srcV_ok (hi : Inv P B σ s w) {size m : Nat} {v v' : Value} {cs : List Value} (h : srcV s.h size v = some (m, cs)) (hv : VR σ v v') : ∃ A c cs', v' = .slice A m c ∧ VRs σ cs cs' ∧ cs.length = m * size ∧ (m = 0 → cs = []) ∧ (Builtin.firstCells size m v').run P w = .ok cs'.toArray w ∧ (0 < m → ∃ a, A = some a ∧ ∀ j u, cs'[j]? = some u → w.cell? (a.add j) = some u) := by
  unfold srcV at h
  split at h
  · cases h
    cases hv
    exact ⟨none, _, [], rfl, VRs.nil _, by simp, fun _ => rfl, by simp [Builtin.firstCells], fun h => by omega⟩
  · rename_i y q m' c
    split at h
    · rename_i hm
      cases h
      subst hm
      cases hv
      · exact ⟨_, _, [], rfl, VRs.nil _, by simp, fun _ => rfl, by simp [Builtin.firstCells, loadCells, loadCellsFrom], fun h => by omega⟩
      · exact ⟨_, _, [], rfl, VRs.nil _, by simp, fun _ => rfl, by simp [Builtin.firstCells, loadCells, loadCellsFrom], fun h => by omega⟩
    · rename_i hm
      split at h
      · cases h
      · rename_i hany
        split at h
        · rename_i cs1 hr
          cases h
          cases hv with
          | empty _ _ _ _ hc => exact absurd rfl hm
          | sl _ _ _ _ b κ c' hx hc _ hn =>
            obtain ⟨cs', h1, h2⟩ := rowAt_ok hi hr hx
            have hl := rowAt_len hr
            have hcell : ∀ j u, cs'[j]? = some u → w.cell? ((⟨b, q, none⟩ : Addr).add j) = some u := fun j u hj => by rw [add_addr]; exact h2 j u hj
            refine ⟨some ⟨b, q, none⟩, c', cs', rfl, h1, hl, fun h => absurd h hm, ?_, fun _ => ⟨_, rfl, hcell⟩⟩
            have := run_loadCells_list (P := P) (w := w) ⟨b, q, none⟩ cs' hcell
            rw [← h1.1, hl] at this
            exact this
        · cases h
  · cases h
/-- Where nothing is appended, or room is known, or it may grow. -/
def appendS (P : Program) (s : St) (ts : List TypeId) (v u : Value) : Option (Value × St) :=
  match ts with
  | [t, t'] => if t = t' then match P.underlying t with
    | some (.slice e) => match zeroOf P e with
      | some (z, size, bytes) => if size = 0 ∨ z.length ≠ size then none else match srcV s.h size u with
        | some (m, cs) => if cs.all (·.oneCell') = false then none else
          match v with
          | .slice none 0 0 => if m = 0 then some (v, s) else
            if m ≤ maxLen ∧ m * bytes ≤ 140737488355328 then some (.slice (some ⟨s.next, 0, none⟩) m grownMark, ⟨s.next + 1, s.h.set 40 s.next (some (.row cs e none))⟩) else none
          | .slice (some ⟨x, o, none⟩) n c =>
            if anyMark ≤ c then none else
            if m = 0 then some (v, s) else
            match s.h.get x with
            | some (.row ds e' room) => if e' ≠ e then none else
              if o + (n + m) * size ≤ ds.length ∧ ((c < grownMark ∧ n + m ≤ c) ∨ (grownMark ≤ c ∧ room = none ∧ o = (c - grownMark) * size)) then
                some (.slice (some ⟨x, o, none⟩) (n + m) c, ⟨s.next, s.h.set 40 x (some (.row (splice ds (o + n * size) cs) e' room))⟩)
              else if o = 0 ∧ n * size ≤ ds.length ∧ ((c ≤ maxLen ∧ room = some (c * size)) ∨ (c = grownMark ∧ room = none)) ∧ n + m ≤ maxLen ∧ (n + m) * bytes ≤ 140737488355328 then
                some (.slice (some ⟨s.next, 0, none⟩) (n + m) grownMark, ⟨s.next + 1, (s.h.set 40 x none).set 40 s.next (some (.row (ds.take (n * size) ++ cs) e none))⟩)
              else none
            | _ => none
          | _ => none
        | none => none
      | none => none
    | _ => none
    else none
  | _ => none
/-- A row that was appended to: in place, or anew. -/
theorem own_stp (hi : Inv P B σ s w) {w' : World} {v' : Value} {old : Option Nat} {n size : Nat} {e : TypeId} {ds ds' : List Value} (hsz : P.cellsOf e = size) (hn : 0 < n) (_hs : 0 < size) (hown : w'.ownsRow B.w.heap.size e size v' n ds') (hgr : w.grownBy w' old) (hat : v'.ownBlock = old ∨ v'.ownBlock = some w.heap.size) (hd : VRs σ ds ds')
    {h' : Tr AObj} (hsub : ∀ y o, h'.get y = some o → s.h.get y = some o) (hdead : ∀ y o b κ, h'.get y = some o → σ y = some (b, κ) → old ≠ some b) (hold : ∀ b, old = some b → b < w.heap.size ∧ Foot σ s b) :
    ∃ τ, VR τ (.slice (some ⟨s.next, 0, none⟩) n grownMark) v' ∧ Stp P B σ s w τ ⟨s.next + 1, h'.set 40 s.next (some (.row ds e none))⟩ w' := by
  have hlen := hown.1
  rcases hown.2 with ⟨_, h0⟩ | ⟨g, cap, cur, rfl, hB, hh, hc1, hc2, hc3, hc4⟩
  · omega
  have hxn := hi.dom s.next (Nat.le_refl _)
  have hfr : Fr (Foot σ s) w w' := ⟨hgr.os, hgr.tape, hgr.output, hgr.size, fun k hk hf => hgr.block k hk (fun e => hf (hold k e.symm).2)⟩
  have hgnew : g < w.heap.size → old = some g := fun hg => by
    rcases hat with h | h
    · exact h.symm
    · have : g = w.heap.size := by simpa [Value.ownBlock] using h
      omega
  have hle := Sg.le_put (b := g) (κ := cap) hxn
  refine ⟨σ.put s.next g cap, .sl _ _ _ _ g cap cap (Sg.put_same ..) ?_ (by unfold grownMark anyMark; omega) hc1, ⟨⟨hi.base.trans (hfr.below hi.base.size (fun k hk hf => by have := hi.foot hf; omega)), Sg.le_trans hi.own hle, fun y hy => ?_, fun y o hy => ?_, fun y z o o' b κ κ' h1 h2 h3 h4 => ?_⟩, fun y hy => Sg.put_other (by omega), Nat.le_succ _, hfr, fun b hb hf => ?_, fun y hy hn => ?_, rfl⟩⟩
  · unfold CapR; rw [if_neg (by unfold grownMark anyMark; omega), if_pos (Nat.le_refl _)]; omega
  · rw [Sg.put_other (by simp only [] at hy; omega)]
    exact hi.dom y (by simp only [] at hy; omega)
  · simp only [Tr.get_set] at hy
    split at hy
    · rename_i he
      subst he
      cases hy
      refine ⟨g, cap, Sg.put_same .., hB, cur, hh, ?_, ?_, hc2, by rw [hsz]; exact hc3⟩
      · rw [hd.1, hlen, hc3]; exact Nat.mul_le_mul_right _ hc1
      · rw [hd.1, hlen, hc4]
        exact hd.mono hle
    · rename_i hne
      have hy' := hsub y o hy
      obtain ⟨b, κ, q1, q2, q3⟩ := hi.live y o hy'
      refine ⟨b, κ, by rw [Sg.put_other hne]; exact q1, q2, ?_⟩
      rw [hgr.block b (hi.lt hy' q1) (fun e => hdead y o b κ hy q1 e.symm)]
      exact q3.mono hle
  · simp only [Tr.get_set] at h1 h2
    by_cases hy : y = s.next
    · subst hy
      by_cases hz : z = s.next
      · exact hz.symm
      · rw [if_neg hz] at h2
        rw [Sg.put_same] at h3
        rw [Sg.put_other hz] at h4
        cases h3
        have hlt := hi.lt (hsub z _ h2) h4
        exact absurd (hgnew hlt) (hdead z _ _ _ h2 h4)
    · rw [if_neg hy] at h1
      rw [Sg.put_other hy] at h3
      by_cases hz : z = s.next
      · subst hz
        rw [Sg.put_same] at h4
        cases h4
        have hlt := hi.lt (hsub y _ h1) h3
        exact absurd (hgnew hlt) (hdead y _ _ _ h1 h3)
      · rw [if_neg hz] at h2
        rw [Sg.put_other hz] at h4
        exact hi.inj y z _ _ b κ κ' (hsub y _ h1) (hsub z _ h2) h3 h4
  · obtain ⟨y, o, κ, h1, h2⟩ := hf
    simp only [Tr.get_set] at h1
    split at h1
    · rename_i he
      subst he
      rw [Sg.put_same] at h2
      simp only [Option.some.injEq, Prod.mk.injEq] at h2
      obtain ⟨rfl, _⟩ := h2
      exact (hold g (hgnew hb)).2
    · rename_i hne
      rw [Sg.put_other hne] at h2
      exact ⟨y, o, κ, hsub y o h1, h2⟩
  · simp only [Tr.get_set]
    rw [if_neg (by omega)]
    cases hc : h'.get y with
    | none => rfl
    | some o => rw [hsub y o hc] at hn; cases hn
theorem lenOf_slice {A : Option Addr} {m c : Nat} : (Builtin.lenOf (.slice A m c)).run P w = .ok m w := rfl
theorem append_fits {t ty e : TypeId} {A : Option Addr} {n c m : Nat} {u' : Value} {cs' : List Value} {size : Nat} {w' : World} (hu : P.underlying t = some (.slice e)) (hsz : (sizeOf e).run P w = .ok size w) (hroom : n + m ≤ c) (hA : ∃ B c1, u' = .slice B m c1)
    (hf : (Builtin.firstCells size m u').run P w = .ok cs'.toArray w) (hst : (match A with | some a => storeCells (a.add (n * size)) cs' 0 | none => pure ()).run P w = .ok () w') :
    (Builtin.append_ #[t, t] ty #[.slice A n c, u']).run P w = .ok (.slice A (n + m) c) w' := by
  obtain ⟨B', c1, rfl⟩ := hA
  cases A with
  | none =>
    simp only [Sem.run_pure, Result.ok.injEq, true_and] at hst
    subst hst
    simp [Builtin.append_, run_underlying hu, hsz, lenOf_slice, hroom, hf]
  | some a =>
    simp only [] at hst
    simp [Builtin.append_, run_underlying hu, hsz, lenOf_slice, hroom, hf, hst]
theorem appendS_ok (hi : Inv P B σ s w) {ts : Array TypeId} {ty : TypeId} {v u v' u' r : Value} {s' : St} (h : appendS P s ts.toList v u = some (r, s')) (hv : VR σ v v') (hu : VR σ u u') :
    ∃ r' w' τ, (Builtin.append_ ts ty #[v', u']).run P w = .ok r' w' ∧ VR τ r r' ∧ Stp P B σ s w τ s' w' := by
  unfold appendS at h
  split at h
  · rename_i t t' hts
    split at h
    · rename_i htt
      subst htt
      have hts' : ts = #[t, t] := Array.toList_inj.1 (by simpa using hts)
      subst hts'
      split at h
      · rename_i e hut
        split at h
        · rename_i z size bytes hz
          obtain ⟨i, zv, g1, g2, g3, g4, g5, _⟩ := zeroOf_spec hz
          split at h
          · cases h
          · rename_i hsz0
            have hs0 : 0 < size := by omega
            have hzl : z.length = size := by omega
            have hsize : (sizeOf e).run P w = .ok size w := by rw [info_run g1, g4]
            have hcells : P.cellsOf e = size := by simp [Program.cellsOf, g1, g4]
            have hzc : zv.cells.size = size := by rw [← g3] at hzl; simpa using hzl
            split at h
            · rename_i m cs hsrc
              obtain ⟨A, cc, cs', rfl, hcs, hcl, hm0, hfirst, hcell⟩ := srcV_ok hi hsrc hu
              split at h
              · cases h
              · rename_i hone
                have hone : cs.all (·.oneCell') = true := by simpa using hone
                have hone' : ∀ u ∈ cs', u.oneCell' = true := fun x hx => by
                  obtain ⟨j, hj, he⟩ := List.getElem_of_mem hx
                  have hlt : j < cs.length := by rw [hcs.1]; exact hj
                  have := hcs.2 j cs[j] x (List.getElem?_eq_getElem hlt) (by rw [List.getElem?_eq_getElem hj, he])
                  rw [this.one]
                  exact List.all_eq_true.1 hone _ (List.getElem_mem hlt)
                have hcl' : cs'.length = m * size := by rw [← hcs.1]; exact hcl
                have nothing : ∀ {A1 : Option Addr} {n c : Nat}, m = 0 → n ≤ c → (Builtin.append_ #[t, t] ty #[.slice A1 n c, .slice A m cc]).run P w = .ok (.slice A1 n c) w := by
                  intro A1 n c hm hn
                  subst hm
                  have hnil : cs' = [] := List.eq_nil_of_length_eq_zero (by rw [hcl']; simp)
                  have := append_fits (P := P) (w := w) (ty := ty) (A := A1) (n := n) (c := c) (m := 0) (w' := w) hut hsize (by omega) ⟨_, _, rfl⟩ hfirst (by subst hnil; cases A1 <;> rfl)
                  simpa using this
                split at h
                · cases hv
                  split at h
                  · rename_i hm
                    cases h
                    exact ⟨_, w, σ, nothing hm (Nat.le_refl _), .nils _ _, Stp.refl hi⟩
                  · rename_i hm
                    split at h
                    · rename_i hb
                      cases h
                      obtain ⟨a, rfl, hca⟩ := hcell (by omega)
                      obtain ⟨v1, w1, p1, p2, p3, _, p5⟩ := run_append_own_at (P := P) w B.w.heap.size t ty e i zv size bytes hut g1 g2 g4 g5 hzc hs0 (.slice none 0 0) 0 [] (World.ownsRow_nil _ _ _ _) a m cc cs' hcl' hca hone' (by simpa using hb.1) (by simpa using hb.2) hi.base.size
                      simp only [Nat.zero_add, List.nil_append] at p2
                      obtain ⟨τ, r1, r2⟩ := own_stp hi hcells (by omega) hs0 p2 p3 p5 hcs (h' := s.h) (fun _ _ h => h) (fun _ _ _ _ _ _ => by simp [Value.ownBlock]) (fun b h => by cases h)
                      exact ⟨v1, w1, τ, p1, r1, r2⟩
                    · cases h
                · rename_i x o n c
                  split at h
                  · cases h
                  · rename_i hany
                    cases hv with
                    | empty _ _ _ _ hc => exact absurd hc hany
                    | sl _ _ _ _ b κ c' hx hc _ hn =>
                    split at h
                    · rename_i hm
                      cases h
                      exact ⟨_, w, σ, nothing hm hn, .sl _ _ _ _ _ _ _ hx hc (by omega) hn, Stp.refl hi⟩
                    · rename_i hm
                      split at h
                      · rename_i ds e' room hg
                        obtain ⟨b1, κ1, q1, qB, cur, q3, q4, q5, q6, q7⟩ := hi.live x _ hg
                        rw [hx] at q1; cases q1
                        split at h
                        · cases h
                        · rename_i hee
                          have hee : e' = e := by simpa using hee
                          subst hee
                          split at h
                          · rename_i hfit
                            cases h
                            have hroom : n + m ≤ c' := by
                              rcases hfit.2 with ⟨k1, k2⟩ | ⟨k1, k2, k3⟩
                              · unfold CapR at hc; rw [if_neg hany, if_neg (by omega)] at hc; omega
                              · unfold CapR at hc; rw [if_neg hany, if_pos k1] at hc
                                subst k2
                                simp only [hcells] at q7
                                have h5 : ((c - grownMark) + (n + m)) * size ≤ κ * size := by
                                  rw [Nat.add_mul, ← k3]
                                  omega
                                have := Nat.le_of_mul_le_mul_right h5 hs0
                                omega
                            have hfit1 : o + n * size + cs.length ≤ ds.length := by
                              have := hfit.1
                              rw [Nat.add_mul] at this
                              rw [hcl]
                              omega
                            refine ⟨_, _, σ, append_fits hut hsize hroom ⟨_, _, rfl⟩ hfirst (w' := w.setCells b (o + n * size) cs') ?_, .sl _ _ _ _ b κ c' hx ?_ (by omega) hroom, write_stp hi hg hx hcs hfit1⟩
                            · simp only [add_addr]
                              exact write_run hi hg hx hcs hfit1 hone
                            · unfold CapR at hc ⊢
                              rw [if_neg hany] at hc ⊢
                              exact hc
                          · split at h
                            · rename_i hfit
                              obtain ⟨k1, k2, k3, k4, k5⟩ := hfit
                              cases h
                              subst k1
                              obtain ⟨a, rfl, hca⟩ := hcell (by omega)
                              have hcap : cur.size = c' * size ∧ c' ≤ maxLen := by
                                rcases k3 with ⟨k1, k2⟩ | ⟨k1, k2⟩
                                · unfold CapR at hc; rw [if_neg hany, if_neg (by unfold maxLen at k1; unfold grownMark; omega)] at hc
                                  subst k2 hc
                                  exact ⟨q7, k1⟩
                                · unfold CapR at hc; rw [if_neg hany, if_pos (by omega)] at hc
                                  subst k2
                                  simp only [hcells] at q7
                                  have : c' = κ := by omega
                                  subst this
                                  exact ⟨q7, q6⟩
                              have hxs : (cur.toList.take (n * size)).length = n * size := by simp; omega
                              have hown : w.ownsRow B.w.heap.size e' size (.slice (some ⟨b, 0, none⟩) n c') n (cur.toList.take (n * size)) := ⟨hxs, .inr ⟨b, c', cur, rfl, qB, q3, hn, hcap.2, hcap.1, rfl⟩⟩
                              obtain ⟨v1, w1, p1, p2, p3, _, p5⟩ := run_append_own_at (P := P) w B.w.heap.size t ty e' i zv size bytes hut g1 g2 g4 g5 hzc hs0 _ n _ hown a m cc cs' hcl' hca hone' k4 k5 hi.base.size
                              have hd : VRs σ (ds.take (n * size) ++ cs) (cur.toList.take (n * size) ++ cs') := by
                                refine VRs.append ?_ hcs
                                have := q5.take (n * size)
                                rw [List.take_take, Nat.min_eq_left k2] at this
                                exact this
                              obtain ⟨τ, r1, r2⟩ := own_stp hi hcells (by omega) hs0 p2 p3 p5 hd (h' := s.h.set 40 x none) (fun y o h => by
                                  rw [Tr.get_set] at h
                                  split at h
                                  · cases h
                                  · exact h) (fun y o b1 κ1 h1 h2 he => by
                                  rw [Tr.get_set] at h1
                                  split at h1
                                  · cases h1
                                  · rename_i hne
                                    have he : b = b1 := by simpa [Value.ownBlock] using he
                                    subst he
                                    exact hne (hi.inj y x _ _ b κ1 κ h1 hg h2 hx)) (fun b1 h => by
                                  have h : b = b1 := by simpa [Value.ownBlock] using h
                                  subst h
                                  exact ⟨lt_of_block q3, x, _, _, hg, hx⟩)
                              exact ⟨v1, w1, τ, p1, r1, r2⟩
                            · cases h
                      · cases h
                · cases h
            · cases h
        · cases h
      · cases h
    · cases h
  · cases h
theorem Stp.forget {τ : Sg} {t t' : St} {w' : World} (h : Stp P B σ s w τ t w') (hs : ∀ x o, t'.h.get x = some o → t.h.get x = some o) (hn : t.next = t'.next) : Stp P B σ s w τ t' w' :=
  ⟨⟨h.inv.base, h.inv.own, fun x hx => h.inv.dom x (by omega), fun x o hx => h.inv.live x o (hs x o hx), fun x y o o' b κ κ' h1 h2 => h.inv.inj x y o o' b κ κ' (hs x o h1) (hs y o' h2)⟩, h.old, by have := h.nle; omega, h.fr,
   (fun b hb hf => h.sub b hb (by obtain ⟨x, o, κ, q1, q2⟩ := hf; exact ⟨x, o, κ, hs x o q1, q2⟩)), (fun x hx hn => by
     cases hc : t'.h.get x with
     | none => rfl
     | some o => have := hs x o hc; rw [h.keep x hx hn] at this; cases this), h.ext⟩
theorem Stp.idle (hi : Inv P B σ s w) {t' : St} (hs : ∀ x o, t'.h.get x = some o → s.h.get x = some o) (hn : s.next ≤ t'.next) : Stp P B σ s w σ t' w :=
  ⟨⟨hi.base, hi.own, fun x hx => hi.dom x (by omega), fun x o hx => hi.live x o (hs x o hx), fun x y o o' b κ κ' h1 h2 => hi.inj x y o o' b κ κ' (hs x o h1) (hs y o' h2)⟩, fun _ _ => rfl, hn, Fr.refl _ _,
   (fun b hb hf => by obtain ⟨x, o, κ, q1, q2⟩ := hf; exact ⟨x, o, κ, hs x o q1, q2⟩), (fun x hx hn => by
     cases hc : t'.h.get x with
     | none => rfl
     | some o => have := hs x o hc; rw [hn] at this; cases this), rfl⟩
/-- A slice from without is appended to an empty one. -/
def appendO (P : Program) (s : St) (ts : List TypeId) (v u : Value) : Option (Value × St) :=
  match ts, u with
  | [t, t'], .complex .f32 _ c => if t = t' then match P.underlying t with
    | some (.slice e) => match zeroOf P e with
      | some (z, size, bytes) => if size = 1 ∧ z.length = 1 ∧ highOf c ≤ maxLen ∧ highOf c * bytes ≤ 140737488355328 then
          match v with
          | .slice none 0 0 => some (.chan none, ⟨s.next + 1, s.h⟩)
          | .slice (some ⟨x, 0, none⟩) 0 0 => match s.h.get x with
            | some (.row _ e' (some 0)) => if e' = e then some (.chan none, ⟨s.next + 1, s.h.set 40 x none⟩) else none
            | _ => none
          | _ => none
        else none
      | none => none
    | _ => none
    else none
  | _, _ => none
theorem appendO_ok (hi : Inv P B σ s w) {ts : Array TypeId} {ty : TypeId} {v u v' u' r : Value} {s' : St} (h : appendO P s ts.toList v u = some (r, s')) (hv : VR σ v v') (hu : VR σ u u') :
    ∃ r' w' τ, (Builtin.append_ ts ty #[v', u']).run P w = .ok r' w' ∧ VR τ r r' ∧ Stp P B σ s w τ s' w' := by
  unfold appendO at h
  split at h
  · rename_i t t' j c hts
    split at h
    · rename_i htt
      subst htt
      have hts' : ts = #[t, t] := Array.toList_inj.1 (by simpa using hts)
      subst hts'
      cases hu with
      | slc _ _ A m cc hj hlo hhi =>
      split at h
      · rename_i e hut
        split at h
        · rename_i z size bytes hz
          obtain ⟨i, zv, g1, g2, g3, g4, g5, _⟩ := zeroOf_spec hz
          split at h
          · rename_i hc
            obtain ⟨rfl, hzl, hb1, hb2⟩ := hc
            have hsize : (sizeOf e).run P w = .ok 1 w := by rw [info_run g1, g4]
            have hcells : P.cellsOf e = 1 := by simp [Program.cellsOf, g1, g4]
            have hzc : zv.cells.size = 1 := by rw [← g3] at hzl; simpa using hzl
            have hmb1 : m ≤ maxLen := Nat.le_trans hhi hb1
            have hmb2 : m * bytes ≤ 140737488355328 := Nat.le_trans (Nat.mul_le_mul_right _ hhi) hb2
            have hj' : B.σ.ext j = .slice A m cc := by rw [← hi.own.2]; exact hj
            have nothing : ∀ {A1 : Option Addr}, m = 0 → (Builtin.append_ #[t, t] ty #[.slice A1 0 0, .slice A m cc]).run P w = .ok (.slice A1 0 0) w := by
              intro A1 hm
              subst hm
              have hfirst : (Builtin.firstCells 1 0 (.slice A 0 cc)).run P w = .ok ([] : List Value).toArray w := by
                cases A <;> simp [Builtin.firstCells, loadCells, loadCellsFrom]
              have := append_fits (P := P) (w := w) (ty := ty) (A := A1) (n := 0) (c := 0) (m := 0) (w' := w) hut hsize (by omega) ⟨_, _, rfl⟩ hfirst (by cases A1 <;> rfl)
              simpa using this
            have some_ : 0 < m → ∃ (a : Addr) (cs' : List Value), A = some a ∧ cs'.length = m * 1 ∧ (∀ u ∈ cs', u.oneCell' = true) ∧ ∀ j u, cs'[j]? = some u → w.cell? (a.add j) = some u := by
              intro hm
              rcases B.rd j A m cc hj' with h0 | ⟨g, o, rfl, hg, cs, q1, q2, q3⟩
              · omega
              · refine ⟨_, cs, rfl, by omega, q2, fun k u hk => ?_⟩
                rw [add_addr, hi.base.cell (p := ⟨g, o + k, none⟩) hg]
                exact q3 k u hk
            have grow : ∀ {v0 : Value} {xs : List Value} {h' : Tr AObj}, 0 < m → w.ownsRow B.w.heap.size e 1 v0 0 xs → xs = [] → (∀ y o, h'.get y = some o → s.h.get y = some o) → (∀ y o b κ, h'.get y = some o → σ y = some (b, κ) → v0.ownBlock ≠ some b) → (∀ b, v0.ownBlock = some b → b < w.heap.size ∧ Foot σ s b) →
                ∃ r' w' τ, (Builtin.append_ #[t, t] ty #[v0, .slice A m cc]).run P w = .ok r' w' ∧ VR τ (.chan none) r' ∧ Stp P B σ s w τ ⟨s.next + 1, h'⟩ w' := by
              intro v0 xs h' hm hown hxs hsub hdead hold
              subst hxs
              obtain ⟨a, cs', rfl, hl, hone, hca⟩ := some_ hm
              obtain ⟨v1, w1, p1, p2, p3, _, p5⟩ := run_append_own_at (P := P) w B.w.heap.size t ty e i zv 1 bytes hut g1 g2 g4 g5 hzc Nat.one_pos v0 0 [] hown a m cc cs' hl hca hone (by omega) (by rw [Nat.zero_add]; exact hmb2) hi.base.size
              simp only [Nat.zero_add, List.nil_append] at p2
              have hvrs : VRs σ (List.replicate cs'.length (.chan none)) cs' := ⟨by simp, fun k a b p q => by
                rw [List.getElem?_replicate] at p
                split at p
                · cases p; exact .any _ (hone _ (List.mem_of_getElem? q))
                · cases p⟩
              obtain ⟨τ, r1, r2⟩ := own_stp hi hcells (by omega) Nat.one_pos p2 p3 p5 hvrs hsub hdead hold
              refine ⟨v1, w1, τ, p1, .any _ r1.one, r2.forget (t' := ⟨s.next + 1, h'⟩) (fun x o hx => ?_) rfl⟩
              simp only [Tr.get_set]
              split
              · rename_i he
                subst he
                have := hsub _ _ hx
                obtain ⟨b, κ, q1, _⟩ := hi.live _ _ this
                rw [hi.dom s.next (Nat.le_refl _)] at q1; cases q1
              · exact hx
            split at h
            · cases h
              cases hv
              by_cases hm : m = 0
              · exact ⟨_, w, σ, nothing hm, .any _ rfl, Stp.idle hi (fun _ _ h => h) (Nat.le_succ _)⟩
              · exact grow (by omega) (World.ownsRow_nil _ _ _ _) rfl (fun _ _ h => h) (fun _ _ _ _ _ _ => by simp [Value.ownBlock]) (fun b h => by cases h)
            · rename_i x
              split at h
              · rename_i ds e' hg
                split at h
                · rename_i hee
                  subst hee
                  cases h
                  have hsub : ∀ y o, (s.h.set 40 x none).get y = some o → s.h.get y = some o := fun y o h => by
                    rw [Tr.get_set] at h
                    split at h
                    · cases h
                    · exact h
                  cases hv with
                  | empty _ _ _ _ hc => exact absurd hc (by unfold anyMark; omega)
                  | sl _ _ _ _ b κ c' hx hc _ hn =>
                    obtain ⟨b1, κ1, q1, qB, cur, q3, q4, q5, q6, q7⟩ := hi.live x _ hg
                    rw [hx] at q1; cases q1
                    unfold CapR anyMark grownMark at hc
                    rw [if_neg (by omega), if_neg (by omega)] at hc
                    subst hc
                    by_cases hm : m = 0
                    · exact ⟨_, w, σ, nothing hm, .any _ rfl, Stp.idle hi hsub (Nat.le_succ _)⟩
                    · have hown : w.ownsRow B.w.heap.size e' 1 (.slice (some ⟨b, 0, none⟩) 0 0) 0 [] := ⟨by simp, .inr ⟨b, 0, cur, rfl, qB, q3, Nat.le_refl _, Nat.zero_le _, by simpa using q7, by simp⟩⟩
                      refine grow (by omega) hown rfl hsub (fun y o b1 κ1 h1 h2 he => ?_) (fun b1 h => ?_)
                      · rw [Tr.get_set] at h1
                        split at h1
                        · cases h1
                        · rename_i hne
                          have he : b = b1 := by simpa [Value.ownBlock] using he
                          subst he
                          exact hne (hi.inj y x _ _ b κ1 κ h1 hg h2 hx)
                      · have h : b = b1 := by simpa [Value.ownBlock] using h
                        subst h
                        exact ⟨lt_of_block q3, x, _, _, hg, hx⟩
                · cases h
              · cases h
            · cases h
          · cases h
        · cases h
      · cases h
    · cases h
  · cases h
end
end
end Go.Proofs.YtimlldedpbbeoaaGreat
