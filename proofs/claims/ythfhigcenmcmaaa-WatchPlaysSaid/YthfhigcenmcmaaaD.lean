/- The walk through Due: all pairs, in order, of one that runs and one that has stopped and of whom it was not told. -/
import Derived.RangeFuncWrites
import Derived.Test.YthfhigcenmcmaaaL
import Derived.Test.YthfhigcenmcmaaaI
namespace Go.Proofs.Ythfhigcenmcmaaa
open Go.RowKit Go.Shelf
attribute [local go_sem] Oper.semAt_some

theorem app_box {W w1 : World} {base B : Nat} {t e : TypeId} {size : Nat} {v v' : Value} {k m : Nat} {xs ys : List Value} {tmp : Obj}
    (hv : Boxed W B t v) (hrow : W.ownsRow base e size v k xs) (hB : B < base)
    (hown' : w1.ownsRow base e size v' m ys) (hgrow : (W.alloc tmp).grownBy w1 v.ownBlock) :
    Boxed w1 B t v ∧ Boxed (w1.setCell ⟨B, 0, none⟩ v') B t v' ∧ (w1.setCell ⟨B, 0, none⟩ v').ownsRow base e size v' m ys ∧ KeepsOthers W (w1.setCell ⟨B, 0, none⟩ v') ∧ Fr (fun j => j = B ∨ base ≤ j) W (w1.setCell ⟨B, 0, none⟩ v') := by
  have hv1 : Boxed w1 B t v := (hv.alloc tmp).kept hgrow (fun h => by have := own_base hrow B h.symm; omega)
  have hf1 : Fr (fun j => j = B ∨ base ≤ j) W w1 := ⟨hgrow.os, hgrow.tape, hgrow.output, by have := hgrow.size; simp at this; omega,
    fun j hj hs => (hgrow.block j (by simp; omega) (fun h => hs (.inr (own_base hrow j h.symm)))).trans (Below.heap_alloc _ _ _ hj)⟩
  refine ⟨hv1, hv1.set v', own_fr (S := fun j => j = B) hown' ((Fr.refl (· = B) w1).setCell (fun _ => rfl) _) (fun j hj h => by subst h; have := own_base hown' j hj; omega), ?_, hf1.setCell (p := ⟨B, 0, none⟩) (fun _ => .inl rfl) _⟩
  refine ((KeepsOthers.alloc W tmp).trans (KeepsOthers.of_grownBy hgrow fun j o ej hj => ?_)).trans (KeepsOthers.setCell _ _ _)
  rcases (hrow.alloc tmp).2 with ⟨rfl, _⟩ | ⟨g, cap, cur, rfl, _, hgb, _⟩
  · cases ej
  · cases ej; rw [hgb] at hj; cases hj; rfl

/-- A block of cells lies on while what is no cells turns. -/
theorem cells_own {β : Type} (b : Nat) (c : Array Value) (t : TypeId) : Own (fun (_ : β) W => W.heap[b]? = some (.cells c t (0, 0))) := by
  intro s A B row hs hg hr
  refine (hg.block b (Array.getElem?_eq_some_iff.1 hs).1 (fun e => ?_)).trans hs
  obtain ⟨o, ho, hn⟩ := hr b e.symm
  rw [hs] at ho; cases ho; cases hn

def WS.dueB (s : WS) (p : Nat × Nat) : Bool := s.runs (p.1 : Int) && !s.runs (p.2 : Int) && !s.knows (p.1 : Int) (p.2 : Int)
def WS.dueF (s : WS) (l : List (Nat × Nat)) : List (Nat × Nat) := l.filter s.dueB
def WS.due (s : WS) : List (Nat × Nat) := s.dueF (pairsTo s.N.toNat s.N.toNat 0)
theorem WS.dueF_yes {s : WS} {l : List (Nat × Nat)} {p : Nat × Nat} (h : s.dueB p = true) : s.dueF (l ++ [p]) = s.dueF l ++ [p] := by simp [WS.dueF, List.filter_append, h]
theorem WS.dueF_no {s : WS} {l : List (Nat × Nat)} {p : Nat × Nat} (h : s.dueB p = false) : s.dueF (l ++ [p]) = s.dueF l := by simp [WS.dueF, List.filter_append, h]
theorem WS.dueF_le (s : WS) (l : List (Nat × Nat)) : (s.dueF l).length ≤ l.length := List.length_filter_le _ _
def pairV (l : List (Nat × Nat)) : List Value := l.flatMap fun p => [.int .i64 (Int.ofNat p.1), .int .i64 (Int.ofNat p.2)]
theorem pairV_snoc (l : List (Nat × Nat)) (p : Nat × Nat) : pairV (l ++ [p]) = pairV l ++ [.int .i64 (p.1 : Int), .int .i64 (p.2 : Int)] := by simp [pairV]

theorem info_pair : (Try.prog.info? 37).map (fun i => (i.zero, i.size, i.bytes)) = some (some (.agg #[.int .i64 0, .int .i64 0]), 2, 16) := by kernel_rfl

set_option maxHeartbeats 400000 in
theorem pairs_any (p : Option Addr) (w : World) :
    Calls Try.prog 29 #[.pointer p] w fun e w' => e = .returned (.func (.func 31) #[] #[.pointer (some ⟨w.heap.size, 0, none⟩)]) ∧ w.alloc (.cells #[.pointer p] 24) = w' := by
  have hmf : ∀ (fn : Fn) (first cap : Array Value) (w : World), (Instr.makeFunc fn first cap).run Try.prog w = .ok (.func fn first cap) w := fun _ _ _ _ => rfl
  go_enter Try.func29, Try.ntmps29
  go_wp2
  go_ret
  exact ⟨rfl, rfl⟩

theorem pairs_stops (n b Bp Nn : Nat) (s : WS) (hN : s.N = (Nn : Int)) (w : World) (hB : w.heap[Bp]? = some (.cells #[.pointer (some ⟨b, 0, none⟩)] 24 (0, 0))) (hw : IsW w b s) :
    SeqStopsK Fence.wide n Try.prog 31 #[.pointer (some ⟨Bp, 0, none⟩)] encP (Kp2 b Bp) (fun xs => xs = pairsTo Nn Nn 0) (fun _ => True) 64 w := fun l J Jx W hb _ _ hY h0 =>
  pairs1_in n l Bp b Nn s hN J Jx hY W ((hb.block Bp (Array.getElem?_eq_some_iff.1 hB).1).trans hB) ⟨hw.wf, (hb.block b hw.lt).trans hw.at_⟩ h0

set_option maxRecDepth 100000 in
set_option maxHeartbeats 1000000 in
theorem due_any (b : Nat) (s : WS) (w : World) (h : IsW w b s) :
    Calls Try.prog 13 #[.pointer (some ⟨b, 0, none⟩)] w fun e w' =>
      ∃ v, e = .returned v ∧ w'.ownsRow w.heap.size 37 2 v s.due.length (pairV s.due) ∧ Below w.heap.size w w' := by
  obtain ⟨i0, hi, hz0, hz1, hz2⟩ := info_parts info_pair
  obtain ⟨Nn, hN⟩ : ∃ Nn : Nat, s.N = (Nn : Int) := ⟨s.N.toNat, by have := h.wf.1; omega⟩
  have HN := Lib.hid hN
  have H := Lib.hid h
  have hblt := h.lt
  clear h hN
  refine (callsIn_wide (n := 5)).1 ?_
  refine callsIn_of_wp_marks Try.func13 rfl trivial ?_ rfl
  simp only [Try.ntmps13, List.size_toArray, List.length_cons, List.length_nil, Nat.reduceAdd, Nat.reduceSub, Array.replicate_succ, Array.replicate_zero, List.push_toArray, List.append_toArray, List.nil_append, List.cons_append]
  gi_wp2_with (refine ⟨trivial, ?_⟩; gi_at_call 29; refine (callsIn_wide.2 (pairs_any _ _)).mono ?_; rintro e w' ⟨rfl, rfl⟩)
  have hB1 : Below w.heap.size w (((w.alloc (.cells #[.pointer (some ⟨b, 0, none⟩)] 24)).alloc (.cells #[.slice none 0 0] 35)).alloc (.cells #[.pointer (some ⟨b, 0, none⟩)] 24)) :=
    (((Below.refl _ w).alloc (Nat.le_refl _) _).alloc (by simp) _).alloc (by simp; omega) _
  have hw0 : (((w.alloc (.cells #[.pointer (some ⟨b, 0, none⟩)] 24)).alloc (.cells #[.slice none 0 0] 35)).alloc (.cells #[.pointer (some ⟨b, 0, none⟩)] 24)).heap[w.heap.size]? = some (.cells #[.pointer (some ⟨b, 0, none⟩)] 24 (0, 0)) :=
    (Below.heap_alloc _ _ _ (by simp; omega)).trans ((Below.heap_alloc _ _ _ (by simp)).trans (alloc_new w _))
  have hw1 : Boxed (((w.alloc (.cells #[.pointer (some ⟨b, 0, none⟩)] 24)).alloc (.cells #[.slice none 0 0] 35)).alloc (.cells #[.pointer (some ⟨b, 0, none⟩)] 24)) (w.heap.size + 1) 35 (.slice none 0 0) := by
    have := Boxed.new (w.alloc (.cells #[.pointer (some ⟨b, 0, none⟩)] 24)) 35 (.slice none 0 0)
    rw [World.size_alloc] at this
    exact this.alloc _
  have hw2 : (((w.alloc (.cells #[.pointer (some ⟨b, 0, none⟩)] 24)).alloc (.cells #[.slice none 0 0] 35)).alloc (.cells #[.pointer (some ⟨b, 0, none⟩)] 24)).heap[w.heap.size + 2]? = some (.cells #[.pointer (some ⟨b, 0, none⟩)] 24 (0, 0)) := by
    have := alloc_new ((w.alloc (.cells #[.pointer (some ⟨b, 0, none⟩)] 24)).alloc (.cells #[.slice none 0 0] 35)) (.cells #[.pointer (some ⟨b, 0, none⟩)] 24)
    rwa [World.size_alloc, World.size_alloc] at this
  refine wpIn_rangeFunc_ownF rfl (by decide) (gf := 31) (lb := #[.pointer (some ⟨w.heap.size + 2, 0, none⟩)]) rfl trivial (enters_of Try.func31 (by kernel_rfl) rfl)
    (pairs_stops 4 b (w.heap.size + 2) Nn s HN.out _ hw2 ⟨H.out.wf, (hB1.block b hblt).trans H.out.at_⟩)
    (fun h k => ⟨k.1.trans h.1, k.2.trans h.2⟩)
    (fun W l o o' hl _ _ _ => ⟨World.putObj_heap_other (by simp at hl; omega), World.putObj_heap_other (by simp at hl; omega)⟩)
    (Below.refl _ _) (fun _ => rfl)
    (fun pre W => (W.heap[w.heap.size]? = some (.cells #[.pointer (some ⟨b, 0, none⟩)] 24 (0, 0)) ∧ W.heap[w.heap.size + 2]? = some (.cells #[.pointer (some ⟨b, 0, none⟩)] 24 (0, 0))) ∧
      (∃ v, Boxed W (w.heap.size + 1) 35 v ∧ W.ownsRow (w.heap.size + 3) 37 2 v (s.dueF pre).length (pairV (s.dueF pre)) ∧ True) ∧ Below w.heap.size w W)
    (fun _ _ _ => False)
    (OwnFrom.and (OwnFrom.and ((cells_own _ _ _).from _) ((cells_own _ _ _).from _)) (OwnFrom.and ((holdsRow_own (w.heap.size + 3) (w.heap.size + 1) 35 37 2 (fun pre => (s.dueF pre).length) (fun pre => pairV (s.dueF pre)) (fun _ _ => True)).from _) (ownFrom_below (Nat.le_refl _) (by simp; omega))))
    (fun _ _ _ _ _ hs _ _ => hs)
    ⟨⟨hw0, hw2⟩, ⟨_, hw1, World.ownsRow_nil _ _ _ _, trivial⟩, hB1⟩
    (fun x => { tmps := #[.pointer (some ⟨b, 0, none⟩), .pointer (some ⟨w.heap.size, 0, none⟩), .slice none 0 0, .pointer (some ⟨w.heap.size + 1, 0, none⟩), .int .i64 (x.1 : Int), .int .i64 (x.2 : Int), .pointer (some ⟨b, 0, none⟩), .func (.func 31) #[] #[.pointer (some ⟨w.heap.size + 2, 0, none⟩)], .int .i64 (x.1 : Int), .int .i64 (x.2 : Int), undef, undef, undef, undef, undef, undef, undef, undef, undef, undef, undef, undef, undef, undef, undef, undef, undef, undef, undef, undef, undef, undef, undef], defers := [] }) ?assign ?body ?done ?stop
  case assign =>
    intro l x W K hK
    gi_wp2
    exact hK
  case body =>
    rintro l pre x W ⟨⟨h0, h2⟩, ⟨v, hv, hrow, _⟩, hB⟩ hlen
    have hc0 := cell_of_block h0 0
    simp only [List.getElem?_toArray, List.getElem?_cons_zero] at hc0
    have Hr : Hid (IsW W b s) := ⟨H.out.wf, (hB.block b hblt).trans H.out.at_⟩
    have no : Hid (s.dueB x = false) → (KeepsOthers W W ∧ Kp2 b (w.heap.size + 2) W W ∧ (W.heap[w.heap.size]? = some (.cells #[.pointer (some ⟨b, 0, none⟩)] 24 (0, 0)) ∧ W.heap[w.heap.size + 2]? = some (.cells #[.pointer (some ⟨b, 0, none⟩)] 24 (0, 0))) ∧
      (∃ v, Boxed W (w.heap.size + 1) 35 v ∧ W.ownsRow (w.heap.size + 3) 37 2 v (s.dueF (pre ++ [x])).length (pairV (s.dueF (pre ++ [x]))) ∧ True) ∧ Below w.heap.size w W) := fun hd => by
      rw [WS.dueF_no hd.out]
      exact ⟨KeepsOthers.refl _, ⟨rfl, rfl⟩, ⟨h0, h2⟩, ⟨v, hv, hrow, trivial⟩, hB⟩
    have NO := Lib.hid no
    have H0 := Lib.hid h0
    have H2 := Lib.hid h2
    have HV := Lib.hid hv
    clear no h0 h2
    cases h1 : s.runs (x.1 : Int)
    · have hd : Hid (s.dueB x = false) := by show s.dueB x = false; simp [WS.dueB, h1]
      gi_wp2_with (first
          | (refine ⟨trivial, ?_⟩; gi_at_call 12; refine (CallsIn.inRound l (callsIn_wide.2 (runs_any b s _ _ Hr.out))).mono ?_; rintro e w' ⟨rfl, rfl⟩)
          | (refine ⟨trivial, ?_⟩; gi_at_call 11; refine (CallsIn.inRound l (callsIn_wide.2 (knows_any b s _ _ _ Hr.out))).mono ?_; rintro e w' ⟨rfl, rfl⟩)
          | (refine ⟨trivial, ?_⟩; go_at_K))
      exact NO.out hd
    · cases h2 : s.runs (x.2 : Int)
      · cases h3 : s.knows (x.1 : Int) (x.2 : Int)
        · have hd : Hid (s.dueB x = true) := by show s.dueB x = true; simp [WS.dueB, h1, h2, h3]
          have hvc := hv.cell
          have hvf := hv.frozen
          clear hv
          gi_wp2_with (first
          | (refine ⟨trivial, ?_⟩; gi_at_call 12; refine (CallsIn.inRound l (callsIn_wide.2 (runs_any b s _ _ Hr.out))).mono ?_; rintro e w' ⟨rfl, rfl⟩)
          | (refine ⟨trivial, ?_⟩; gi_at_call 11; refine (CallsIn.inRound l (callsIn_wide.2 (knows_any b s _ _ _ Hr.out))).mono ?_; rintro e w' ⟨rfl, rfl⟩)
          | (refine ⟨trivial, ?_⟩; go_at_K)
            | (gi_at_builtin; refine wpListIn_append_own _ rfl _ _ 35 rfl (w.heap.size + 3) 37 i0 (.agg #[.int .i64 0, .int .i64 0]) 2 16 Try.underlying35 hi hz0 hz1 hz2 rfl (by decide) _ _ _ rfl (hrow.alloc _) ⟨W.heap.size, 0, none⟩ 1 1 [.int .i64 (x.1 : Int), .int .i64 (x.2 : Int)] rfl rfl ?c1 ?c2 ?c3 ?c4 ?c5 ?_))
          case c1 => exact cells_new _ _ _
          case c2 => intro u hu; simp at hu; rcases hu with rfl | rfl <;> rfl
          case c3 => have := WS.dueF_le s pre; unfold maxLen; omega
          case c4 => have := WS.dueF_le s pre; omega
          case c5 => have := (Array.getElem?_eq_some_iff.1 H2.out).1; simp; omega
          intro v' w1 hown' hgrow _
          obtain ⟨g', cap', rfl⟩ := ownsRow_succ hown'
          obtain ⟨hv1, hv2, hr2, hk2, hf2⟩ := app_box HV.out hrow (by omega) hown' hgrow
          have hc1 := hv1.cell
          have hf1 := hv1.frozen
          have HE := Lib.hid (And.intro hv2 (And.intro hr2 (And.intro hk2 hf2)))
          clear hv2 hr2 hk2 hf2 hown' hgrow hrow
          gi_wp2
          obtain ⟨hv2, hr2, hk2, hf2⟩ := HE.out
          refine ⟨hk2, ⟨hf2.block _ (by have := hB.size; omega) (by omega), hf2.block _ (Array.getElem?_eq_some_iff.1 H2.out).1 (by omega)⟩, ⟨(hf2.block _ (Array.getElem?_eq_some_iff.1 H0.out).1 (by omega)).trans H0.out, (hf2.block _ (Array.getElem?_eq_some_iff.1 H2.out).1 (by omega)).trans H2.out⟩, ⟨_, hv2, ?_, trivial⟩, hB.trans (hf2.below hB.size (fun k hk h => by omega))⟩
          rw [WS.dueF_yes hd.out, pairV_snoc, List.length_append]
          exact hr2
        · have hd : Hid (s.dueB x = false) := by show s.dueB x = false; simp [WS.dueB, h3]
          gi_wp2_with (first
          | (refine ⟨trivial, ?_⟩; gi_at_call 12; refine (CallsIn.inRound l (callsIn_wide.2 (runs_any b s _ _ Hr.out))).mono ?_; rintro e w' ⟨rfl, rfl⟩)
          | (refine ⟨trivial, ?_⟩; gi_at_call 11; refine (CallsIn.inRound l (callsIn_wide.2 (knows_any b s _ _ _ Hr.out))).mono ?_; rintro e w' ⟨rfl, rfl⟩)
          | (refine ⟨trivial, ?_⟩; go_at_K))
          exact NO.out hd
      · have hd : Hid (s.dueB x = false) := by show s.dueB x = false; simp [WS.dueB, h2]
        gi_wp2_with (first
          | (refine ⟨trivial, ?_⟩; gi_at_call 12; refine (CallsIn.inRound l (callsIn_wide.2 (runs_any b s _ _ Hr.out))).mono ?_; rintro e w' ⟨rfl, rfl⟩)
          | (refine ⟨trivial, ?_⟩; gi_at_call 11; refine (CallsIn.inRound l (callsIn_wide.2 (knows_any b s _ _ _ Hr.out))).mono ?_; rintro e w' ⟨rfl, rfl⟩)
          | (refine ⟨trivial, ?_⟩; go_at_K))
        exact NO.out hd
  case done =>
    rintro D xs W hD rfl ⟨⟨h0, h2⟩, ⟨v, hv, hrow, _⟩, hB⟩ hK
    have hvc := hv.cell
    obtain ⟨A, c, rfl, _⟩ := own_slice hrow
    gi_wp2
    refine ⟨by simp, .inl ⟨_, _, rfl, run_takeDeferred hK, ?_⟩⟩
    refine ⟨_, results_tmp rfl _ _ _, _, rfl, ?_, ?_⟩
    · have e : s.due = s.dueF (pairsTo Nn Nn 0) := by unfold WS.due; rw [HN.out]; rfl
      rw [e]
      exact own_lower (ownsRow_putObj hrow _ hK rfl) (by omega)
    · exact hB.trans (belowK_b (w := w) (Nat.le_refl _) W D _ _ (by simp at hD; omega) hK rfl rfl)
  case stop =>
    rintro D c pre W _ _ h _
    exact h.elim
end Go.Proofs.Ythfhigcenmcmaaa
