/- The walk through the reference's own search: it tells S. -/
import Derived.Deep.DeepCutAuto
import Derived.Deep.CutBlock
import Derived.Deep.RegionHeld3
import Derived.Deep.RegionLaw
import Derived.StillTailTactics
import Derived.Deep.Upon
import Derived.Test.YtbengfmoimlnbaaBT
namespace Go.Proofs.Ytbengfmoimlnbaa
open Go.RowKit

theorem wpList_append_own_none {P : Program} {ops : Array Oper} {rest : List Oper} {o : Oper} {a : Act} {w : World} {Q : Exit → Act → World → Prop} (hgd : o.guard = none) (s x : Operand) (t : TypeId)
    (ho : o.op = .call { callee := .builtin .append, args := #[s, x], argTypes := #[t, t] })
    (base : Nat) (e : TypeId) (i : TypeInfo) (size : Nat) (ht : P.underlying t = some (.slice e)) (hi : P.info? e = some i)
    (v : Value) (n : Nat) (xs : List Value) (hs : a.eval s = v) (hown : w.ownsRow base e size v n xs) (hx : a.eval x = .slice none 0 0)
    (h : wpList P ops Q rest (a.put o.dst v) w) : wpList P ops Q (o :: rest) a w := by
  refine wpList_plain hgd fun K hK => ?_
  have hrun := run_append_owned_none (P := P) (w := w) base t o.type e i size ht hi v n xs hown
  unfold Oper.wp
  simp [execOp, ho, resolve, invoke, builtin, hs, hx, hrun, Result.andThen]
  exact hK _ _ h

def bitsV (n m : Nat) : List Value := (bitsA n m).toList
theorem bitsV_at {n m i : Nat} (h : i < n) : (bitsV n m)[i]? = some (.bool (m.testBit i)) := by
  unfold bitsV
  rw [Array.getElem?_toList]
  exact bitsA_at h
theorem bitsV_length (n m : Nat) : (bitsV n m).length = n := by simp [bitsV, bitsA]
theorem bitsV_one (n m : Nat) : ∀ u ∈ bitsV n m, u.oneCell' = true := by
  intro u hu
  unfold bitsV bitsA at hu
  simp at hu
  obtain ⟨i, rfl⟩ := hu
  rfl

def leftTo (l : List It) (m k : Nat) : Bool := (List.range k).any fun i => mustP l i && !m.testBit i
theorem leftTo_succ (l : List It) (m k : Nat) : leftTo l m (k + 1) = (leftTo l m k || (mustP l k && !m.testBit k)) := by
  unfold leftTo
  rw [List.range_succ, List.any_append]
  simp
theorem leftTo_full (l : List It) (m : Nat) : leftTo l m l.length = left l m := rfl
def befTo (l : List It) (m i k : Nat) : Bool := (List.range k).any fun j => aheadP l i j && !m.testBit j
theorem befTo_succ (l : List It) (m i k : Nat) : befTo l m i (k + 1) = (befTo l m i k || (aheadP l i k && !m.testBit k)) := by
  unfold befTo
  rw [List.range_succ, List.any_append]
  simp
def freeTo (l : List It) (m i k : Nat) : Bool := !befTo l m i k
theorem freeTo_zero (l : List It) (m i : Nat) : freeTo l m i 0 = true := rfl
theorem freeTo_succ (l : List It) (m i k : Nat) : freeTo l m i (k + 1) = (freeTo l m i k && !(aheadP l i k && !m.testBit k)) := by
  unfold freeTo
  rw [befTo_succ]
  simp
theorem freeTo_full (l : List It) (m i : Nat) : freeTo l m i l.length = !before l m i := rfl

theorem anEq_false {a b : An} (h : anEq a b = false) : (a.e == b.e) = false ∨ ((a.e == b.e) = true ∧ (a.found == b.found) = false) ∨ ((a.e == b.e) = true ∧ (a.found == b.found) = true ∧ (a.value.toList == b.value.toList) = false) ∨ ((a.e == b.e) = true ∧ (a.found == b.found) = true ∧ (a.value.toList == b.value.toList) = true ∧ (a.ver == b.ver) = false) := by
  unfold anEq at h
  cases x1 : (a.e == b.e)
  · exact .inl rfl
  cases x2 : (a.found == b.found)
  · exact .inr (.inl ⟨rfl, rfl⟩)
  cases x3 : (a.value.toList == b.value.toList)
  · exact .inr (.inr (.inl ⟨rfl, rfl, rfl⟩))
  · rw [x1, x2, x3] at h
    exact .inr (.inr (.inr ⟨rfl, rfl, rfl, h⟩))
def skipB (l : List It) (m : Nat) (s : St) (k : Nat) : Bool := !can l m s k
def TryRes (l : List It) (m : Nat) (s : St) (base : Nat) (e : Ending) (w' : World) : Prop :=
  match S l m s with
  | some q => ∃ v', e = .returned (.tuple #[v', .bool true]) ∧ w'.ownsRow base 3 1 v' q.length (natV q)
  | none => e = .returned (.tuple #[.slice none 0 0, .bool false])

set_option maxRecDepth 100000 in
set_option maxHeartbeats 20000000 in
theorem rtry_any (l : List It) (hn : l.length ≤ 24) : ∀ (f m : Nat) (s : St) (w : World) (A : Option Addr) (c : Nat) (U : Option Addr) (cu : Nat),
    l.length - cnt l.length m = f → Rd w (.slice A l.length c) l.length (itsV l) → Rd w (.slice U l.length cu) l.length (bitsV l.length m) →
    Calls Try.prog 25 #[.slice A l.length c, .slice U l.length cu, .agg #[.int .i64 s.ver, .string s.val]] w fun e w' => TryRes l m s w.heap.size e w' ∧ Below w.heap.size w w' := by
  intro f
  induction f using Nat.strongRecOn with
  | _ f ih =>
  intro m s w A c U cu hf hv hu
  obtain ⟨i0, hi, hz0, hz1, hz2⟩ := info_parts info_int
  obtain ⟨i1, hi1, hz10, hz11, hz12⟩ := info_parts info_bool
  replace ih := Lib.hid ih
  go_enter Try.func25, Try.ntmps25
  go_wp2
  have HB := alloc_new w (.cells (stC s) 47)
  have hB0 : Below w.heap.size w (w.alloc (.cells (stC s) 47)) := (Below.refl _ w).alloc (Nat.le_refl _) _
  change Code.wp _ _ _ _ (w.alloc (.cells (stC s) 47))
  generalize (w.alloc (.cells (stC s) 47)) = wb at HB hB0 ⊢
  go_loopw [8, 9] (fun v i wr => ∃ k : Nat, k ≤ l.length ∧ i = .int .i64 k ∧ v = .bool (leftTo l m k) ∧ wr = wb)
    (fun _ i _ => l.length - (intOf i).toNat)
  case atStart => exact ⟨0, Nat.zero_le _, rfl, rfl, rfl⟩
  case round =>
    obtain ⟨k, hk, rfl, rfl, rfl⟩ := hrel
    by_cases hlt : k < l.length
    · rcases hv with ⟨h0, _⟩ | ⟨gx, ox, cx, hex, hgx, hcx⟩
      · omega
      rcases hu with ⟨h0, _⟩ | ⟨gu, ou, cv, heu, hgu, hcu⟩
      · omega
      cases hex
      cases heu
      have hi0 : (k : Int) < (l.length : Int) := by omega
      replace hcx := Lib.hid hcx
      have hls := leftTo_succ l m k
      have u0 := (hB0.cell (p := ⟨gu, ou + k, none⟩) hgu).trans (hcu _ _ (bitsV_at hlt))
      have x3 := (hB0.cell (p := ⟨gx, ox + (k * 9 + 3), none⟩) hgx).trans (hcx.out _ _ (itsV_at hlt (i := 3) (by omega)))
      rw [← Nat.add_assoc] at x3
      unfold mustP at hls
      rw [itm_eq hlt] at hls
      cases hL : leftTo l m k
      · rw [hL] at hls
        cases ht : m.testBit k
        · rw [ht] at hls u0
          cases ho : l[k].open_
          · rw [ho] at hls x3
            go_wp2
            go_roundw
            case rel => exact ⟨k + 1, by omega, rfl, by rw [hls]; rfl, trivial⟩
            case measure => simp [intOf]; omega
          · rw [ho] at hls x3
            go_wp2
            go_roundw
            case rel => exact ⟨k + 1, by omega, rfl, by rw [hls]; rfl, trivial⟩
            case measure => simp [intOf]; omega
        · rw [ht] at hls u0
          go_wp2
          go_roundw
          case rel => exact ⟨k + 1, by omega, rfl, by rw [hls]; simp, trivial⟩
          case measure => simp [intOf]; omega
      · rw [hL] at hls
        go_wp2
        go_roundw
        case rel => exact ⟨k + 1, by omega, rfl, by rw [hls]; rfl, trivial⟩
        case measure => simp [intOf]; omega
    · obtain rfl : k = l.length := by omega
      rw [leftTo_full]
      cases hleft : left l m
      · go_wp2
        go_ret2
        refine ⟨?_, hB0⟩
        unfold TryRes
        rw [S_eq, hleft]
        exact ⟨_, rfl, World.ownsRow_nil _ _ _ _⟩
      · have hSF := Lib.hid (SF_zero l m s hleft)
        clear hleft
        replace HB := Lib.hid HB
        go_wp2
        go_loopw [10] (fun i wk => ∃ k : Nat, k ≤ l.length ∧ i = .int .i64 k ∧ Below w.heap.size w wk ∧ wk.heap[w.heap.size]? = some (.cells (stC s) 47 (0, 0)) ∧ S l m s = SF l m s k)
          (fun i _ => l.length - (intOf i).toNat)
        case atStart => exact ⟨0, Nat.zero_le _, rfl, hB0, HB.out, hSF.out⟩
        case round =>
          clear HB hSF hB0
          obtain ⟨k, hk, rfl, hB, hbox, hSF⟩ := hrel
          by_cases hlt : k < l.length
          · rcases hv with ⟨h0, _⟩ | ⟨gx, ox, cx, hex, hgx, hcx⟩
            · omega
            rcases hu with ⟨h0, _⟩ | ⟨gu, ou, cv, heu, hgu, hcu⟩
            · omega
            cases hex
            cases heu
            have hi0 : (k : Int) < (l.length : Int) := by omega
            replace hcx := Lib.hid hcx
            replace hcu := Lib.hid hcu
            have hstep := SF_step l m s k hlt
            have u0 := (hB.cell (p := ⟨gu, ou + k, none⟩) hgu).trans (hcu.out _ _ (bitsV_at hlt))
            cases ht : m.testBit k
            · rw [ht] at u0
              replace hSF := Lib.hid hSF
              replace hstep := Lib.hid hstep
              replace ht := Lib.hid ht
              replace hbox := Lib.hid hbox
              go_wp2
              go_loopw [11, 12] (fun v i wj => ∃ j : Nat, j ≤ l.length ∧ i = .int .i64 j ∧ v = .bool (freeTo l m k j) ∧ Below w.heap.size w wj ∧ wj.heap[w.heap.size]? = some (.cells (stC s) 47 (0, 0)))
                (fun _ i _ => l.length - (intOf i).toNat)
              case atStart => exact ⟨0, Nat.zero_le _, rfl, rfl, hB, hbox.out⟩
              case round =>
                clear hB hbox u0
                obtain ⟨j, hj, rfl, rfl, hBj, hbj⟩ := hrel
                by_cases hj2 : j < l.length
                · have hi1 : (j : Int) < (l.length : Int) := by omega
                  have hbs := freeTo_succ l m k j
                  have v0 := (hBj.cell (p := ⟨gu, ou + j, none⟩) hgu).trans (hcu.out _ _ (bitsV_at hj2))
                  replace hbj := Lib.hid hbj
                  cases hb : freeTo l m k j
                  · rw [hb] at hbs
                    replace hbs := Lib.hid hbs
                    go_wp2
                    go_quiet (fail)
                    go_wp2
                    go_roundw
                    case rel => exact ⟨j + 1, by omega, rfl, by rw [hbs.out]; rfl, below_drewN hBj _, hbj.out⟩
                    case measure => simp [intOf]; omega
                  · rw [hb] at hbs
                    cases htj : m.testBit j
                    · rw [htj] at v0 hbs
                      by_cases hjk : j = k
                      · subst hjk
                        replace hbs := Lib.hid hbs
                        go_wp2
                        go_quiet (fail)
                        go_wp2
                        go_roundw
                        case rel => exact ⟨j + 1, by omega, rfl, by rw [hbs.out]; simp [aheadP], below_drewN hBj _, hbj.out⟩
                        case measure => simp [intOf]; omega
                      · have hne : ((j : Int) == (k : Int)) = false := beq_eq_false_iff_ne.2 (by omega)
                        have x0 := (hBj.cell (p := ⟨gx, ox + (j * 9 + 0), none⟩) hgx).trans (hcx.out _ _ (itsV_at hj2 (i := 0) (by omega)))
                        have x1 := (hBj.cell (p := ⟨gx, ox + (j * 9 + 1), none⟩) hgx).trans (hcx.out _ _ (itsV_at hj2 (i := 1) (by omega)))
                        have x2 := (hBj.cell (p := ⟨gx, ox + (j * 9 + 2), none⟩) hgx).trans (hcx.out _ _ (itsV_at hj2 (i := 2) (by omega)))
                        have x3 := (hBj.cell (p := ⟨gx, ox + (j * 9 + 3), none⟩) hgx).trans (hcx.out _ _ (itsV_at hj2 (i := 3) (by omega)))
                        have x4 := (hBj.cell (p := ⟨gx, ox + (j * 9 + 4), none⟩) hgx).trans (hcx.out _ _ (itsV_at hj2 (i := 4) (by omega)))
                        have x5 := (hBj.cell (p := ⟨gx, ox + (j * 9 + 5), none⟩) hgx).trans (hcx.out _ _ (itsV_at hj2 (i := 5) (by omega)))
                        have x6 := (hBj.cell (p := ⟨gx, ox + (j * 9 + 6), none⟩) hgx).trans (hcx.out _ _ (itsV_at hj2 (i := 6) (by omega)))
                        have x7 := (hBj.cell (p := ⟨gx, ox + (j * 9 + 7), none⟩) hgx).trans (hcx.out _ _ (itsV_at hj2 (i := 7) (by omega)))
                        have x8 := (hBj.cell (p := ⟨gx, ox + (j * 9 + 8), none⟩) hgx).trans (hcx.out _ _ (itsV_at hj2 (i := 8) (by omega)))
                        simp only [Nat.add_zero] at x0
                        rw [← Nat.add_assoc] at x1 x2 x3 x4 x5 x6 x7 x8
                        have y0 := (hBj.cell (p := ⟨gx, ox + (k * 9 + 0), none⟩) hgx).trans (hcx.out _ _ (itsV_at hlt (i := 0) (by omega)))
                        have y1 := (hBj.cell (p := ⟨gx, ox + (k * 9 + 1), none⟩) hgx).trans (hcx.out _ _ (itsV_at hlt (i := 1) (by omega)))
                        have y2 := (hBj.cell (p := ⟨gx, ox + (k * 9 + 2), none⟩) hgx).trans (hcx.out _ _ (itsV_at hlt (i := 2) (by omega)))
                        have y3 := (hBj.cell (p := ⟨gx, ox + (k * 9 + 3), none⟩) hgx).trans (hcx.out _ _ (itsV_at hlt (i := 3) (by omega)))
                        have y4 := (hBj.cell (p := ⟨gx, ox + (k * 9 + 4), none⟩) hgx).trans (hcx.out _ _ (itsV_at hlt (i := 4) (by omega)))
                        have y5 := (hBj.cell (p := ⟨gx, ox + (k * 9 + 5), none⟩) hgx).trans (hcx.out _ _ (itsV_at hlt (i := 5) (by omega)))
                        have y6 := (hBj.cell (p := ⟨gx, ox + (k * 9 + 6), none⟩) hgx).trans (hcx.out _ _ (itsV_at hlt (i := 6) (by omega)))
                        have y7 := (hBj.cell (p := ⟨gx, ox + (k * 9 + 7), none⟩) hgx).trans (hcx.out _ _ (itsV_at hlt (i := 7) (by omega)))
                        have y8 := (hBj.cell (p := ⟨gx, ox + (k * 9 + 8), none⟩) hgx).trans (hcx.out _ _ (itsV_at hlt (i := 8) (by omega)))
                        simp only [Nat.add_zero] at y0
                        rw [← Nat.add_assoc] at y1 y2 y3 y4 y5 y6 y7 y8
                        obtain ⟨ah, hah⟩ : ∃ ah, ahead l[j] l[k] = ah := ⟨_, rfl⟩
                        replace hah := Lib.hid hah
                        replace hbs := Lib.hid hbs
                        go_wp2
                        go_still_tail 20, (by kernel_rfl)
                        change wpList _ _ _ _ _ wr.drew
                        go_wp2_with (go_at_call 19; refine (rahead_any l[j] l[k] _).mono ?_; rw [hah.out]; rintro e w' ⟨rfl, hbw⟩)
                        have hB2 := hBj.drew.trans (hbw.mono hBj.drew.size)
                        go_roundw
                        case rel => exact ⟨j + 1, by omega, rfl, (by rw [hbs.out]; simp [aheadP, itm_eq hj2, itm_eq hlt, hah.out, hjk]), hB2, block_kept (w := wr.drew) hbj.out hbw⟩
                        case measure => simp [intOf]; omega
                    · rw [htj] at v0 hbs
                      replace hbs := Lib.hid hbs
                      go_wp2
                      go_quiet (fail)
                      go_wp2
                      go_roundw
                      case rel => exact ⟨j + 1, by omega, rfl, by rw [hbs.out]; simp, below_drewN hBj _, hbj.out⟩
                      case measure => simp [intOf]; omega
                · obtain rfl : j = l.length := by omega
                  rw [freeTo_full]
                  have t0 : wr.cell? ⟨w.heap.size, 0, none⟩ = some (.int .i64 s.ver) := cell_of_block hbj 0
                  have t1 : wr.cell? ⟨w.heap.size, 1, none⟩ = some (.string s.val) := cell_of_block hbj 1
                  have z0 := (hBj.cell (p := ⟨gx, ox + (k * 9 + 0), none⟩) hgx).trans (hcx.out _ _ (itsV_at hlt (i := 0) (by omega)))
                  have z4 := (hBj.cell (p := ⟨gx, ox + (k * 9 + 4), none⟩) hgx).trans (hcx.out _ _ (itsV_at hlt (i := 4) (by omega)))
                  simp only [Nat.add_zero] at z0
                  rw [← Nat.add_assoc] at z4
                  have hlb := lt_of_block hbj
                  have hgw := Nat.lt_of_lt_of_le hgx hBj.size
                  have hS0 : Below wr.heap.size wr wr ∧ wr.cell? ⟨w.heap.size, 0, none⟩ = some (.int .i64 s.ver) ∧ wr.cell? ⟨w.heap.size, 1, none⟩ = some (.string s.val) ∧ wr.cell? ⟨gx, ox + k * 9, none⟩ = some (.int .i64 l[k].kind) ∧ wr.cell? ⟨gx, ox + k * 9 + 4, none⟩ = some (.string l[k].value) := ⟨Below.refl _ _, t0, t1, z0, z4⟩
                  have hpb : w.heap.size < wr.heap.size ∧ w.heap.size < wr.heap.size ∧ gx < wr.heap.size ∧ gx < wr.heap.size := ⟨hlb, hlb, hgw, hgw⟩
                  obtain ⟨fr, hfr⟩ : ∃ fr, (!before l m k) = fr := ⟨_, rfl⟩
                  rw [hfr]
                  obtain ⟨da, hda⟩ : ∃ da, da = doesA s l[k].kind := ⟨_, rfl⟩
                  obtain ⟨s', hs'⟩ : ∃ s', s' = doesS s l[k].kind l[k].value := ⟨_, rfl⟩
                  replace hda := Lib.hid hda
                  replace hs' := Lib.hid hs'
                  replace hfr := Lib.hid hfr
                  replace hbj := Lib.hid hbj
                  clear hlb hgw t0 t1 z0 z4
                  go_wp2
                  go_cut [13, 14] (fun va vb wx => ∃ ba bb, va = .pointer (some ⟨ba, 0, none⟩) ∧ vb = .pointer (some ⟨bb, 0, none⟩) ∧ wr.heap.size ≤ ba ∧ Below wr.heap.size wr wx ∧ wx.heap[ba]? = some (.cells (anC da) 38 (0, 0)) ∧ wx.heap[bb]? = some (.cells (stC s') 47 (0, 0)))
                  case first =>
                    go_region_held3 (fun W => Below wr.heap.size wr W ∧ W.cell? ⟨w.heap.size, 0, none⟩ = some (.int .i64 s.ver) ∧ W.cell? ⟨w.heap.size, 1, none⟩ = some (.string s.val) ∧ W.cell? ⟨gx, ox + k * 9, none⟩ = some (.int .i64 l[k].kind) ∧ W.cell? ⟨gx, ox + k * 9 + 4, none⟩ = some (.string l[k].value))
                      (first | exact keep5 (w := w5) hpb (by repeat (first | (with_reducible exact Below.refl _ _) | (focus ((with_reducible refine Below.setCell ?_ ?_ _); rotate_left; (first | omega | (simp; omega) | simp))) | (focus ((with_reducible refine Below.alloc ?_ ?_ _); rotate_left; (first | omega | (simp; omega) | simp))) | (with_reducible refine Below.drew ?_))) hS5 | exact keep5 (w := wr) hpb (by repeat (first | (with_reducible exact Below.refl _ _) | (focus ((with_reducible refine Below.setCell ?_ ?_ _); rotate_left; (first | omega | (simp; omega) | simp))) | (focus ((with_reducible refine Below.alloc ?_ ?_ _); rotate_left; (first | omega | (simp; omega) | simp))) | (with_reducible refine Below.drew ?_))) hS0)
                      (first
                        | (go_at_call 16; refine (rdoes_any s l[k].kind l[k].value _).mono ?_; rw [← hda.out, ← hs'.out]; rintro e w5 ⟨rfl, hb5⟩; simp only [anC, stC]; have hs5 := hb5.size; simp at hs5; have hbW : Below wr.heap.size wr w5 := (by (refine Below.trans ?_ (hb5.mono ?_)); (repeat (first | refine Below.alloc ?_ (by first | omega | (simp; omega) | simp) _ | exact Below.refl _ _ | exact (Below.refl _ _).drew | refine Below.drew ?_)); (first | omega | (simp; omega) | simp)); have hS5 := keep5 (w := wr) hpb hbW hS0; (first | (have n0 : w5.heap[wr.heap.size]? = some (.cells #[.int .i64 0, .bool false, .string ⟨#[]⟩, .int .i64 0] 38 (0, 0)) := (by have h := block_kept (w := (wr.drew.alloc (.cells #[.int .i64 0, .bool false, .string ⟨#[]⟩, .int .i64 0] 38)).alloc (.cells #[.int .i64 0, .string ⟨#[]⟩] 47)) (block_alloc (alloc_new wr.drew (.cells #[.int .i64 0, .bool false, .string ⟨#[]⟩, .int .i64 0] 38)) (.cells #[.int .i64 0, .string ⟨#[]⟩] 47)) hb5; first | exact h | (rw [World.size_alloc] at h; exact h)); have n1 : w5.heap[wr.heap.size + 1]? = some (.cells #[.int .i64 0, .string ⟨#[]⟩] 47 (0, 0)) := (by have h := block_kept (w := (wr.drew.alloc (.cells #[.int .i64 0, .bool false, .string ⟨#[]⟩, .int .i64 0] 38)).alloc (.cells #[.int .i64 0, .string ⟨#[]⟩] 47)) (alloc_new (wr.drew.alloc (.cells #[.int .i64 0, .bool false, .string ⟨#[]⟩, .int .i64 0] 38)) (.cells #[.int .i64 0, .string ⟨#[]⟩] 47)) hb5; first | exact h | (rw [World.size_alloc] at h; exact h)); have a0 : w5.cell? ⟨wr.heap.size, 0, none⟩ = some (.int .i64 0) := cell_of_block n0 0; have af0 : w5.frozen? ⟨wr.heap.size, 0, none⟩ = false := free_of_block n0 0; have a1 : w5.cell? ⟨wr.heap.size, 1, none⟩ = some (.bool false) := cell_of_block n0 1; have af1 : w5.frozen? ⟨wr.heap.size, 1, none⟩ = false := free_of_block n0 1; have a2 : w5.cell? ⟨wr.heap.size, 2, none⟩ = some (.string ⟨#[]⟩) := cell_of_block n0 2; have af2 : w5.frozen? ⟨wr.heap.size, 2, none⟩ = false := free_of_block n0 2; have a3 : w5.cell? ⟨wr.heap.size, 3, none⟩ = some (.int .i64 0) := cell_of_block n0 3; have af3 : w5.frozen? ⟨wr.heap.size, 3, none⟩ = false := free_of_block n0 3; have b0 : w5.cell? ⟨wr.heap.size + 1, 0, none⟩ = some (.int .i64 0) := cell_of_block n1 0; have bf0 : w5.frozen? ⟨wr.heap.size + 1, 0, none⟩ = false := free_of_block n1 0; have b1 : w5.cell? ⟨wr.heap.size + 1, 1, none⟩ = some (.string ⟨#[]⟩) := cell_of_block n1 1; have bf1 : w5.frozen? ⟨wr.heap.size + 1, 1, none⟩ = false := free_of_block n1 1; have hx0 : ¬ wr.heap.size = w5.heap.size := Nat.ne_of_lt (lt_of_block n0); have hx1 : ¬ w5.heap.size = wr.heap.size := fun e => hx0 e.symm; have hx2 : ¬ wr.heap.size + 1 = w5.heap.size := Nat.ne_of_lt (lt_of_block n1); have hx3 : ¬ w5.heap.size = wr.heap.size + 1 := fun e => hx2 e.symm; have hl0 := lt_of_block n0; have hl1 := lt_of_block n1; replace n0 := Lib.hid n0; replace n1 := Lib.hid n1) | (have n0 : w5.heap[wr.heap.size]? = some (.cells #[.int .i64 0, .string ⟨#[]⟩] 47 (0, 0)) := (by have h := block_kept (w := (wr.drew.alloc (.cells #[.int .i64 0, .string ⟨#[]⟩] 47)).alloc (.cells #[.int .i64 0, .bool false, .string ⟨#[]⟩, .int .i64 0] 38)) (block_alloc (alloc_new wr.drew (.cells #[.int .i64 0, .string ⟨#[]⟩] 47)) (.cells #[.int .i64 0, .bool false, .string ⟨#[]⟩, .int .i64 0] 38)) hb5; first | exact h | (rw [World.size_alloc] at h; exact h)); have n1 : w5.heap[wr.heap.size + 1]? = some (.cells #[.int .i64 0, .bool false, .string ⟨#[]⟩, .int .i64 0] 38 (0, 0)) := (by have h := block_kept (w := (wr.drew.alloc (.cells #[.int .i64 0, .string ⟨#[]⟩] 47)).alloc (.cells #[.int .i64 0, .bool false, .string ⟨#[]⟩, .int .i64 0] 38)) (alloc_new (wr.drew.alloc (.cells #[.int .i64 0, .string ⟨#[]⟩] 47)) (.cells #[.int .i64 0, .bool false, .string ⟨#[]⟩, .int .i64 0] 38)) hb5; first | exact h | (rw [World.size_alloc] at h; exact h)); have a0 : w5.cell? ⟨wr.heap.size, 0, none⟩ = some (.int .i64 0) := cell_of_block n0 0; have af0 : w5.frozen? ⟨wr.heap.size, 0, none⟩ = false := free_of_block n0 0; have a1 : w5.cell? ⟨wr.heap.size, 1, none⟩ = some (.string ⟨#[]⟩) := cell_of_block n0 1; have af1 : w5.frozen? ⟨wr.heap.size, 1, none⟩ = false := free_of_block n0 1; have b0 : w5.cell? ⟨wr.heap.size + 1, 0, none⟩ = some (.int .i64 0) := cell_of_block n1 0; have bf0 : w5.frozen? ⟨wr.heap.size + 1, 0, none⟩ = false := free_of_block n1 0; have b1 : w5.cell? ⟨wr.heap.size + 1, 1, none⟩ = some (.bool false) := cell_of_block n1 1; have bf1 : w5.frozen? ⟨wr.heap.size + 1, 1, none⟩ = false := free_of_block n1 1; have b2 : w5.cell? ⟨wr.heap.size + 1, 2, none⟩ = some (.string ⟨#[]⟩) := cell_of_block n1 2; have bf2 : w5.frozen? ⟨wr.heap.size + 1, 2, none⟩ = false := free_of_block n1 2; have b3 : w5.cell? ⟨wr.heap.size + 1, 3, none⟩ = some (.int .i64 0) := cell_of_block n1 3; have bf3 : w5.frozen? ⟨wr.heap.size + 1, 3, none⟩ = false := free_of_block n1 3; have hx0 : ¬ wr.heap.size = w5.heap.size := Nat.ne_of_lt (lt_of_block n0); have hx1 : ¬ w5.heap.size = wr.heap.size := fun e => hx0 e.symm; have hx2 : ¬ wr.heap.size + 1 = w5.heap.size := Nat.ne_of_lt (lt_of_block n1); have hx3 : ¬ w5.heap.size = wr.heap.size + 1 := fun e => hx2 e.symm; have hl0 := lt_of_block n0; have hl1 := lt_of_block n1; replace n0 := Lib.hid n0; replace n1 := Lib.hid n1) | (have n0 : w5.heap[wr.heap.size]? = some (.cells #[.int .i64 0, .bool false, .string ⟨#[]⟩, .int .i64 0] 38 (0, 0)) := (by have h := block_kept (w := wr.drew.alloc (.cells #[.int .i64 0, .bool false, .string ⟨#[]⟩, .int .i64 0] 38)) (alloc_new wr.drew (.cells #[.int .i64 0, .bool false, .string ⟨#[]⟩, .int .i64 0] 38)) hb5; first | exact h | (rw [World.size_alloc] at h; exact h)); have a0 : w5.cell? ⟨wr.heap.size, 0, none⟩ = some (.int .i64 0) := cell_of_block n0 0; have af0 : w5.frozen? ⟨wr.heap.size, 0, none⟩ = false := free_of_block n0 0; have a1 : w5.cell? ⟨wr.heap.size, 1, none⟩ = some (.bool false) := cell_of_block n0 1; have af1 : w5.frozen? ⟨wr.heap.size, 1, none⟩ = false := free_of_block n0 1; have a2 : w5.cell? ⟨wr.heap.size, 2, none⟩ = some (.string ⟨#[]⟩) := cell_of_block n0 2; have af2 : w5.frozen? ⟨wr.heap.size, 2, none⟩ = false := free_of_block n0 2; have a3 : w5.cell? ⟨wr.heap.size, 3, none⟩ = some (.int .i64 0) := cell_of_block n0 3; have af3 : w5.frozen? ⟨wr.heap.size, 3, none⟩ = false := free_of_block n0 3; have hx0 : ¬ wr.heap.size = w5.heap.size := Nat.ne_of_lt (lt_of_block n0); have hx1 : ¬ w5.heap.size = wr.heap.size := fun e => hx0 e.symm; have hl0 := lt_of_block n0; replace n0 := Lib.hid n0) | (have n0 : w5.heap[wr.heap.size]? = some (.cells #[.int .i64 0, .string ⟨#[]⟩] 47 (0, 0)) := (by have h := block_kept (w := wr.drew.alloc (.cells #[.int .i64 0, .string ⟨#[]⟩] 47)) (alloc_new wr.drew (.cells #[.int .i64 0, .string ⟨#[]⟩] 47)) hb5; first | exact h | (rw [World.size_alloc] at h; exact h)); have a0 : w5.cell? ⟨wr.heap.size, 0, none⟩ = some (.int .i64 0) := cell_of_block n0 0; have af0 : w5.frozen? ⟨wr.heap.size, 0, none⟩ = false := free_of_block n0 0; have a1 : w5.cell? ⟨wr.heap.size, 1, none⟩ = some (.string ⟨#[]⟩) := cell_of_block n0 1; have af1 : w5.frozen? ⟨wr.heap.size, 1, none⟩ = false := free_of_block n0 1; have hx0 : ¬ wr.heap.size = w5.heap.size := Nat.ne_of_lt (lt_of_block n0); have hx1 : ¬ w5.heap.size = wr.heap.size := fun e => hx0 e.symm; have hl0 := lt_of_block n0; replace n0 := Lib.hid n0) | skip))
                        | fail)
                    all_goals (go_wp2_with (fail))
                    all_goals go_meet
                    all_goals (refine ⟨_, _, rfl, rfl, ?_, ?_, ?_, ?_⟩; (focus (first | exact Nat.le_refl _ | omega)); (focus (repeat (first | (with_reducible exact hbW) | (focus ((with_reducible refine Below.setCell ?_ ?_ _); rotate_left; (first | omega | (simp; omega) | simp))) | (focus ((with_reducible refine Below.alloc ?_ ?_ _); rotate_left; (first | omega | (simp; omega) | simp)))))); (focus (apply blk_conv; (focus (repeat (first | (with_reducible exact (Hid.out n0)) | (with_reducible exact (Hid.out n1)) | (with_reducible apply block_setCell) | (focus ((with_reducible refine later_set_other ?_ ?_); (focus (first | omega | (simp; omega))))) | (with_reducible exact alloc_new _ _) | (focus ((with_reducible refine later_new ?_); (focus simp))) | (with_reducible refine block_alloc ?_ _)))); rfl)); (focus (apply blk_conv; (focus (repeat (first | (with_reducible exact (Hid.out n0)) | (with_reducible exact (Hid.out n1)) | (with_reducible apply block_setCell) | (focus ((with_reducible refine later_set_other ?_ ?_); (focus (first | omega | (simp; omega))))) | (with_reducible exact alloc_new _ _) | (focus ((with_reducible refine later_new ?_); (focus simp))) | (with_reducible refine block_alloc ?_ _)))); rfl)))
                  case rest =>
                    clear hS0 hpb
                    obtain ⟨b13, b14, rfl, rfl, hb13, hbx, hA, hS⟩ := hcut
                    have hBc := hBj.trans (hbx.mono hBj.size)
                    have hboxc := block_kept hbj.out hbx
                    have x3 := (hBc.cell (p := ⟨gx, ox + (k * 9 + 3), none⟩) hgx).trans (hcx.out _ _ (itsV_at hlt (i := 3) (by omega)))
                    have x5 := (hBc.cell (p := ⟨gx, ox + (k * 9 + 5), none⟩) hgx).trans (hcx.out _ _ (itsV_at hlt (i := 5) (by omega)))
                    have x6 := (hBc.cell (p := ⟨gx, ox + (k * 9 + 6), none⟩) hgx).trans (hcx.out _ _ (itsV_at hlt (i := 6) (by omega)))
                    have x7 := (hBc.cell (p := ⟨gx, ox + (k * 9 + 7), none⟩) hgx).trans (hcx.out _ _ (itsV_at hlt (i := 7) (by omega)))
                    have x8 := (hBc.cell (p := ⟨gx, ox + (k * 9 + 8), none⟩) hgx).trans (hcx.out _ _ (itsV_at hlt (i := 8) (by omega)))
                    rw [← Nat.add_assoc] at x3 x5 x6 x7 x8
                    have d0 : wc.cell? ⟨b13, 0, none⟩ = some (.int .i64 da.e) := cell_of_block hA 0
                    have d1 : wc.cell? ⟨b13, 1, none⟩ = some (.bool da.found) := cell_of_block hA 1
                    have d2 : wc.cell? ⟨b13, 2, none⟩ = some (.string da.value) := cell_of_block hA 2
                    have d3 : wc.cell? ⟨b13, 3, none⟩ = some (.int .i64 da.ver) := cell_of_block hA 3
                    replace hA := Lib.hid hA
                    replace hS := Lib.hid hS
                    replace hbx := Lib.hid hbx
                    replace hboxc := Lib.hid hboxc
                    replace hBc := Lib.hid hBc
                    go_wp2_with (fail)
                    go_cut [115] (fun v wx => v = .bool (skipB l m s k) ∧ Below wc.heap.size wc wx)
                    case first =>
                      cases fr
                      · have hsk : skipB l m s k = true := by
                          have h1 : before l m k = true := by have := hfr.out; simpa using this
                          unfold skipB can; rw [h1]; simp
                        replace hsk := Lib.hid hsk
                        go_quiet (fail)
                        go_wp2_with (fail)
                        go_meet
                        exact ⟨by rw [hsk.out], below_drewN (Below.refl _ _) _⟩
                      · have h1 : before l m k = false := by have := hfr.out; simpa using this
                        have hsk : skipB l m s k = !fits l s k := by unfold skipB can; rw [h1, ht.out]; simp
                        replace hsk := Lib.hid hsk
                        clear h1
                        cases hfit : fits l s k
                        · have ho : l[k].open_ = false := by
                            unfold fits at hfit
                            rw [itm_eq hlt] at hfit
                            cases h : l[k].open_
                            · rfl
                            · rw [h] at hfit; cases hfit
                          have hq : anEq da l[k].ans = false := by
                            unfold fits at hfit
                            rw [itm_eq hlt, ho, ← hda.out] at hfit
                            simpa using hfit
                          replace hfit := Lib.hid hfit
                          have hway := anEq_false hq
                          rw [ho] at x3
                          clear hq
                          rcases hway with h1 | ⟨h1, h2⟩ | ⟨h1, h2, h3⟩ | ⟨h1, h2, h3, h4⟩
                          all_goals
                            go_quiet (fail)
                            go_wp2_with (fail)
                            go_meet
                            exact ⟨by rw [hsk.out, hfit.out]; rfl, below_drewN (Below.refl _ _) _⟩
                        · have hfo : l[k].open_ = true ∨ (l[k].open_ = false ∧ (da.e == l[k].ans.e) = true ∧ (da.found == l[k].ans.found) = true ∧ (da.value.toList == l[k].ans.value.toList) = true ∧ (da.ver == l[k].ans.ver) = true) := by
                            unfold fits anEq at hfit
                            rw [itm_eq hlt, ← hda.out] at hfit
                            cases h : l[k].open_
                            · rw [h] at hfit
                              simp only [Bool.false_or, Bool.and_eq_true] at hfit
                              exact .inr ⟨rfl, hfit.1, hfit.2.1, hfit.2.2.1, hfit.2.2.2⟩
                            · exact .inl rfl
                          replace hfit := Lib.hid hfit
                          rcases hfo with ho | ⟨ho, h1, h2, h3, h4⟩
                          all_goals
                            rw [ho] at x3
                            go_quiet (fail)
                            go_wp2_with (fail)
                            go_meet
                            exact ⟨by rw [hsk.out, hfit.out]; rfl, below_drewN (Below.refl _ _) _⟩
                    case rest =>
                      obtain ⟨rfl, hb2⟩ := hcut
                      have hB2 := hBc.out.trans (hb2.mono hBc.out.size)
                      have hbox2 := block_kept hboxc.out hb2
                      have hS2 := block_kept hS.out hb2
                      clear x3 x5 x6 x7 x8 d0 d1 d2 d3 hb2 hA hS hboxc hbx hBc
                      replace hfr := hfr.out
                      cases hsk : skipB l m s k
                      · have hc : can l m s k = true := by unfold skipB at hsk; simpa using hsk
                        have hst2 := hstep.out
                        rw [if_pos hc] at hst2
                        have hplay : play l s k = s' := by unfold play; rw [itm_eq hlt]; exact hs'.out.symm
                        rw [hplay] at hst2
                        replace hst2 := Lib.hid hst2
                        have hlS := lt_of_block hS2
                        have hown := World.ownsRow_made (base := wc.heap.size) (e := 4) (size := 1) wc #[] 0 (Nat.le_refl _) (by unfold maxLen; omega) rfl
                        have hcell : ∀ j u, (bitsV l.length m)[j]? = some u → (wc.alloc (.cells #[] 4)).cell? ((⟨gu, ou, none⟩ : Addr).add j) = some u := by
                          intro j u hj
                          have h1 := ((hB2.alloc hB2.size (.cells #[] 4)).cell (p := ⟨gu, ou + j, none⟩) hgu).trans (hcu.out _ _ hj)
                          unfold Addr.add
                          split
                          · rename_i h0; subst h0; exact h1
                          · exact h1
                        replace hS2 := Lib.hid hS2
                        replace hbox2 := Lib.hid hbox2
                        replace hB2 := Lib.hid hB2
                        clear hc hsk
                        go_wp2_with (at_builtin; refine wpList_append_own _ rfl _ _ 64 rfl wc.heap.size 4 i1 (.bool false) 1 1 Try.underlying64 hi1 hz10 hz11 hz12 rfl (by decide) _ _ _ rfl hown ⟨gu, ou, none⟩ l.length cu (bitsV l.length m) rfl (by rw [bitsV_length]; omega) hcell (bitsV_one _ _) ?c3 ?c4 ?c5 ?_)
                        case c3 => unfold maxLen; omega
                        case c4 => omega
                        case c5 => simp
                        intro v' w1 hown' hgrow _
                        have hb1 : Below wc.heap.size wc w1 := ((Below.refl _ wc).alloc (Nat.le_refl _) _).grown hgrow (by simp) (own_base hown)
                        clear hown hcell hgrow
                        obtain ⟨gn, cn, rfl, _, hgnb, _⟩ := own_succ hown' (by omega)
                        have hgn := own_lt hown' gn rfl
                        have e0 := (hown'.cellAt k (by omega)).trans (bitsV_at hlt)
                        have f0 := hown'.frozenAt k
                        have hst := (hown'.stored k (.bool true)).1
                        have hbs2 : (bitsV l.length m).set k (.bool true) = bitsV l.length (m ||| 2 ^ k) := by
                          unfold bitsV
                          rw [← bitsA_set (i := k), Array.toList_setIfInBounds]
                        rw [hbs2] at hst
                        have hneg1 : ¬ b14 = gn := by omega
                        have hneg2 : ¬ gn = b14 := by omega
                        have g0 : w1.cell? ⟨b14, 0, none⟩ = some (.int .i64 s'.ver) := cell_of_block (block_kept hS2.out hb1) 0
                        have g1 : w1.cell? ⟨b14, 1, none⟩ = some (.string s'.val) := cell_of_block (block_kept hS2.out hb1) 1
                        have hB3 : Below w.heap.size w (w1.setCell ⟨gn, k, none⟩ (.bool true)) := (hB2.out.trans (hb1.mono hB2.out.size)).setCell (p := ⟨gn, k, none⟩) (Nat.le_trans hB2.out.size hgnb) _
                        have hbox3 := (block_set_other (b := gn) (i := k) (by have := lt_of_block hbox2.out; omega) (.bool true)).trans (block_kept hbox2.out hb1)
                        replace hst := Lib.hid hst
                        replace hown' := Lib.hid hown'
                        replace hb1 := Lib.hid hb1
                        replace hB3 := Lib.hid hB3
                        replace hbox3 := Lib.hid hbox3
                        go_wp2_with (fail)
                        have hcnt := cnt_set hlt ht.out
                        have hle := cnt_le l.length (m ||| 2 ^ k)
                        refine (ih.out (l.length - cnt l.length (m ||| 2 ^ k)) (by omega) (m ||| 2 ^ k) s' _ (some ⟨gx, ox, none⟩) c (some ⟨gn, 0, none⟩) cn rfl (Rd.below (w := w) (.inr ⟨gx, ox, c, rfl, hgx, hcx.out⟩) hB3.out) (Rd.of_own hst.out)).mono ?_
                        rintro e w9 ⟨hres, hb9⟩
                        have hB9 := hB3.out.trans (hb9.mono hB3.out.size)
                        have hbox9 := block_kept hbox3.out hb9
                        have hb9s := hb9.size
                        unfold TryRes at hres
                        clear e0 f0 g0 g1 hb9 hB3 hbox3 hst hown' hb1 hbs2
                        cases hq : S l (m ||| 2 ^ k) s' with
                        | none =>
                          rw [hq] at hres
                          obtain rfl := hres
                          have hst3 := hst2.out
                          rw [hq] at hst3
                          clear hq
                          replace hst3 := Lib.hid hst3
                          replace hbox9 := Lib.hid hbox9
                          go_wp2_with (fail)
                          go_roundw
                          case rel => exact ⟨k + 1, by omega, rfl, hB9, hbox9.out, hSF.out.trans hst3.out⟩
                          case measure => simp [intOf]; omega
                        | some q =>
                          rw [hq] at hres
                          have hql := S_length l _ _ _ _ rfl hq
                          obtain ⟨v9, rfl, hown9⟩ := hres
                          have hst3 := hst2.out
                          rw [hq] at hst3
                          have hfin : S l m s = some (k :: q) := hSF.out.trans hst3
                          clear hq hst3
                          replace hfin := Lib.hid hfin
                          replace hbox9 := Lib.hid hbox9
                          have hlit := World.ownsRow_lit (base := w9.heap.size) (e := 3) (size := 1) w9 #[.int .i64 (k : Int)] 1 (Nat.le_refl _) (by unfold maxLen; omega) rfl
                          rcases hown9.2 with ⟨rfl, hq0⟩ | ⟨g9, cap9, cur9, rfl, hb9', hh9, _, _, _, _⟩
                          · have hq1 : q = [] := List.eq_nil_of_length_eq_zero hq0
                            subst hq1
                            go_wp2_with (at_builtin; refine wpList_append_own_none rfl _ _ 25 rfl w9.heap.size 3 i0 1 Try.underlying25 hi _ _ _ rfl hlit rfl ?_)
                            go_ret2
                            refine ⟨?_, hB9.alloc hB9.size _⟩
                            unfold TryRes
                            rw [hfin.out]
                            exact ⟨_, rfl, own_lower hlit hB9.size⟩
                          · have hg9 := lt_of_block hh9
                            have hcell : ∀ j u, (natV q)[j]? = some u → (w9.alloc (.cells #[.int .i64 (k : Int)] 3)).cell? ((⟨g9, 0, none⟩ : Addr).add j) = some u := by
                              intro j u hj
                              have := hown9.cells rfl j u hj
                              rw [← this]
                              exact World.cell?_of_block (Below.heap_alloc _ _ _ (by unfold Addr.add; split <;> exact hg9))
                            replace hown9 := Lib.hid hown9
                            replace hh9 := Lib.hid hh9
                            go_wp2_with (at_builtin; refine wpList_append_own _ rfl _ _ 25 rfl w9.heap.size 3 i0 (.int .i64 0) 1 8 Try.underlying25 hi hz0 hz1 hz2 rfl (by decide) _ _ _ rfl hlit ⟨g9, 0, none⟩ q.length cap9 (natV q) rfl (by simp [natV]) hcell (natV_one _) ?c3 ?c4 ?c5 ?_)
                            case c3 => unfold maxLen; omega
                            case c4 => omega
                            case c5 => simp
                            intro v2 w2 hown2 hgrow2 _
                            have hB2' : Below w.heap.size w w2 := (hB9.alloc hB9.size _).grown hgrow2 (by have := hB9.size; simp; omega) (fun b hb => by cases hb; exact hB9.size)
                            go_wp2_with (fail)
                            go_ret2
                            refine ⟨?_, hB2'⟩
                            unfold TryRes
                            rw [hfin.out]
                            refine ⟨_, rfl, ?_⟩
                            have := own_lower hown2 hB9.size
                            rw [Nat.add_comm] at this
                            exact this
                      · have hc : can l m s k = false := by unfold skipB at hsk; simpa using hsk
                        have hst2 := hstep.out
                        rw [if_neg (by rw [hc]; simp)] at hst2
                        clear hc hsk
                        replace hst2 := Lib.hid hst2
                        replace hbox2 := Lib.hid hbox2
                        replace hS2 := Lib.hid hS2
                        go_wp2_with (fail)
                        go_roundw
                        case rel => exact ⟨k + 1, by omega, rfl, hB2, hbox2.out, hSF.out.trans hst2.out⟩
                        case measure => simp [intOf]; omega
            · rw [ht] at u0
              have hc : can l m s k = false := by unfold can; rw [ht]; rfl
              rw [if_neg (by rw [hc]; simp)] at hstep
              go_wp2
              go_roundw
              case rel => exact ⟨k + 1, by omega, rfl, hB, hbox, hSF.trans hstep⟩
              case measure => simp [intOf]; omega
          · obtain rfl : k = l.length := by omega
            go_wp2
            go_ret2
            refine ⟨?_, hB⟩
            unfold TryRes
            rw [hSF, SF_end]
            rfl
end Go.Proofs.Ytbengfmoimlnbaa
