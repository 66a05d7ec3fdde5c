/- The walk through row: what a record answers in a row, with its times. -/
import Derived.Deep.DeepCutAuto
import Derived.Deep.CutBlock
import Derived.Deep.RegionHeld3
import Derived.Deep.RegionLaw
import Derived.StillTailTactics
import Derived.Test.YtbengfmoimlnbaaRT
import Derived.Test.YtbengfmoimlnbaaPR
namespace Go.Proofs.Ytbengfmoimlnbaa
open Go.RowKit

abbrev Op7 := D_gleberef07_Op
def opsV (l : List Op7) : List Value := l.flatMap D_gleberef07_Op.enc
theorem opsV_at {l : List Op7} {k i : Nat} (h : k < l.length) (hi : i < 7) : (opsV l)[k * 7 + i]? = l[k].enc[i]? := by
  unfold opsV
  induction l generalizing k with
  | nil => cases h
  | cons a l ih =>
    rw [List.flatMap_cons]
    cases k with
    | zero =>
      rw [Nat.zero_mul, Nat.zero_add, List.getElem?_append_left (by simp [D_gleberef07_Op.enc]; omega)]
      rfl
    | succ k =>
      have := ih (k := k) (by simpa using h)
      rw [List.getElem?_append_right (by simp [D_gleberef07_Op.enc]; omega)]
      have e : (k + 1) * 7 + i - (D_gleberef07_Op.enc a).length = k * 7 + i := by simp [D_gleberef07_Op.enc]; omega
      rw [e, this]
      rfl
def intV (l : List Int) : List Value := l.map fun i => Value.int .i64 i
theorem intV_at {l : List Int} {k : Nat} (h : k < l.length) : (intV l)[k]? = some (.int .i64 l[k]) := by simp [intV, h]

def f30 (x : Int) : Int := (wrap64 (x.tmod 30 + 30)).tmod 30
theorem f30_fact (x : Int) : 0 ≤ f30 x ∧ f30 x < 30 := by
  have h1 : x.tmod 30 < 30 := Int.tmod_lt_of_pos x (by decide)
  have h2 : -30 < x.tmod 30 := Int.lt_tmod_of_pos x (b := 30) (by decide)
  have h3 : wrap64 (x.tmod 30 + 30) = x.tmod 30 + 30 := by unfold wrap64; omega
  unfold f30
  rw [h3]
  have h4 : (x.tmod 30 + 30).tmod 30 = (x.tmod 30 + 30) % 30 := Int.tmod_eq_emod_of_nonneg (by omega)
  rw [h4]
  omega
def stAt (ops : List Op7) (i : Nat) : St := (ops.take i).foldl (fun s o => doesS s o.kind o.value) St.zero
theorem stAt_succ {ops : List Op7} {i : Nat} (h : i < ops.length) : stAt ops (i + 1) = doesS (stAt ops i) ops[i].kind ops[i].value := by
  unfold stAt
  rw [List.take_add_one, List.getElem?_eq_getElem h, List.foldl_append]
  rfl
def begI (e : List Int) (i : Nat) : Int := if h : i < e.length then 10 * (i : Int) - f30 e[i] else 10 * (i : Int)
def endI (e : List Int) (i : Nat) : Int := if h : i < e.length then 10 * (i : Int) + 1 + f30 e[i] else 10 * (i : Int) + 1
def opAt (ops : List Op7) (i : Nat) : Op7 := ops.getD i default
theorem opAt_eq {ops : List Op7} {i : Nat} (h : i < ops.length) : opAt ops i = ops[i] := by simp [opAt, List.getD, h]
def rowI (ops : List Op7) (e t : List Int) (i : Nat) : It := ⟨(opAt ops i).kind, begI e i, endI t i, false, (opAt ops i).value, doesA (stAt ops i) (opAt ops i).kind⟩
def rowL (ops : List Op7) (e t : List Int) (k : Nat) : List It := (List.range k).map (rowI ops e t)
theorem rowL_length (ops : List Op7) (e t : List Int) (k : Nat) : (rowL ops e t k).length = k := by simp [rowL]
theorem rowL_succ (ops : List Op7) (e t : List Int) (k : Nat) : itsV (rowL ops e t (k + 1)) = itsV (rowL ops e t k) ++ (rowI ops e t k).enc := by
  simp [rowL, List.range_succ, itsV]
theorem row_from (ops : List Op7) (e t : List Int) : ∀ m j, j + m ≤ ops.length → Row (stAt ops j) j ((List.range' j m).map (rowI ops e t)) := by
  intro m
  induction m with
  | zero => intro j _; trivial
  | succ m ih =>
    intro j hj
    rw [List.range'_succ, List.map_cons]
    refine ⟨j, Nat.le_refl _, rfl, ?_, ?_, rfl, ?_⟩
    · show begI e j ≤ _
      unfold begI
      split
      · have := f30_fact (e[j]'(by assumption)); omega
      · omega
    · show _ ≤ endI t j
      unfold endI
      split
      · have := f30_fact (t[j]'(by assumption)); omega
      · omega
    · have := ih (j + 1) (by omega)
      rw [stAt_succ (by omega)] at this
      show Row (doesS (stAt ops j) (opAt ops j).kind (opAt ops j).value) (j + 1) _
      rw [opAt_eq (by omega)]
      exact this
theorem rowL_row (ops : List Op7) (e t : List Int) (k : Nat) (hk : k ≤ ops.length) : Row St.zero 0 (rowL ops e t k) := by
  have := row_from ops e t k 0 (by omega)
  rw [← List.range_eq_range'] at this
  exact this
theorem info_it : (Try.prog.info? 40).map (fun i => (i.zero, i.size, i.bytes)) = some (some (.agg #[.int .i64 0, .int .i64 0, .int .i64 0, .bool false, .string ⟨#[]⟩, .int .i64 0, .bool false, .string ⟨#[]⟩, .int .i64 0]), 9, 88) := by kernel_rfl

set_option maxRecDepth 100000 in
set_option maxHeartbeats 8000000 in
theorem row_any (ops : List Op7) (e t : List Int) (w : World) (A1 A2 A3 : Option Addr) (c1 c2 c3 : Nat) (hv1 : Rd w (.slice A1 ops.length c1) ops.length (opsV ops)) (hv2 : Rd w (.slice A2 e.length c2) e.length (intV e)) (hv3 : Rd w (.slice A3 t.length c3) t.length (intV t)) :
    Calls Try.prog 20 #[.slice A1 ops.length c1, .slice A2 e.length c2, .slice A3 t.length c3] w fun x w' => ∃ v', x = .returned v' ∧ w'.ownsRow w.heap.size 40 9 v' (min ops.length 12) (itsV (rowL ops e t (min ops.length 12))) ∧ Below w.heap.size w w' := by
  obtain ⟨i0, hi, hz0, hz1, hz2⟩ := info_parts info_it
  go_enter Try.func20, Try.ntmps20
  go_wp2
  have HB := alloc_new w (.cells (stC St.zero) 47)
  have hB0 : Below w.heap.size w (w.alloc (.cells (stC St.zero) 47)) := (Below.refl _ w).alloc (Nat.le_refl _) _
  have hsz : w.heap.size + 1 ≤ (w.alloc (.cells (stC St.zero) 47)).heap.size := by simp
  change Code.wp _ _ _ _ (w.alloc (.cells (stC St.zero) 47))
  generalize (w.alloc (.cells (stC St.zero) 47)) = wb at HB hB0 hsz ⊢
  replace HB := Lib.hid HB
  go_loopw [8, 9] (fun v i wr => ∃ k : Nat, k ≤ ops.length ∧ k ≤ 12 ∧ i = .int .i64 k ∧ wr.ownsRow (w.heap.size + 1) 40 9 v k (itsV (rowL ops e t k)) ∧ wr.heap[w.heap.size]? = some (.cells (stC (stAt ops k)) 47 (0, 0)) ∧ Below w.heap.size w wr)
    (fun _ i _ => 12 - (intOf i).toNat)
  case atStart => exact ⟨0, Nat.zero_le _, by omega, rfl, World.ownsRow_nil _ _ _ _, HB.out, hB0⟩
  case round =>
    clear HB hB0 hsz
    obtain ⟨k, hk, hk12, rfl, hown, hbox, hnx⟩ := hrel
    by_cases hlt : k < ops.length ∧ k < 12
    · obtain ⟨hlt, hl12⟩ := hlt
      rcases hv1 with ⟨h0, _⟩ | ⟨gl, ol, cl, hel, hgl, hcl⟩
      · omega
      cases hel
      have hi0 : (k : Int) < (ops.length : Int) := by omega
      have hi12 : (k : Int) < 12 := by omega
      have o0 := (hnx.cell (p := ⟨gl, ol + (k * 7 + 0), none⟩) hgl).trans (hcl _ _ (opsV_at hlt (i := 0) (by omega)))
      have o1 := (hnx.cell (p := ⟨gl, ol + (k * 7 + 1), none⟩) hgl).trans (hcl _ _ (opsV_at hlt (i := 1) (by omega)))
      have o2 := (hnx.cell (p := ⟨gl, ol + (k * 7 + 2), none⟩) hgl).trans (hcl _ _ (opsV_at hlt (i := 2) (by omega)))
      have o3 := (hnx.cell (p := ⟨gl, ol + (k * 7 + 3), none⟩) hgl).trans (hcl _ _ (opsV_at hlt (i := 3) (by omega)))
      have o4 := (hnx.cell (p := ⟨gl, ol + (k * 7 + 4), none⟩) hgl).trans (hcl _ _ (opsV_at hlt (i := 4) (by omega)))
      have o5 := (hnx.cell (p := ⟨gl, ol + (k * 7 + 5), none⟩) hgl).trans (hcl _ _ (opsV_at hlt (i := 5) (by omega)))
      have o6 := (hnx.cell (p := ⟨gl, ol + (k * 7 + 6), none⟩) hgl).trans (hcl _ _ (opsV_at hlt (i := 6) (by omega)))
      simp only [Nat.add_zero] at o0
      rw [← Nat.add_assoc] at o1 o2 o3 o4 o5 o6
      obtain ⟨o, ho⟩ : ∃ o, ops[k] = o := ⟨_, rfl⟩
      rw [ho] at o0 o1 o2 o3 o4 o5 o6
      obtain ⟨s, hs⟩ : ∃ s, stAt ops k = s := ⟨_, rfl⟩
      rw [hs] at hbox
      obtain ⟨da, hda⟩ : ∃ da, doesA s o.kind = da := ⟨_, rfl⟩
      obtain ⟨s', hs'⟩ : ∃ s', doesS s o.kind o.value = s' := ⟨_, rfl⟩
      have t0 : wr.cell? ⟨w.heap.size, 0, none⟩ = some (.int .i64 s.ver) := cell_of_block hbox 0
      have t1 : wr.cell? ⟨w.heap.size, 1, none⟩ = some (.string s.val) := cell_of_block hbox 1
      have hlb := lt_of_block hbox
      replace hda := Lib.hid hda
      replace hs' := Lib.hid hs'
      replace ho := Lib.hid ho
      replace hs := Lib.hid hs
      replace hown := Lib.hid hown
      replace hbox := Lib.hid hbox
      replace hnx := Lib.hid hnx
      replace hcl := Lib.hid hcl
      go_upto_region 9 with (fail)
      have hcopy := alloc_new wr (.cells #[.int .i64 o.kind, .int .i64 o.at_.x, .int .i64 o.at_.y, .string o.key, .string o.value, .int .i64 o.client, .int .i64 o.seq] 61)
      refine (rdoes_any s o.kind o.value _).mono ?_
      rw [hda.out, hs'.out]
      rintro x5 w5 ⟨rfl, hb5⟩
      simp only [anC, stC]
      have hb05 : Below wr.heap.size wr w5 := ((Below.refl _ wr).alloc (Nat.le_refl _) _).trans (hb5.mono (by simp))
      have hl5 := hb5.size
      rw [World.size_alloc] at hl5
      have K5 := block_kept hcopy hb5
      have hbox5 := block_kept hbox.out hb05
      have TB := block_alloc (block_alloc hbox5 (.cells #[.int .i64 da.e, .bool da.found, .string da.value, .int .i64 da.ver] 38)) (.cells #[.int .i64 s'.ver, .string s'.val] 47)
      have u0 : ((w5.alloc (.cells #[.int .i64 da.e, .bool da.found, .string da.value, .int .i64 da.ver] 38)).alloc (.cells #[.int .i64 s'.ver, .string s'.val] 47)).cell? ⟨w.heap.size, 0, none⟩ = some (.int .i64 s.ver) := cell_of_block TB 0
      have u1 : ((w5.alloc (.cells #[.int .i64 da.e, .bool da.found, .string da.value, .int .i64 da.ver] 38)).alloc (.cells #[.int .i64 s'.ver, .string s'.val] 47)).cell? ⟨w.heap.size, 1, none⟩ = some (.string s.val) := cell_of_block TB 1
      have g0 : ((w5.alloc (.cells #[.int .i64 da.e, .bool da.found, .string da.value, .int .i64 da.ver] 38)).alloc (.cells #[.int .i64 s'.ver, .string s'.val] 47)).frozen? ⟨w.heap.size, 0, none⟩ = false := free_of_block TB 0
      have g1 : ((w5.alloc (.cells #[.int .i64 da.e, .bool da.found, .string da.value, .int .i64 da.ver] 38)).alloc (.cells #[.int .i64 s'.ver, .string s'.val] 47)).frozen? ⟨w.heap.size, 1, none⟩ = false := free_of_block TB 1
      have hfr7 : Below wr.heap.size wr ((w5.alloc (.cells #[.int .i64 da.e, .bool da.found, .string da.value, .int .i64 da.ver] 38)).alloc (.cells #[.int .i64 s'.ver, .string s'.val] 47)) := ((hb05.alloc hb05.size _).alloc (by have := hb05.size; simp; omega) _)
      have KA := block_alloc (alloc_new w5 (.cells #[.int .i64 da.e, .bool da.found, .string da.value, .int .i64 da.ver] 38)) (.cells #[.int .i64 s'.ver, .string s'.val] 47)
      have KC := block_alloc (block_alloc K5 (.cells #[.int .i64 da.e, .bool da.found, .string da.value, .int .i64 da.ver] 38)) (.cells #[.int .i64 s'.ver, .string s'.val] 47)
      replace hb5 := Lib.hid hb5
      replace hbox5 := Lib.hid hbox5
      replace K5 := Lib.hid K5
      replace TB := Lib.hid TB
      replace KA := Lib.hid KA
      replace KC := Lib.hid KC
      replace hfr7 := Lib.hid hfr7
      replace hcopy := Lib.hid hcopy
      clear hb05 t0 t1 o0 o1 o2 o3 o4 o5 o6
      go_upto_region 9 with (fail)
      change Code.wp _ _ _ _ ((((w5.alloc (.cells #[.int .i64 da.e, .bool da.found, .string da.value, .int .i64 da.ver] 38)).alloc (.cells #[.int .i64 s'.ver, .string s'.val] 47)).setCell ⟨w.heap.size, 0, none⟩ (.int .i64 s'.ver)).setCell ⟨w.heap.size, 1, none⟩ (.string s'.val))
      have B7 : ((((w5.alloc (.cells #[.int .i64 da.e, .bool da.found, .string da.value, .int .i64 da.ver] 38)).alloc (.cells #[.int .i64 s'.ver, .string s'.val] 47)).setCell ⟨w.heap.size, 0, none⟩ (.int .i64 s'.ver)).setCell ⟨w.heap.size, 1, none⟩ (.string s'.val)).heap[w.heap.size]? = some (.cells (stC s') 47 (0, 0)) := blk_conv (block_setCell (block_setCell TB.out _) _) rfl
      have A7 := later_set_other (b := w.heap.size) (i := 1) (v := .string s'.val) (by omega) (later_set_other (b := w.heap.size) (i := 0) (v := .int .i64 s'.ver) (by omega) KA.out)
      have C7 := later_set_other (b := w.heap.size) (i := 1) (v := .string s'.val) (by omega) (later_set_other (b := w.heap.size) (i := 0) (v := .int .i64 s'.ver) (by omega) KC.out)
      have F7 : Fr (fun b => b = w.heap.size) wr ((((w5.alloc (.cells #[.int .i64 da.e, .bool da.found, .string da.value, .int .i64 da.ver] 38)).alloc (.cells #[.int .i64 s'.ver, .string s'.val] 47)).setCell ⟨w.heap.size, 0, none⟩ (.int .i64 s'.ver)).setCell ⟨w.heap.size, 1, none⟩ (.string s'.val)) := (((Fr.of_below hfr7.out (S := fun b => b = w.heap.size)).setCell (p := ⟨w.heap.size, 0, none⟩) (fun _ => rfl) _).setCell (p := ⟨w.heap.size, 1, none⟩) (fun _ => rfl) _)
      generalize ((((w5.alloc (.cells #[.int .i64 da.e, .bool da.found, .string da.value, .int .i64 da.ver] 38)).alloc (.cells #[.int .i64 s'.ver, .string s'.val] 47)).setCell ⟨w.heap.size, 0, none⟩ (.int .i64 s'.ver)).setCell ⟨w.heap.size, 1, none⟩ (.string s'.val)) = W7 at B7 A7 C7 F7 ⊢
      clear u0 u1 g0 g1 TB KA KC hfr7 K5 hbox5
      have hB7 : Below w.heap.size w W7 := hnx.out.trans (F7.below hnx.out.size (fun j hj e => by omega))
      have hown7 := own_fr hown.out F7 (fun j hj e => by have := own_base hown.out j hj; omega)
      have a0 : W7.cell? ⟨w5.heap.size, 0, none⟩ = some (.int .i64 da.e) := cell_of_block A7 0
      have a1 : W7.cell? ⟨w5.heap.size, 1, none⟩ = some (.bool da.found) := cell_of_block A7 1
      have a2 : W7.cell? ⟨w5.heap.size, 2, none⟩ = some (.string da.value) := cell_of_block A7 2
      have a3 : W7.cell? ⟨w5.heap.size, 3, none⟩ = some (.int .i64 da.ver) := cell_of_block A7 3
      have k0 : W7.cell? ⟨wr.heap.size, 0, none⟩ = some (.int .i64 o.kind) := cell_of_block C7 0
      have k3 : W7.cell? ⟨wr.heap.size, 4, none⟩ = some (.string o.value) := cell_of_block C7 4
      replace A7 := Lib.hid A7
      replace B7 := Lib.hid B7
      replace C7 := Lib.hid C7
      replace F7 := Lib.hid F7
      replace hB7 := Lib.hid hB7
      replace hown7 := Lib.hid hown7
      go_upto_if 53 with (fail)
      have XB := alloc_new W7 (.cells (itC ⟨o.kind, 10 * (k : Int), 10 * (k : Int) + 1, false, o.value, da⟩) 40)
      have hX0 : Below W7.heap.size W7 (W7.alloc (.cells (itC ⟨o.kind, 10 * (k : Int), 10 * (k : Int) + 1, false, o.value, da⟩) 40)) := (Below.refl _ W7).alloc (Nat.le_refl _) _
      change Code.wp _ _ _ _ (W7.alloc (.cells (itC ⟨o.kind, 10 * (k : Int), 10 * (k : Int) + 1, false, o.value, da⟩) 40))
      generalize (W7.alloc (.cells (itC ⟨o.kind, 10 * (k : Int), 10 * (k : Int) + 1, false, o.value, da⟩) 40)) = W8 at XB hX0 ⊢
      clear a0 a1 a2 a3 k0 k3 A7 C7
      go_cut [] (fun wx => Below W7.heap.size W7 wx ∧ wx.heap[W7.heap.size]? = some (.cells (itC ⟨o.kind, begI e k, 10 * (k : Int) + 1, false, o.value, da⟩) 40 (0, 0)))
      case first =>
        have y1 : W8.cell? ⟨W7.heap.size, 1, none⟩ = some (.int .i64 (10 * (k : Int))) := cell_of_block XB 1
        have f1 := free_of_block XB 1
        have hB8 := hB7.out.trans (hX0.mono hB7.out.size)
        by_cases he : k < e.length
        · rcases hv2 with ⟨h0, _⟩ | ⟨ge, oe, ce, hee, hge, hce⟩
          · omega
          cases hee
          have hie : (k : Int) < (e.length : Int) := by omega
          have e0 := (hB8.cell (p := ⟨ge, oe + k, none⟩) hge).trans (hce _ _ (intV_at he))
          have hbeg : wrap64 (10 * (k : Int) - (wrap64 ((e[k]).tmod 30 + 30)).tmod 30) = begI e k := by
            unfold begI
            rw [dif_pos he]
            show wrap64 (10 * (k : Int) - f30 e[k]) = _
            have := f30_fact e[k]
            unfold wrap64
            omega
          replace hbeg := Lib.hid hbeg
          replace XB := Lib.hid XB
          replace hB8 := Lib.hid hB8
          clear hce
          go_wp2_with (fail)
          go_still_tail 11, (by kernel_rfl)
          change wpList _ _ _ _ _ W8.drew
          go_wp2_with (fail)
          go_meet
          refine ⟨(hX0.drew).setCell (p := ⟨W7.heap.size, 1, none⟩) (Nat.le_refl _) _, ?_⟩
          rw [← hbeg.out]
          exact blk_conv (block_setCell (w := W8.drew) XB.out _) rfl
        · have hie : ¬ (k : Int) < (e.length : Int) := by omega
          have hbeg : begI e k = 10 * (k : Int) := by unfold begI; rw [dif_neg he]
          replace hbeg := Lib.hid hbeg
          replace XB := Lib.hid XB
          replace hB8 := Lib.hid hB8
          go_wp2_with (fail)
          go_meet
          rw [hbeg.out]
          exact ⟨hX0, XB.out⟩
      case rest =>
        obtain ⟨hb8, X8⟩ := hcut
        clear XB hX0
        go_upto_if 68 with (fail)
        go_cut [] (fun wx => Below W7.heap.size W7 wx ∧ wx.heap[W7.heap.size]? = some (.cells (itC ⟨o.kind, begI e k, endI t k, false, o.value, da⟩) 40 (0, 0)))
        case first =>
          have y2 : wc.cell? ⟨W7.heap.size, 2, none⟩ = some (.int .i64 (10 * (k : Int) + 1)) := cell_of_block X8 2
          have f2 := free_of_block X8 2
          have hB8 := hB7.out.trans (hb8.mono hB7.out.size)
          by_cases he : k < t.length
          · rcases hv3 with ⟨h0, _⟩ | ⟨gt, ot, ct, het, hgt, hct⟩
            · omega
            cases het
            have hie : (k : Int) < (t.length : Int) := by omega
            have e0 := (hB8.cell (p := ⟨gt, ot + k, none⟩) hgt).trans (hct _ _ (intV_at he))
            have hend : wrap64 (10 * (k : Int) + 1 + (wrap64 ((t[k]).tmod 30 + 30)).tmod 30) = endI t k := by
              unfold endI
              rw [dif_pos he]
              show wrap64 (10 * (k : Int) + 1 + f30 t[k]) = _
              have := f30_fact t[k]
              unfold wrap64
              omega
            replace hend := Lib.hid hend
            replace X8 := Lib.hid X8
            replace hB8 := Lib.hid hB8
            clear hct
            go_wp2_with (fail)
            go_still_tail 11, (by kernel_rfl)
            change wpList _ _ _ _ _ wc.drew
            go_wp2_with (fail)
            go_meet
            refine ⟨(hb8.drew).setCell (p := ⟨W7.heap.size, 2, none⟩) (Nat.le_refl _) _, ?_⟩
            rw [← hend.out]
            exact blk_conv (block_setCell (w := wc.drew) X8.out _) rfl
          · have hie : ¬ (k : Int) < (t.length : Int) := by omega
            have hend : endI t k = 10 * (k : Int) + 1 := by unfold endI; rw [dif_neg he]
            replace hend := Lib.hid hend
            replace X8 := Lib.hid X8
            replace hB8 := Lib.hid hB8
            go_wp2_with (fail)
            go_meet
            rw [hend.out]
            exact ⟨hb8, X8.out⟩
        case rest =>
          obtain ⟨hb9, X9⟩ := hcut
          clear X8 hb8
          have hIe : (⟨o.kind, begI e k, endI t k, false, o.value, da⟩ : It) = rowI ops e t k := by
            unfold rowI
            rw [opAt_eq hlt, ho.out, hs.out, hda.out]
          rw [hIe] at X9
          obtain ⟨x, hx⟩ : ∃ x, x = rowI ops e t k := ⟨_, rfl⟩
          rw [← hx] at X9
          have y0 : wc.cell? ⟨W7.heap.size, 0, none⟩ = some (.int .i64 x.kind) := cell_of_block X9 0
          have y1 : wc.cell? ⟨W7.heap.size, 1, none⟩ = some (.int .i64 x.begin_) := cell_of_block X9 1
          have y2 : wc.cell? ⟨W7.heap.size, 2, none⟩ = some (.int .i64 x.end_) := cell_of_block X9 2
          have y3 : wc.cell? ⟨W7.heap.size, 3, none⟩ = some (.bool x.open_) := cell_of_block X9 3
          have y4 : wc.cell? ⟨W7.heap.size, 4, none⟩ = some (.string x.value) := cell_of_block X9 4
          have y5 : wc.cell? ⟨W7.heap.size, 5, none⟩ = some (.int .i64 x.ans.e) := cell_of_block X9 5
          have y6 : wc.cell? ⟨W7.heap.size, 6, none⟩ = some (.bool x.ans.found) := cell_of_block X9 6
          have y7 : wc.cell? ⟨W7.heap.size, 7, none⟩ = some (.string x.ans.value) := cell_of_block X9 7
          have y8 : wc.cell? ⟨W7.heap.size, 8, none⟩ = some (.int .i64 x.ans.ver) := cell_of_block X9 8
          have hB9 := hB7.out.trans (hb9.mono hB7.out.size)
          have hown9 := own_fr hown7.out (Fr.of_below (S := fun _ => False) hb9) (fun _ _ h => h)
          have hbox9 := block_kept B7.out hb9
          obtain ⟨Av, cv, rfl, _⟩ := own_slice hown9
          have hlb9 := lt_of_block hbox9
          have hbx9 := lt_of_block X9
          replace X9 := Lib.hid X9
          replace hx := Lib.hid hx
          replace hbox9 := Lib.hid hbox9
          replace hB9 := Lib.hid hB9
          replace hb9 := Lib.hid hb9
          clear hIe
          go_wp2_with (at_builtin; refine wpList_append_own _ rfl _ _ 22 rfl (w.heap.size + 1) 40 i0 _ 9 88 Try.underlying22 hi hz0 hz1 hz2 rfl (by decide) _ _ _ rfl (hown9.alloc (.cells x.enc.toArray 40)) ⟨wc.heap.size, 0, none⟩ 1 1 x.enc rfl rfl (cells_new wc x.enc _) (enc_one x) ?c3 ?c4 ?c5 ?_)
          case c3 => unfold maxLen; omega
          case c4 => omega
          case c5 => simp; omega
          intro v' w1 hown' hgrow _
          have hb1 : Below w.heap.size w w1 := (hB9.out.alloc hB9.out.size _).grown hgrow (by have := hB9.out.size; simp; omega) (fun j hj => by have := own_base hown9 j hj; omega)
          have hbox1 : w1.heap[w.heap.size]? = some (.cells (stC s') 47 (0, 0)) := by
            have h1 := block_alloc hbox9.out (.cells x.enc.toArray 40)
            refine (hgrow.block w.heap.size (lt_of_block h1) ?_).trans h1
            intro hc
            have := own_base hown9 _ hc.symm
            omega
          have hst : stAt ops (k + 1) = s' := by rw [stAt_succ hlt, hs.out, ho.out, hs'.out]
          replace hown' := Lib.hid hown'
          replace hbox1 := Lib.hid hbox1
          go_wp2_with (fail)
          go_roundw
          case rel => exact ⟨k + 1, by omega, by omega, rfl, by rw [rowL_succ, ← hx.out]; exact hown'.out, by rw [hst]; exact hbox1.out, hb1⟩
          case measure => simp [intOf]; omega
    · have hend : k = min ops.length 12 := by omega
      replace hbox := Lib.hid hbox
      replace hown := Lib.hid (own_lower (base' := w.heap.size) hown (Nat.le_succ _))
      by_cases hl : k < ops.length
      · have hi0 : (k : Int) < (ops.length : Int) := by omega
        have hi12 : ¬ (k : Int) < 12 := by omega
        replace hend := Lib.hid hend
        go_wp2_with (fail)
        go_ret
        rw [← hend.out]
        exact ⟨_, rfl, hown.out, hnx⟩
      · have hi0 : ¬ (k : Int) < (ops.length : Int) := by omega
        replace hend := Lib.hid hend
        go_wp2_with (fail)
        go_ret
        rw [← hend.out]
        exact ⟨_, rfl, hown.out, hnx⟩
end Go.Proofs.Ytbengfmoimlnbaa
