/- The walk through the search's own function: it tells S and leaves the path. -/
import Derived.Deep.DeepCutAuto
import Derived.Deep.CutBlock
import Derived.Deep.QuietTactic
import Derived.StillTailTactics
import Derived.Deep.RegionHeld3
import Derived.Laws.BitsAllLaws
import Derived.Test.YtbengfmoimlnbaaTK
namespace Go.Proofs.Ytbengfmoimlnbaa
open Go.RowKit

theorem lookup_in (k : Spot) (w : World) (b : Nat) (ks : List Spot) (h : IsDead w b ks) (hk : k ∈ ks) :
    (Instr.lookup 72 (.map (some b)) (.agg #[.int .u64 (k.1 : Int), .int .i64 k.2.ver, .string k.2.val]) false).run Try.prog w = .ok (.bool true) w := by
  obtain ⟨r, hr, h1⟩ := run_lookup_dead k w b ks h
  rw [hr.2 hk] at h1
  exact h1
theorem lookup_out (k : Spot) (w : World) (b : Nat) (ks : List Spot) (h : IsDead w b ks) (hk : k ∉ ks) :
    (Instr.lookup 72 (.map (some b)) (.agg #[.int .u64 (k.1 : Int), .int .i64 k.2.ver, .string k.2.val]) false).run Try.prog w = .ok (.bool false) w := by
  obtain ⟨r, hr, h1⟩ := run_lookup_dead k w b ks h
  cases r
  · exact h1
  · exact absurd (hr.1 rfl) hk
theorem lt_allocN (w : World) (o : Obj) (n : Nat) : w.heap.size < ((w.alloc o).drewN n).heap.size := by
  show w.heap.size < (w.alloc o).heap.size
  simp
theorem below_alloc2 {B : Nat} {w w' : World} (h : Below B w w') (hB : B ≤ w'.heap.size) (o1 o2 : Obj) : Below B w ((w'.alloc o1).alloc o2) := (h.alloc hB o1).alloc (by simp; omega) o2
theorem new_at {w : World} {b c : Nat} {vs : List Value} (h : b = c) (hc : ∀ j u, vs[j]? = some u → w.cell? ((⟨b, 0, none⟩ : Addr).add j) = some u) : ∀ j u, vs[j]? = some u → w.cell? ((⟨c, 0, none⟩ : Addr).add j) = some u := h ▸ hc
theorem SR.pop {X : Bx} {w0 : World} {l : List It} {w : World} {v : Value} {P : List Nat} {ds : List Spot} {k : Nat} (h : SR X w0 l w v (P ++ [k]) ds) :
    ∃ g c, v = .slice (some ⟨g, 0, none⟩) (P.length + 1) c ∧ P.length + 1 ≤ c ∧ w.ownsRow w0.heap.size 3 1 (.slice (some ⟨g, 0, none⟩) P.length c) P.length (natV P) :=
  own_pop (x := .int .i64 (k : Int)) (by have := h.path; simpa [natV] using this)
theorem wrap_len {a : Nat} (ha : a ≤ 24) : wrap64 (a : Int) = (a : Int) := by
  unfold wrap64
  omega
def TryPost (X : Bx) (w0 : World) (l : List It) (m : Nat) (s : St) (w : World) (P : List Nat) (e : Ending) (w' : World) : Prop :=
  e = .returned (.bool (S l m s).isSome) ∧ (∃ v' ds', SR X w0 l w' v' (P ++ (S l m s).getD []) ds') ∧ Fr (SS X w0.heap.size w) w w'

set_option maxRecDepth 100000 in
set_option maxHeartbeats 2000000 in
theorem try_any (X : Bx) (w0 : World) (l : List It) (hn : l.length ≤ 24) : ∀ (f m : Nat) (s : St) (w : World) (v : Value) (P : List Nat) (ds : List Spot),
    l.length - cnt l.length m = f → m < 2 ^ 24 → P.length ≤ cnt l.length m → SR X w0 l w v P ds →
    Calls Try.prog 22 #[spotV (m, s), .pointer (some ⟨X.sbx, 0, none⟩), .pointer (some ⟨X.pb, 0, none⟩), .pointer (some ⟨X.tbx, 0, none⟩)] w (TryPost X w0 l m s w P) := by
  intro f
  induction f using Nat.strongRecOn with
  | _ f ih =>
  intro m s w v P ds hf hm hP h
  obtain ⟨i0, hi, hz0, hz1, hz2⟩ := info_parts info_int
  have b1 := cell_of_one h.sbx
  have b2 := cell_of_block h.sb 2
  have b3 := cell_of_block h.sb 3
  have b0 := cell_of_block h.sb 0
  simp only [List.getElem?_toArray, List.getElem?_cons_succ, List.getElem?_cons_zero] at b0 b2 b3
  have hl1 := lt_of_block h.sbx
  have hl2 := lt_of_block h.sb
  have hm64 : m < 18446744073709551616 := by omega
  have tl := t_left l m hn hm64
  have hSq := S_eq l m s
  cases hleft : left l m
  · rw [hleft] at tl
    rw [if_neg (by rw [hleft]; simp)] at hSq
    have HSq := Lib.hid hSq
    have H := Lib.hid h
    clear hSq h ih hleft
    unfold spotV
    go_enter Try.func22, Try.ntmps22
    go_wp2
    go_region
    go_wp2
    go_ret
    refine ⟨by rw [HSq.out]; rfl, ⟨v, ds, ?_⟩, ?_⟩
    · rw [HSq.out]
      simpa using H.out.of_below ((Below.refl _ w).alloc (Nat.le_refl _) _).drew
    · exact Fr.of_below (((Below.refl _ w).alloc (Nat.le_refl _) _).drew)
  · rw [hleft] at tl
    replace hSq := SF_zero l m s hleft
    have HRa : SR X w0 l (w.alloc (.cells #[.int .u64 (m : Int), .int .i64 s.ver, .string s.val] 70)).drew v P ds := h.of_below ((Below.refl _ w).alloc (Nat.le_refl _) _).drew
    by_cases hd : (m, s) ∈ ds
    · have HN := Lib.hid (h.sound _ hd)
      have k1 := lookup_in (m, s) _ _ ds HRa.dead hd
      have k2 := lookup_in (m, s) _ _ ds (HRa.of_below (Below.refl _ _).drew).dead hd
      have H := Lib.hid HRa
      clear h ih hleft hSq HRa
      unfold spotV
      go_enter Try.func22, Try.ntmps22
      go_wp2
      go_region
      go_wp2
      go_region
      go_wp2
      go_ret
      refine ⟨by rw [HN.out]; rfl, ⟨v, ds, ?_⟩, ?_⟩
      · rw [HN.out]
        simpa using H.out.of_below (Below.refl _ _).drew
      · exact Fr.of_below (((Below.refl _ w).alloc (Nat.le_refl _) _).drew.drew)
    · have k1 := lookup_out (m, s) _ _ ds HRa.dead hd
      have k2 := lookup_out (m, s) _ _ ds (HRa.of_below (Below.refl _ _).drew).dead hd
      have HF : Fr (SS X w0.heap.size w) w (w.alloc (.cells #[.int .u64 (m : Int), .int .i64 s.ver, .string s.val] 70)).drew.drew := Fr.of_below (((Below.refl _ w).alloc (Nat.le_refl _) _).drew.drew)
      have HB : (w.alloc (.cells #[.int .u64 (m : Int), .int .i64 s.ver, .string s.val] 70)).drew.drew.heap[w.heap.size]? = some (.cells #[.int .u64 (m : Int), .int .i64 s.ver, .string s.val] 70 (0, 0)) := alloc_new w _
      have hp := h.ltp
      have hmb := h.ltm
      have HSq := Lib.hid hSq
      have H := Lib.hid HRa
      have Hih := Lib.hid ih
      clear h ih hleft hSq HRa
      unfold spotV
      go_enter Try.func22, Try.ntmps22
      go_wp2
      go_region
      go_wp2
      go_region
      go_wp2
      go_loopw [29] (fun i wr => ∃ (k : Nat) (v' : Value) (ds' : List Spot), k ≤ l.length ∧ i = .int .i64 k ∧ SR X w0 l wr v' P ds' ∧ Fr (SS X w0.heap.size w) w wr ∧ wr.heap[w.heap.size]? = some (.cells #[.int .u64 (m : Int), .int .i64 s.ver, .string s.val] 70 (0, 0)) ∧ S l m s = SF l m s k) (fun i _ => l.length - (intOf i).toNat)
      case atStart => exact ⟨0, v, ds, Nat.zero_le _, rfl, H.out.of_below (Below.refl _ _).drew, HF, HB, HSq.out⟩
      case round =>
        clear H k1 k2 HF HB hd b0 b1 b2 b3 hl1 hl2 tl
        obtain ⟨k, v', ds', hk, rfl, hR, hF, hbox, hS⟩ := hrel
        have b1 := cell_of_one hR.sbx
        have b0 := cell_of_block hR.sb 0
        have b2 := cell_of_block hR.sb 1
        have b3 := cell_of_block hR.sb 3
        have p0 := cell_of_block hbox 0
        have p1 := cell_of_block hbox 1
        have p2 := cell_of_block hbox 2
        simp only [List.getElem?_toArray, List.getElem?_cons_succ, List.getElem?_cons_zero] at b0 b2 b3 p0 p1 p2
        have hl1 := lt_of_block hR.sbx
        have hl2 := lt_of_block hR.sb
        have hl3 := lt_of_block hR.rb
        have hl4 := lt_of_block hbox
        by_cases hlt : k < l.length
        · have hstep := SF_step l m s k hlt
          rw [← hS] at hstep
          replace hS := Lib.hid hS
          have hit := hR.items
          rcases hit with ⟨h0, _⟩ | ⟨g, o, c', he, hg, hc⟩
          · omega
          · have hxa : X.A = some ⟨g, o, none⟩ := by injection he
            rw [hxa] at b0 ⊢
            clear he
            replace hxa := Lib.hid hxa
            have hi0 : (k : Int) < (l.length : Int) := by omega
            have c0 := (hR.below.cell (p := ⟨g, o + (k * 9 + 0), none⟩) hg).trans (hc _ _ (itsV_at hlt (i := 0) (by omega)))
            have c1 := (hR.below.cell (p := ⟨g, o + (k * 9 + 1), none⟩) hg).trans (hc _ _ (itsV_at hlt (i := 1) (by omega)))
            have c2 := (hR.below.cell (p := ⟨g, o + (k * 9 + 2), none⟩) hg).trans (hc _ _ (itsV_at hlt (i := 2) (by omega)))
            have c3 := (hR.below.cell (p := ⟨g, o + (k * 9 + 3), none⟩) hg).trans (hc _ _ (itsV_at hlt (i := 3) (by omega)))
            have c4 := (hR.below.cell (p := ⟨g, o + (k * 9 + 4), none⟩) hg).trans (hc _ _ (itsV_at hlt (i := 4) (by omega)))
            have c5 := (hR.below.cell (p := ⟨g, o + (k * 9 + 5), none⟩) hg).trans (hc _ _ (itsV_at hlt (i := 5) (by omega)))
            have c6 := (hR.below.cell (p := ⟨g, o + (k * 9 + 6), none⟩) hg).trans (hc _ _ (itsV_at hlt (i := 6) (by omega)))
            have c7 := (hR.below.cell (p := ⟨g, o + (k * 9 + 7), none⟩) hg).trans (hc _ _ (itsV_at hlt (i := 7) (by omega)))
            have c8 := (hR.below.cell (p := ⟨g, o + (k * 9 + 8), none⟩) hg).trans (hc _ _ (itsV_at hlt (i := 8) (by omega)))
            simp only [Nat.add_zero] at c0
            rw [← Nat.add_assoc] at c1 c2 c3 c4 c5 c6 c7 c8
            have r0 : wr.cell? ⟨X.rb, k, none⟩ = some (.int .u64 (maskTo (aheadP l k) l.length : Int)) := by
              rw [cell_of_block hR.rb k]
              unfold rowsA
              rw [Array.getElem?_ofFn, dif_pos hlt]
              simp [rowM, hlt]
            have tt := t_taken m k hm64
            have tb := t_before l m k hn hm64
            have HR2 := Lib.hid hR
            have Hc := Lib.hid hc
            clear hR hc
            have HX2 := Lib.hid (fun o n => HR2.out.of_below (below_drewN ((Below.refl _ wr).alloc (Nat.le_refl _) o) n))
            have HXF2 := Lib.hid (fun o n => SS.below hF (below_drewN ((Below.refl _ wr).alloc (Nat.le_refl _) o) n))
            have HXb2 := Lib.hid (fun o => show (wr.alloc o).heap[w.heap.size]? = some (.cells #[.int .u64 (m : Int), .int .i64 s.ver, .string s.val] 70 (0, 0)) from (Below.heap_alloc wr _ _ hl4).trans hbox)
            cases ht : m.testBit k
            · rw [ht] at tt
              replace ht := Lib.hid ht
              cases hb : before l m k
              · rw [hb] at tb
                replace hb := Lib.hid hb
                by_cases hfit : fits l s k = true
                · have hc : can l m s k = true := by unfold can; rw [hb.out, ht.out, hfit]; rfl
                  rw [if_pos hc] at hstep
                  replace hstep := Lib.hid hstep
                  replace hc := Lib.hid hc
                  have hway : l[k].open_ = true ∨ (l[k].open_ = false ∧ ((doesA s l[k].kind).e == l[k].ans.e) = true ∧ ((doesA s l[k].kind).found == l[k].ans.found) = true ∧ ((doesA s l[k].kind).value.toList == l[k].ans.value.toList) = true ∧ ((doesA s l[k].kind).ver == l[k].ans.ver) = true) := by
                    unfold fits anEq at hfit
                    rw [itm_eq hlt] at hfit
                    cases h : l[k].open_
                    · rw [h] at hfit
                      simp only [Bool.false_or, Bool.and_eq_true] at hfit
                      exact .inr ⟨rfl, hfit.1, hfit.2.1, hfit.2.2.1, hfit.2.2.2⟩
                    · exact .inl rfl
                  replace hfit := Lib.hid hfit
                  obtain ⟨da, hda⟩ : ∃ da, da = doesA s l[k].kind := ⟨_, rfl⟩
                  rw [← hda] at hway
                  replace hda := Lib.hid hda
                  obtain ⟨s', hs'⟩ : ∃ s', s' = doesS s l[k].kind l[k].value := ⟨_, rfl⟩
                  replace hs' := Lib.hid hs'
                  rcases hway with h1 | ⟨h0, h1, h2, h3, h4⟩
                  · rw [h1] at c3
                    replace h1 := Lib.hid h1
                    go_wp2
                    go_quiet (fail)
                    go_wp2_with (first | (go_at_call 15; refine (does_any s l[k].kind l[k].value _).mono ?_; rw [← hda.out, ← hs'.out]; rintro e w' ⟨rfl, hbw⟩; simp only [anC, stC]; have hxl := Nat.lt_of_lt_of_le (lt_allocN wr _ _) hbw.size; have hxb := (hbw.block wr.heap.size (lt_allocN wr _ _)).trans (alloc_new wr _); have x3 := cell_of_block hxb 3; have x5 := cell_of_block hxb 5; have x6 := cell_of_block hxb 6; have x7 := cell_of_block hxb 7; have x8 := cell_of_block hxb 8; simp only [List.getElem?_toArray, List.getElem?_cons_succ, List.getElem?_cons_zero] at x3 x5 x6 x7 x8; have HW := (HX2.out _ _).of_below (below_alloc2 hbw hbw.size (.cells #[.int .i64 da.e, .bool da.found, .string da.value, .int .i64 da.ver] 42) (.cells #[.int .i64 s'.ver, .string s'.val] 44)); have hlp := HW.ltp; have hpc := cell_of_one HW.pb; replace HW := Lib.hid HW) | (at_builtin; refine wpList_append_own _ rfl _ _ 25 rfl w0.heap.size 3 i0 (.int .i64 0) 1 8 Try.underlying25 hi hz0 hz1 hz2 rfl (by decide) _ _ _ rfl (HW.out.path.alloc _) ⟨w'.heap.size + 1 + 1, 0, none⟩ 1 1 [.int .i64 (k : Int)] rfl rfl ?c1 ?c2 ?c3 ?c4 ?c5 ?_))
                    case c1 => exact new_at (by simp) (cell_one_new _ _ _)
                    case c2 => intro u hu; simp at hu; subst hu; rfl
                    case c3 => have := cnt_le l.length m; unfold maxLen; omega
                    case c4 => have := cnt_le l.length m; omega
                    case c5 => have := HW.out.below.size; simp at this ⊢; omega
                    intro v2 w1 hown' hgrow _
                    have HW3 := HW.out.of_below ((Below.refl _ _).alloc (Nat.le_refl _) (.cells #[.int .i64 (k : Int)] 3))
                    have ho2 : w1.ownsRow w0.heap.size 3 1 v2 (P ++ [k]).length (natV (P ++ [k])) := by simpa [natV] using hown'
                    have hpb1 := (hgrow.block _ HW3.ltp (fun e => HW3.row_pb e.symm)).trans HW3.pb
                    have q1 := cell_of_one hpb1
                    have q2 := free_of_one hpb1
                    obtain ⟨HR4, HF4⟩ := HW3.grow hgrow ho2
                    have hb2 := below_alloc2 hbw hbw.size (.cells #[.int .i64 da.e, .bool da.found, .string da.value, .int .i64 da.ver] 42) (.cells #[.int .i64 s'.ver, .string s'.val] 44)
                    have HFA := SS.comp (SS.below (HXF2.out _ _) (hb2.trans ((Below.refl _ _).alloc hb2.size (.cells #[.int .i64 (k : Int)] 3)))) HF4
                    have hsb := SS.keeps HF4 (b := w.heap.size) (((hb2.trans ((Below.refl _ _).alloc hb2.size (.cells #[.int .i64 (k : Int)] 3))).block _ (Nat.lt_trans hl4 (lt_allocN wr _ _))).trans (HXb2.out _)) (by omega) (by omega) (by decide)
                    have hnb := SS.keeps HF4 (b := w'.heap.size + 1) (cs := #[.int .i64 s'.ver, .string s'.val]) (t := 44) ((Below.heap_alloc _ _ _ (by simp)).trans (by have := alloc_new (w'.alloc (.cells #[.int .i64 da.e, .bool da.found, .string da.value, .int .i64 da.ver] 42)) (.cells #[.int .i64 s'.ver, .string s'.val] 44); rwa [World.size_alloc] at this)) (by omega) (by omega) (by decide)
                    obtain ⟨A2, cc2, rfl, _⟩ := own_slice hown'
                    replace hown' := Lib.hid hown'
                    replace ho2 := Lib.hid ho2
                    go_wp2
                    generalize w1.setCell ⟨X.pb, 0, none⟩ (.slice A2 (P.length + 1) cc2) = W5 at HR4 HFA hsb hnb ⊢
                    have tq := cell_of_one HR4.tbx
                    have sq := cell_of_block hsb 0
                    have nq0 := cell_of_block hnb 0
                    have nq1 := cell_of_block hnb 1
                    simp only [List.getElem?_toArray, List.getElem?_cons_succ, List.getElem?_cons_zero] at sq nq0 nq1
                    have sq0 := sq
                    have nq00 := nq0
                    have nq10 := nq1
                    replace HR4 := Lib.hid HR4
                    go_still_tail 8, (by kernel_rfl)
                    change wpList _ _ _ _ _ W5.drew
                    have HR6 := HR4.out.of_below (Below.refl _ _).drew
                    have HF6 := HFA.drew
                    have hsb6 : W5.drew.heap[w.heap.size]? = _ := hsb
                    clear tq sq nq0 nq1 HR4 HFA hsb hnb
                    have tq := cell_of_one HR6.tbx
                    have sq : W5.drew.cell? ⟨w.heap.size, 0, none⟩ = _ := sq0
                    have nq0 : W5.drew.cell? ⟨w'.heap.size + 1, 0, none⟩ = _ := nq00
                    have nq1 : W5.drew.cell? ⟨w'.heap.size + 1, 1, none⟩ = _ := nq10
                    generalize W5.drew = W6 at HR6 HF6 hsb6 tq sq nq0 nq1 ⊢
                    have hor := Lib.hid (or_pow m k hm (by omega))
                    have hplay : play l s k = s' := by unfold play; rw [itm_eq hlt]; exact hs'.out.symm
                    have hcs := cnt_set (n := l.length) hlt ht.out
                    have hmk : m ||| 2 ^ k < 2 ^ 24 := Nat.or_lt_two_pow hm (Nat.pow_lt_pow_right (by decide) (by omega))
                    have hIH := Hih.out (l.length - cnt l.length (m ||| 2 ^ k)) (by have := cnt_le l.length (m ||| 2 ^ k); omega) (m ||| 2 ^ k) s' W6 _ (P ++ [k]) ds' rfl hmk (by simp; omega) HR6
                    have hst := hstep.out
                    rw [hplay] at hst
                    replace hIH := Lib.hid hIH
                    replace hplay := Lib.hid hplay
                    clear hmk hcs hm
                    have hP24 := Nat.le_trans hP (Nat.le_trans (cnt_le l.length m) hn)
                    replace hP := Lib.hid hP
                    cases hsn : S l (m ||| 2 ^ k) s'
                    · rw [hsn] at hst
                      replace hst := Lib.hid hst
                      replace hsn := Lib.hid hsn
                      go_wp2_with (go_at_call 22; rw [hor.out]; refine hIH.out.mono ?_; rintro e w7 ⟨rfl, ⟨v7, ds7, HR7⟩, HF7⟩; rw [hsn.out] at HR7 ⊢; simp only [Option.getD_none, List.append_nil, Option.isSome_none] at HR7 ⊢; obtain ⟨g7, c7', rfl, hc7, hpop⟩ := HR7.pop; have hp7 := cell_of_one HR7.pb; have hf7 := free_of_one HR7.pb; have hi7 : (P.length : Int) + 1 - 1 = (P.length : Int) := (by omega); have hwp := Lib.hid (wrap_len hP24); replace HR7 := Lib.hid HR7; replace HF7 := Lib.hid HF7; replace hpop := Lib.hid hpop)
                      go_roundw
                      case rel =>
                        obtain ⟨HR8, HF8⟩ := HR7.out.put hpop.out
                        have HF78 := SS.comp HF7.out HF8
                        exact ⟨k + 1, _, ds7, by omega, rfl, HR8, SS.comp HF6 HF78, SS.keeps HF78 hsb6 (by omega) (by omega) (by decide), hst.out⟩
                      case measure => simp [intOf]; omega
                    · rename_i q
                      rw [hsn] at hst
                      replace hst := Lib.hid hst
                      replace hsn := Lib.hid hsn
                      go_wp2_with (go_at_call 22; rw [hor.out]; refine hIH.out.mono ?_; rintro e w7 ⟨rfl, ⟨v7, ds7, HR7⟩, HF7⟩; rw [hsn.out] at HR7 ⊢; replace HR7 := Lib.hid HR7; replace HF7 := Lib.hid HF7)
                      go_ret
                      refine ⟨by rw [hst.out]; rfl, ⟨v7, ds7, ?_⟩, ?_⟩
                      · rw [hst.out]
                        simpa using HR7.out
                      · exact SS.comp HF6 HF7.out
                  · rw [h0] at c3
                    replace h0 := Lib.hid h0
                    go_wp2
                    go_quiet (fail)
                    go_wp2_with (first | (go_at_call 15; refine (does_any s l[k].kind l[k].value _).mono ?_; rw [← hda.out, ← hs'.out]; rintro e w' ⟨rfl, hbw⟩; simp only [anC, stC]; have hxl := Nat.lt_of_lt_of_le (lt_allocN wr _ _) hbw.size; have hxb := (hbw.block wr.heap.size (lt_allocN wr _ _)).trans (alloc_new wr _); have x3 := cell_of_block hxb 3; have x5 := cell_of_block hxb 5; have x6 := cell_of_block hxb 6; have x7 := cell_of_block hxb 7; have x8 := cell_of_block hxb 8; simp only [List.getElem?_toArray, List.getElem?_cons_succ, List.getElem?_cons_zero] at x3 x5 x6 x7 x8; have HW := (HX2.out _ _).of_below (below_alloc2 hbw hbw.size (.cells #[.int .i64 da.e, .bool da.found, .string da.value, .int .i64 da.ver] 42) (.cells #[.int .i64 s'.ver, .string s'.val] 44)); have hlp := HW.ltp; have hpc := cell_of_one HW.pb; replace HW := Lib.hid HW) | (at_builtin; refine wpList_append_own _ rfl _ _ 25 rfl w0.heap.size 3 i0 (.int .i64 0) 1 8 Try.underlying25 hi hz0 hz1 hz2 rfl (by decide) _ _ _ rfl (HW.out.path.alloc _) ⟨w'.heap.size + 1 + 1, 0, none⟩ 1 1 [.int .i64 (k : Int)] rfl rfl ?c1 ?c2 ?c3 ?c4 ?c5 ?_))
                    case c1 => exact new_at (by simp) (cell_one_new _ _ _)
                    case c2 => intro u hu; simp at hu; subst hu; rfl
                    case c3 => have := cnt_le l.length m; unfold maxLen; omega
                    case c4 => have := cnt_le l.length m; omega
                    case c5 => have := HW.out.below.size; simp at this ⊢; omega
                    intro v2 w1 hown' hgrow _
                    have HW3 := HW.out.of_below ((Below.refl _ _).alloc (Nat.le_refl _) (.cells #[.int .i64 (k : Int)] 3))
                    have ho2 : w1.ownsRow w0.heap.size 3 1 v2 (P ++ [k]).length (natV (P ++ [k])) := by simpa [natV] using hown'
                    have hpb1 := (hgrow.block _ HW3.ltp (fun e => HW3.row_pb e.symm)).trans HW3.pb
                    have q1 := cell_of_one hpb1
                    have q2 := free_of_one hpb1
                    obtain ⟨HR4, HF4⟩ := HW3.grow hgrow ho2
                    have hb2 := below_alloc2 hbw hbw.size (.cells #[.int .i64 da.e, .bool da.found, .string da.value, .int .i64 da.ver] 42) (.cells #[.int .i64 s'.ver, .string s'.val] 44)
                    have HFA := SS.comp (SS.below (HXF2.out _ _) (hb2.trans ((Below.refl _ _).alloc hb2.size (.cells #[.int .i64 (k : Int)] 3)))) HF4
                    have hsb := SS.keeps HF4 (b := w.heap.size) (((hb2.trans ((Below.refl _ _).alloc hb2.size (.cells #[.int .i64 (k : Int)] 3))).block _ (Nat.lt_trans hl4 (lt_allocN wr _ _))).trans (HXb2.out _)) (by omega) (by omega) (by decide)
                    have hnb := SS.keeps HF4 (b := w'.heap.size + 1) (cs := #[.int .i64 s'.ver, .string s'.val]) (t := 44) ((Below.heap_alloc _ _ _ (by simp)).trans (by have := alloc_new (w'.alloc (.cells #[.int .i64 da.e, .bool da.found, .string da.value, .int .i64 da.ver] 42)) (.cells #[.int .i64 s'.ver, .string s'.val] 44); rwa [World.size_alloc] at this)) (by omega) (by omega) (by decide)
                    obtain ⟨A2, cc2, rfl, _⟩ := own_slice hown'
                    replace hown' := Lib.hid hown'
                    replace ho2 := Lib.hid ho2
                    go_wp2
                    generalize w1.setCell ⟨X.pb, 0, none⟩ (.slice A2 (P.length + 1) cc2) = W5 at HR4 HFA hsb hnb ⊢
                    have tq := cell_of_one HR4.tbx
                    have sq := cell_of_block hsb 0
                    have nq0 := cell_of_block hnb 0
                    have nq1 := cell_of_block hnb 1
                    simp only [List.getElem?_toArray, List.getElem?_cons_succ, List.getElem?_cons_zero] at sq nq0 nq1
                    have sq0 := sq
                    have nq00 := nq0
                    have nq10 := nq1
                    replace HR4 := Lib.hid HR4
                    go_still_tail 8, (by kernel_rfl)
                    change wpList _ _ _ _ _ W5.drew
                    have HR6 := HR4.out.of_below (Below.refl _ _).drew
                    have HF6 := HFA.drew
                    have hsb6 : W5.drew.heap[w.heap.size]? = _ := hsb
                    clear tq sq nq0 nq1 HR4 HFA hsb hnb
                    have tq := cell_of_one HR6.tbx
                    have sq : W5.drew.cell? ⟨w.heap.size, 0, none⟩ = _ := sq0
                    have nq0 : W5.drew.cell? ⟨w'.heap.size + 1, 0, none⟩ = _ := nq00
                    have nq1 : W5.drew.cell? ⟨w'.heap.size + 1, 1, none⟩ = _ := nq10
                    generalize W5.drew = W6 at HR6 HF6 hsb6 tq sq nq0 nq1 ⊢
                    have hor := Lib.hid (or_pow m k hm (by omega))
                    have hplay : play l s k = s' := by unfold play; rw [itm_eq hlt]; exact hs'.out.symm
                    have hcs := cnt_set (n := l.length) hlt ht.out
                    have hmk : m ||| 2 ^ k < 2 ^ 24 := Nat.or_lt_two_pow hm (Nat.pow_lt_pow_right (by decide) (by omega))
                    have hIH := Hih.out (l.length - cnt l.length (m ||| 2 ^ k)) (by have := cnt_le l.length (m ||| 2 ^ k); omega) (m ||| 2 ^ k) s' W6 _ (P ++ [k]) ds' rfl hmk (by simp; omega) HR6
                    have hst := hstep.out
                    rw [hplay] at hst
                    replace hIH := Lib.hid hIH
                    replace hplay := Lib.hid hplay
                    clear hmk hcs hm
                    have hP24 := Nat.le_trans hP (Nat.le_trans (cnt_le l.length m) hn)
                    replace hP := Lib.hid hP
                    cases hsn : S l (m ||| 2 ^ k) s'
                    · rw [hsn] at hst
                      replace hst := Lib.hid hst
                      replace hsn := Lib.hid hsn
                      go_wp2_with (go_at_call 22; rw [hor.out]; refine hIH.out.mono ?_; rintro e w7 ⟨rfl, ⟨v7, ds7, HR7⟩, HF7⟩; rw [hsn.out] at HR7 ⊢; simp only [Option.getD_none, List.append_nil, Option.isSome_none] at HR7 ⊢; obtain ⟨g7, c7', rfl, hc7, hpop⟩ := HR7.pop; have hp7 := cell_of_one HR7.pb; have hf7 := free_of_one HR7.pb; have hi7 : (P.length : Int) + 1 - 1 = (P.length : Int) := (by omega); have hwp := Lib.hid (wrap_len hP24); replace HR7 := Lib.hid HR7; replace HF7 := Lib.hid HF7; replace hpop := Lib.hid hpop)
                      go_roundw
                      case rel =>
                        obtain ⟨HR8, HF8⟩ := HR7.out.put hpop.out
                        have HF78 := SS.comp HF7.out HF8
                        exact ⟨k + 1, _, ds7, by omega, rfl, HR8, SS.comp HF6 HF78, SS.keeps HF78 hsb6 (by omega) (by omega) (by decide), hst.out⟩
                      case measure => simp [intOf]; omega
                    · rename_i q
                      rw [hsn] at hst
                      replace hst := Lib.hid hst
                      replace hsn := Lib.hid hsn
                      go_wp2_with (go_at_call 22; rw [hor.out]; refine hIH.out.mono ?_; rintro e w7 ⟨rfl, ⟨v7, ds7, HR7⟩, HF7⟩; rw [hsn.out] at HR7 ⊢; replace HR7 := Lib.hid HR7; replace HF7 := Lib.hid HF7)
                      go_ret
                      refine ⟨by rw [hst.out]; rfl, ⟨v7, ds7, ?_⟩, ?_⟩
                      · rw [hst.out]
                        simpa using HR7.out
                      · exact SS.comp HF6 HF7.out
                · rw [if_neg (by unfold can; rw [hb.out, ht.out]; simp [hfit])] at hstep
                  replace hstep := Lib.hid hstep
                  have ho : l[k].open_ = false := by
                    unfold fits at hfit
                    rw [itm_eq hlt] at hfit
                    cases h : l[k].open_
                    · rfl
                    · rw [h] at hfit; exact absurd rfl hfit
                  have hq : anEq (doesA s l[k].kind) l[k].ans = false := by
                    unfold fits at hfit
                    rw [itm_eq hlt, ho] at hfit
                    simpa using hfit
                  replace hfit := Lib.hid hfit
                  have hway : ((doesA s l[k].kind).e == l[k].ans.e) = false ∨ (((doesA s l[k].kind).e == l[k].ans.e) = true ∧ ((doesA s l[k].kind).found == l[k].ans.found) = false) ∨ (((doesA s l[k].kind).e == l[k].ans.e) = true ∧ ((doesA s l[k].kind).found == l[k].ans.found) = true ∧ ((doesA s l[k].kind).value.toList == l[k].ans.value.toList) = false) ∨ (((doesA s l[k].kind).e == l[k].ans.e) = true ∧ ((doesA s l[k].kind).found == l[k].ans.found) = true ∧ ((doesA s l[k].kind).value.toList == l[k].ans.value.toList) = true ∧ ((doesA s l[k].kind).ver == l[k].ans.ver) = false) := by
                    unfold anEq at hq
                    cases x1 : ((doesA s l[k].kind).e == l[k].ans.e) <;> cases x2 : ((doesA s l[k].kind).found == l[k].ans.found) <;> cases x3 : ((doesA s l[k].kind).value.toList == l[k].ans.value.toList) <;> simp_all
                  replace hq := Lib.hid hq
                  rw [ho] at c3
                  obtain ⟨da, hda⟩ : ∃ da, da = doesA s l[k].kind := ⟨_, rfl⟩
                  rw [← hda] at hway
                  replace hda := Lib.hid hda
                  rcases hway with h1 | ⟨h1, h2⟩ | ⟨h1, h2, h3⟩ | ⟨h1, h2, h3, h4⟩
                  all_goals
                    go_wp2
                    go_quiet (fail)
                    go_wp2_with (first | (go_at_call 15; refine (does_any s l[k].kind l[k].value _).mono ?_; rw [← hda.out]; rintro e w' ⟨rfl, hbw⟩; simp only [anC, stC]; have hxl := Nat.lt_of_lt_of_le (lt_allocN wr _ _) hbw.size; have hxb := (hbw.block wr.heap.size (lt_allocN wr _ _)).trans (alloc_new wr _); have x3 := cell_of_block hxb 3; have x5 := cell_of_block hxb 5; have x6 := cell_of_block hxb 6; have x7 := cell_of_block hxb 7; have x8 := cell_of_block hxb 8; simp only [List.getElem?_toArray, List.getElem?_cons_succ, List.getElem?_cons_zero] at x3 x5 x6 x7 x8))
                    go_roundw
                    case rel =>
                      have hb2 := fun o1 o2 => below_alloc2 hbw hbw.size o1 o2
                      exact ⟨k + 1, v', ds', by omega, rfl, (HX2.out _ _).of_below (hb2 _ _), SS.below (HXF2.out _ _) (hb2 _ _), ((hb2 _ _).block _ (Nat.lt_trans hl4 (lt_allocN wr _ _))).trans (HXb2.out _), hstep.out⟩
                    case measure => simp [intOf]; omega
              · rw [hb] at tb
                replace hb := Lib.hid hb
                rw [if_neg (by simp [can, hb.out])] at hstep
                replace hstep := Lib.hid hstep
                go_wp2
                go_quiet (fail)
                go_wp2
                go_round
                case rel => exact ⟨k + 1, v', ds', by omega, rfl, HX2.out _ _, HXF2.out _ _, HXb2.out _, hstep.out⟩
                case measure => simp [intOf]; omega
            · rw [ht] at tt
              rw [if_neg (by simp [can, ht])] at hstep
              replace hstep := Lib.hid hstep
              clear tb
              go_wp2
              go_quiet (fail)
              go_wp2
              go_round
              case rel => exact ⟨k + 1, v', ds', by omega, rfl, HX2.out _ _, HXF2.out _ _, HXb2.out _, hstep.out⟩
              case measure => simp [intOf]; omega
        · obtain rfl : k = l.length := by omega
          rw [SF_end] at hS
          obtain ⟨w9, ks9, hrun, hd9, hm9, hf9⟩ := run_update_dead (m, s) wr.drew X.mb ds' (hR.of_below (Below.refl _ _).drew).dead
          unfold spotV at hrun
          have HD9 := Lib.hid hd9
          have HM9 := Lib.hid hm9
          clear hd9 hm9
          have HRz := Lib.hid hR
          clear hR
          have HSz := Lib.hid hS
          clear hS
          go_wp2
          go_still_tail 5, (by kernel_rfl)
          change wpList _ _ _ _ _ wr.drew
          go_wp2
          go_ret
          obtain ⟨HR9, HF9⟩ := (HRz.out.of_below (Below.refl _ _).drew).died HD9.out HM9.out hf9 HSz.out
          exact ⟨by rw [HSz.out]; rfl, ⟨v', ks9, by rw [HSz.out]; simpa using HR9⟩, SS.comp hF.drew HF9⟩
end Go.Proofs.Ytbengfmoimlnbaa
