/- PoolPlays: its walk. -/
import Derived.Test.YtjfbiifcjiidfaaRO
namespace Go.Proofs.Ytjfbiifcjiidfaa
open Go.RowKit

set_option maxHeartbeats 40000000 in
set_option maxRecDepth 1000000 in
set_option linter.unusedSimpArgs false in
theorem plays_walk (w : World) (n : Int) (_hn : (Lit.int .i64 n).wf = true) (v : Value) (l : List Ac) (hv : RdK D_glebelaw20_Act.k w v l) :
    Calls Try.prog 4 #[.int .i64 n, v] w fun e w' => e = .returned (.bool true) ∧ Below w.heap.size w w' := by
  obtain ⟨A, c, rfl⟩ := hv.slice
  go_enter Try.func4, Try.ntmps4
  go_wp2_with (fail)
  refine (light_any A c l _ hv).mono ?_
  rintro e w0 ⟨⟨r, rfl, hl⟩, rfl⟩
  cases r
  · clear hl
    go_wp2_with (go_at_call 7; refine (knows_true _).mono ?_; rintro e w2 ⟨rfl, hB2⟩; replace hB2 := Lib.hid hB2)
    go_ret
    exact ⟨rfl, hB2.out⟩
  replace hl := hl rfl
  by_cases hgood : 1 ≤ n ∧ n ≤ 1024
  · obtain ⟨hn1, hn2⟩ := hgood
    go_wp2_with (fail)
    refine (new_any w0.heap.size n _ (Nat.le_refl _) hn1 hn2).mono ?_
    rintro e w1 ⟨rfl, hP, hB1⟩
    have H1 := Lib.hid hP
    replace hB1 := Lib.hid hB1
    clear hP
    go_wp2_with (fail)
    refine (R.new_ok w0.heap.size n _ hn1 hn2 hB1.out.size).mono ?_
    rintro e w2 ⟨rfl, hP, hB2⟩
    have H2 := Lib.hid hP
    have H1' : Hid (IsP w0.heap.size w0.heap.size ⟨n, 0, []⟩ (fun _ => False) w2) := H1.out.of_below hB2
    have hBB := Lib.hid (hB1.out.trans (hB2.mono hB1.out.size))
    clear hP H1 hB1 hB2
    go_wp2_with (first
      | (go_at_call 9; refine (num_any _ _).mono ?_; rintro e w9 ⟨rfl, rfl⟩)
      | (go_at_call 7; refine (knows_true _).mono ?_; rintro e w3 ⟨rfl, hB2⟩; replace hB2 := Lib.hid hB2))
    obtain ⟨br, hbr⟩ : ∃ br, br = w1.heap.size := ⟨_, rfl⟩
    rw [← hbr] at H2 ⊢
    clear hbr
    have HL : Hid (LK w0 w0.heap.size br ⟨n, 0, []⟩ 0 w3) := Lib.hid ⟨(H1'.out.of_below hB2.out).old, rOld (Go.Proofs.Ytjfbiifcjiidfaa.R.IsP.of_below H2.out hB2.out), ⟨⟨Int.le_refl _, Int.le_refl _⟩, fun _ h => (by cases h)⟩, hBB.out.trans (hB2.out.mono hBB.out.size)⟩
    clear H1' H2 hBB hB2
    have hat := fun k hk => act_at hv k hk
    replace hat := Lib.hid hat
    replace hl := Lib.hid hl
    replace hv := Lib.hid hv
    have hl0 : l.length ≤ 120 := hl.out.1
    go_loopw [5, 8] (fun vp i wr => ∃ (k bp : Nat) (s : PS), k ≤ l.length ∧ i = .int .i64 k ∧ vp = .pointer (some ⟨bp, 0, none⟩) ∧ Hid (LK w0 bp br s k wr)) (fun _ i _ => l.length - (intOf i).toNat)
    case atStart => exact ⟨0, w0.heap.size, _, Nat.zero_le _, rfl, rfl, HL⟩
    case round =>
      obtain ⟨k, bp, s, hk, rfl, rfl, HR⟩ := hrel
      obtain ⟨wr0, rfl⟩ : ∃ wr0 : World, wr0 = wr := ⟨_, rfl⟩
      by_cases hlt : k < l.length
      · obtain ⟨g, o, bv, Hat⟩ := hat.out k hlt
        obtain rfl := Hat.A
        have Hatr := Hat.below HR.out.bel
        have r0 := Hatr.c0
        have r1 := Hatr.c1
        have r2 := Hatr.c2
        have r3 := Hatr.c3
        have r4 := Hatr.c4
        obtain ⟨Ab, cb, hbv⟩ := Hatr.bytes.slice
        subst hbv
        have hi0 : (k : Int) < (l.length : Int) := by omega
        have hi1 : decide (k < l.length) = true := decide_eq_true hlt
        have hshort := hl.out.2 _ (List.getElem_mem hlt)
        have hbytes := Hat.bytes.rd_u8
        generalize l[k] = a at *
        have hA := alloc_new wr0 (.cells (bx a (.slice Ab a.x.b.length cb)) 34)
        have hbA : Below wr0.heap.size wr0 (wr0.alloc (.cells (bx a (.slice Ab a.x.b.length cb)) 34)) := (Below.refl _ _).alloc (Nat.le_refl _) _
        replace Hat := Lib.hid Hat
        replace Hatr := Lib.hid Hatr
        replace hA := Lib.hid hA
        replace hbA := Lib.hid hbA
        replace hbytes := Lib.hid hbytes
        unfold bx at hA hbA
        go_upto_block 2 with (fail)
        have hbytes1 := hbytes.out.below (HR.out.bel.trans (hbA.out.mono HR.out.bel.size))
        have hp1 := HR.out.p.of_below hbA.out
        have hr1 := HR.out.r.of_below hbA.out
        have hB1 := HR.out.bel.trans (hbA.out.mono HR.out.bel.size)
        have hsk := HR.out.s
        have hk2 : k ≤ 120 := by omega
        generalize wr0.alloc (.cells #[.int .i64 a.kind, .int .i64 a.i, .int .i64 a.x.from_, .int .i64 a.x.to_, .slice Ab a.x.b.length cb] 34) = W1 at hA hbA hbytes1 hp1 hr1 hB1 ⊢
        have q0 : W1.cell? ⟨wr0.heap.size, 0, none⟩ = some (.int .i64 a.kind) := cell_of_block hA.out 0
        have q1 : W1.cell? ⟨wr0.heap.size, 1, none⟩ = some (.int .i64 a.i) := cell_of_block hA.out 1
        have q2 : W1.cell? ⟨wr0.heap.size, 2, none⟩ = some (.int .i64 a.x.from_) := cell_of_block hA.out 2
        have q3 : W1.cell? ⟨wr0.heap.size, 3, none⟩ = some (.int .i64 a.x.to_) := cell_of_block hA.out 3
        have q4 : W1.cell? ⟨wr0.heap.size, 4, none⟩ = some (.slice Ab a.x.b.length cb) := cell_of_block hA.out 4
        have hszA := lt_of_block hA.out
        replace hbytes1 := Lib.hid hbytes1
        replace hp1 := Lib.hid hp1
        replace hr1 := Lib.hid hr1
        replace hB1 := Lib.hid hB1
        replace hsk := Lib.hid hsk
        go_cut [5] (fun vp wx => ∃ (bp' : Nat) (s' : PS), vp = .pointer (some ⟨bp', 0, none⟩) ∧ Hid (LB w0 bp' br s' (k + 1) wr0.heap.size a (.slice Ab a.x.b.length cb) wx))
        case first =>
          cases h0 : a.kind == 0
          · cases h1 : a.kind == 1
            · cases h2 : a.kind == 2
              · cases h3 : a.kind == 3
                · cases h4 : a.kind == 4
                  · cases h5 : a.kind == 5
                    · refine wp_normal (sw_else w0 bp br wr0.heap.size k s a Ab cb W1 _ _ _ _ _ _ _ _ _ _ _ _ _ _ _ _ _ _ _ _ _ _ _ _ _ _ _ _ _ _ _ _ _ _ _ _ _ _ _ _ _ _ _ _ _ _ _ _ _ _ _ _ _ _ _ _ _ _ _ _ _ _ _ _ _ _ _ _ _ _ _ _ _ _ _ _ _ _ _ _ _ _ _ _ _ _ _ _ _ _ _ _ _ _ _ _ _ _ _ _ _ _ _ _ _ _ _ _ _ _ _ _ _ _ _ _ _ _ _ _ _ _ _ _ _ _ _ _ _ _ _ _ _ _ _ _ _ _ _ _ _ _ _ _ _ _ _ _ _ _ _ _ _ _ _ _ _ _ _ _ _ _ _ _ _ _ _ _ _ _ _ _ _ _ _ _ _ _ _ _ _ _ _ _ _ _ _ _ _ _ _ _ _ _ _ _ _ _ _ _ _ _ _ _ _ _ _ _ _ _ _ _ _ _ _ _ _ _ _ _ _ _ _ _ _ _ _ _ _ _ _ _ _ _ _ _ _ _ _ _ _ _ _ _ _ _ _ _ _ _ _ _ _ _ _ _ _ hp1.out hr1.out hsk.out hk2 hB1.out hA.out HR.out.bel.size hshort hbytes.out h0 h1 h2 h3 h4 h5 (fun u4 u10 u11 u12 u13 u14 u15 u16 u17 u18 u19 u75 u76 u77 u78 u79 u80 u81 u82 u83 u84 u85 u86 u87 u88 u89 u90 u91 u92 u93 u94 u95 u96 u97 u98 u99 u100 u101 u102 u103 u104 u105 u106 u107 u108 u109 u110 u111 u112 u113 u114 u115 u116 u117 u118 u119 u120 u121 u122 u123 u124 u125 u126 u127 u128 u129 u130 u131 u132 u133 u134 u135 u136 u137 u138 u139 u140 u141 u142 u143 u144 u145 u146 u147 u148 u149 u150 u151 u152 u153 u154 u155 u156 u157 u158 u159 u160 u161 u162 u163 u164 u165 u166 u167 u168 u169 u170 u171 u172 u173 u174 u175 u176 u177 u178 u179 u180 u181 u182 u183 u184 u185 u186 u187 u188 u189 bp' s' wx hLB => ?_))
                      show Exit.then _ _ Exit.normal _ _
                      go_simp
                      apply_assumption
                      go_meet
                      exact ⟨bp', s', rfl, Lib.hid hLB⟩
                    · refine wp_normal (sw_clone w0 bp br wr0.heap.size k s a Ab cb W1 _ _ _ _ _ _ _ _ _ _ _ _ _ _ _ _ _ _ _ _ _ _ _ _ _ _ _ _ _ _ _ _ _ _ _ _ _ _ _ _ _ _ _ _ _ _ _ _ _ _ _ _ _ _ _ _ _ _ _ _ _ _ _ _ _ _ _ _ _ _ _ _ _ _ _ _ _ _ _ _ _ _ _ _ _ _ _ _ _ _ _ _ _ _ _ _ _ _ _ _ _ _ _ _ _ _ _ _ _ _ _ _ _ _ _ _ _ _ _ _ _ _ _ _ _ _ _ _ _ _ _ _ _ _ _ _ _ _ _ _ _ _ _ _ _ _ _ _ _ _ _ _ _ _ _ _ _ _ _ _ _ _ _ _ _ _ _ _ _ _ _ _ _ _ _ _ _ _ _ _ _ _ _ _ _ _ _ _ _ _ _ _ _ _ _ _ _ _ _ _ _ _ _ _ _ _ _ _ _ _ _ _ _ _ _ _ _ _ _ _ _ _ _ _ _ _ _ _ _ _ _ _ _ _ _ _ _ _ _ _ _ _ _ _ _ _ _ _ _ _ _ _ _ _ _ _ _ hp1.out hr1.out hsk.out hk2 hB1.out hA.out HR.out.bel.size hshort hbytes.out h0 h1 h2 h3 h4 h5 (fun u4 u10 u11 u12 u13 u14 u15 u16 u17 u18 u19 u75 u76 u77 u78 u79 u80 u81 u82 u83 u84 u85 u86 u87 u88 u89 u90 u91 u92 u93 u94 u95 u96 u97 u98 u99 u100 u101 u102 u103 u104 u105 u106 u107 u108 u109 u110 u111 u112 u113 u114 u115 u116 u117 u118 u119 u120 u121 u122 u123 u124 u125 u126 u127 u128 u129 u130 u131 u132 u133 u134 u135 u136 u137 u138 u139 u140 u141 u142 u143 u144 u145 u146 u147 u148 u149 u150 u151 u152 u153 u154 u155 u156 u157 u158 u159 u160 u161 u162 u163 u164 u165 u166 u167 u168 u169 u170 u171 u172 u173 u174 u175 u176 u177 u178 u179 u180 u181 u182 u183 u184 u185 u186 u187 u188 u189 bp' s' wx hLB => ?_))
                      show Exit.then _ _ Exit.normal _ _
                      go_simp
                      apply_assumption
                      go_meet
                      exact ⟨bp', s', rfl, Lib.hid hLB⟩
                  · refine wp_normal (sw_all w0 bp br wr0.heap.size k s a Ab cb W1 _ _ _ _ _ _ _ _ _ _ _ _ _ _ _ _ _ _ _ _ _ _ _ _ _ _ _ _ _ _ _ _ _ _ _ _ _ _ _ _ _ _ _ _ _ _ _ _ _ _ _ _ _ _ _ _ _ _ _ _ _ _ _ _ _ _ _ _ _ _ _ _ _ _ _ _ _ _ _ _ _ _ _ _ _ _ _ _ _ _ _ _ _ _ _ _ _ _ _ _ _ _ _ _ _ _ _ _ _ _ _ _ _ _ _ _ _ _ _ _ _ _ _ _ _ _ _ _ _ _ _ _ _ _ _ _ _ _ _ _ _ _ _ _ _ _ _ _ _ _ _ _ _ _ _ _ _ _ _ _ _ _ _ _ _ _ _ _ _ _ _ _ _ _ _ _ _ _ _ _ _ _ _ _ _ _ _ _ _ _ _ _ _ _ _ _ _ _ _ _ _ _ _ _ _ _ _ _ _ _ _ _ _ _ _ _ _ _ _ _ _ _ _ _ _ _ _ _ _ _ _ _ _ _ _ _ _ _ _ _ _ _ _ _ _ _ _ _ _ _ _ _ _ _ _ _ _ hp1.out hr1.out hsk.out hk2 hB1.out hA.out HR.out.bel.size hshort hbytes.out h0 h1 h2 h3 h4 (fun u4 u10 u11 u12 u13 u14 u15 u16 u17 u18 u19 u75 u76 u77 u78 u79 u80 u81 u82 u83 u84 u85 u86 u87 u88 u89 u90 u91 u92 u93 u94 u95 u96 u97 u98 u99 u100 u101 u102 u103 u104 u105 u106 u107 u108 u109 u110 u111 u112 u113 u114 u115 u116 u117 u118 u119 u120 u121 u122 u123 u124 u125 u126 u127 u128 u129 u130 u131 u132 u133 u134 u135 u136 u137 u138 u139 u140 u141 u142 u143 u144 u145 u146 u147 u148 u149 u150 u151 u152 u153 u154 u155 u156 u157 u158 u159 u160 u161 u162 u163 u164 u165 u166 u167 u168 u169 u170 u171 u172 u173 u174 u175 u176 u177 u178 u179 u180 u181 u182 u183 u184 u185 u186 u187 u188 u189 bp' s' wx hLB => ?_))
                    show Exit.then _ _ Exit.normal _ _
                    go_simp
                    apply_assumption
                    go_meet
                    exact ⟨bp', s', rfl, Lib.hid hLB⟩
                · refine wp_normal (sw_drop w0 bp br wr0.heap.size k s a Ab cb W1 _ _ _ _ _ _ _ _ _ _ _ _ _ _ _ _ _ _ _ _ _ _ _ _ _ _ _ _ _ _ _ _ _ _ _ _ _ _ _ _ _ _ _ _ _ _ _ _ _ _ _ _ _ _ _ _ _ _ _ _ _ _ _ _ _ _ _ _ _ _ _ _ _ _ _ _ _ _ _ _ _ _ _ _ _ _ _ _ _ _ _ _ _ _ _ _ _ _ _ _ _ _ _ _ _ _ _ _ _ _ _ _ _ _ _ _ _ _ _ _ _ _ _ _ _ _ _ _ _ _ _ _ _ _ _ _ _ _ _ _ _ _ _ _ _ _ _ _ _ _ _ _ _ _ _ _ _ _ _ _ _ _ _ _ _ _ _ _ _ _ _ _ _ _ _ _ _ _ _ _ _ _ _ _ _ _ _ _ _ _ _ _ _ _ _ _ _ _ _ _ _ _ _ _ _ _ _ _ _ _ _ _ _ _ _ _ _ _ _ _ _ _ _ _ _ _ _ _ _ _ _ _ _ _ _ _ _ _ _ _ _ _ _ _ _ _ _ _ _ _ _ _ _ _ _ _ _ hp1.out hr1.out hsk.out hk2 hB1.out hA.out HR.out.bel.size hshort hbytes.out h0 h1 h2 h3 (fun u4 u10 u11 u12 u13 u14 u15 u16 u17 u18 u19 u75 u76 u77 u78 u79 u80 u81 u82 u83 u84 u85 u86 u87 u88 u89 u90 u91 u92 u93 u94 u95 u96 u97 u98 u99 u100 u101 u102 u103 u104 u105 u106 u107 u108 u109 u110 u111 u112 u113 u114 u115 u116 u117 u118 u119 u120 u121 u122 u123 u124 u125 u126 u127 u128 u129 u130 u131 u132 u133 u134 u135 u136 u137 u138 u139 u140 u141 u142 u143 u144 u145 u146 u147 u148 u149 u150 u151 u152 u153 u154 u155 u156 u157 u158 u159 u160 u161 u162 u163 u164 u165 u166 u167 u168 u169 u170 u171 u172 u173 u174 u175 u176 u177 u178 u179 u180 u181 u182 u183 u184 u185 u186 u187 u188 u189 bp' s' wx hLB => ?_))
                  show Exit.then _ _ Exit.normal _ _
                  go_simp
                  apply_assumption
                  go_meet
                  exact ⟨bp', s', rfl, Lib.hid hLB⟩
              · refine wp_normal (sw_twice w0 bp br wr0.heap.size k s a Ab cb W1 _ _ _ _ _ _ _ _ _ _ _ _ _ _ _ _ _ _ _ _ _ _ _ _ _ _ _ _ _ _ _ _ _ _ _ _ _ _ _ _ _ _ _ _ _ _ _ _ _ _ _ _ _ _ _ _ _ _ _ _ _ _ _ _ _ _ _ _ _ _ _ _ _ _ _ _ _ _ _ _ _ _ _ _ _ _ _ _ _ _ _ _ _ _ _ _ _ _ _ _ _ _ _ _ _ _ _ _ _ _ _ _ _ _ _ _ _ _ _ _ _ _ _ _ _ _ _ _ _ _ _ _ _ _ _ _ _ _ _ _ _ _ _ _ _ _ _ _ _ _ _ _ _ _ _ _ _ _ _ _ _ _ _ _ _ _ _ _ _ _ _ _ _ _ _ _ _ _ _ _ _ _ _ _ _ _ _ _ _ _ _ _ _ _ _ _ _ _ _ _ _ _ _ _ _ _ _ _ _ _ _ _ _ _ _ _ _ _ _ _ _ _ _ _ _ _ _ _ _ _ _ _ _ _ _ _ _ _ _ _ _ _ _ _ _ _ _ _ _ _ _ _ _ _ _ _ _ hp1.out hr1.out hsk.out hk2 hB1.out hA.out HR.out.bel.size hshort hbytes.out h0 h1 h2 (fun u4 u10 u11 u12 u13 u14 u15 u16 u17 u18 u19 u75 u76 u77 u78 u79 u80 u81 u82 u83 u84 u85 u86 u87 u88 u89 u90 u91 u92 u93 u94 u95 u96 u97 u98 u99 u100 u101 u102 u103 u104 u105 u106 u107 u108 u109 u110 u111 u112 u113 u114 u115 u116 u117 u118 u119 u120 u121 u122 u123 u124 u125 u126 u127 u128 u129 u130 u131 u132 u133 u134 u135 u136 u137 u138 u139 u140 u141 u142 u143 u144 u145 u146 u147 u148 u149 u150 u151 u152 u153 u154 u155 u156 u157 u158 u159 u160 u161 u162 u163 u164 u165 u166 u167 u168 u169 u170 u171 u172 u173 u174 u175 u176 u177 u178 u179 u180 u181 u182 u183 u184 u185 u186 u187 u188 u189 bp' s' wx hLB => ?_))
                show Exit.then _ _ Exit.normal _ _
                go_simp
                apply_assumption
                go_meet
                exact ⟨bp', s', rfl, Lib.hid hLB⟩
            · refine wp_normal (sw_take w0 bp br wr0.heap.size k s a Ab cb W1 _ _ _ _ _ _ _ _ _ _ _ _ _ _ _ _ _ _ _ _ _ _ _ _ _ _ _ _ _ _ _ _ _ _ _ _ _ _ _ _ _ _ _ _ _ _ _ _ _ _ _ _ _ _ _ _ _ _ _ _ _ _ _ _ _ _ _ _ _ _ _ _ _ _ _ _ _ _ _ _ _ _ _ _ _ _ _ _ _ _ _ _ _ _ _ _ _ _ _ _ _ _ _ _ _ _ _ _ _ _ _ _ _ _ _ _ _ _ _ _ _ _ _ _ _ _ _ _ _ _ _ _ _ _ _ _ _ _ _ _ _ _ _ _ _ _ _ _ _ _ _ _ _ _ _ _ _ _ _ _ _ _ _ _ _ _ _ _ _ _ _ _ _ _ _ _ _ _ _ _ _ _ _ _ _ _ _ _ _ _ _ _ _ _ _ _ _ _ _ _ _ _ _ _ _ _ _ _ _ _ _ _ _ _ _ _ _ _ _ _ _ _ _ _ _ _ _ _ _ _ _ _ _ _ _ _ _ _ _ _ _ _ _ _ _ _ _ _ _ _ _ _ _ _ _ _ _ hp1.out hr1.out hsk.out hk2 hB1.out hA.out HR.out.bel.size hshort hbytes.out h0 h1 (fun u4 u10 u11 u12 u13 u14 u15 u16 u17 u18 u19 u75 u76 u77 u78 u79 u80 u81 u82 u83 u84 u85 u86 u87 u88 u89 u90 u91 u92 u93 u94 u95 u96 u97 u98 u99 u100 u101 u102 u103 u104 u105 u106 u107 u108 u109 u110 u111 u112 u113 u114 u115 u116 u117 u118 u119 u120 u121 u122 u123 u124 u125 u126 u127 u128 u129 u130 u131 u132 u133 u134 u135 u136 u137 u138 u139 u140 u141 u142 u143 u144 u145 u146 u147 u148 u149 u150 u151 u152 u153 u154 u155 u156 u157 u158 u159 u160 u161 u162 u163 u164 u165 u166 u167 u168 u169 u170 u171 u172 u173 u174 u175 u176 u177 u178 u179 u180 u181 u182 u183 u184 u185 u186 u187 u188 u189 bp' s' wx hLB => ?_))
              show Exit.then _ _ Exit.normal _ _
              go_simp
              apply_assumption
              go_meet
              exact ⟨bp', s', rfl, Lib.hid hLB⟩
          · refine wp_normal (sw_send w0 bp br wr0.heap.size k s a Ab cb W1 _ _ _ _ _ _ _ _ _ _ _ _ _ _ _ _ _ _ _ _ _ _ _ _ _ _ _ _ _ _ _ _ _ _ _ _ _ _ _ _ _ _ _ _ _ _ _ _ _ _ _ _ _ _ _ _ _ _ _ _ _ _ _ _ _ _ _ _ _ _ _ _ _ _ _ _ _ _ _ _ _ _ _ _ _ _ _ _ _ _ _ _ _ _ _ _ _ _ _ _ _ _ _ _ _ _ _ _ _ _ _ _ _ _ _ _ _ _ _ _ _ _ _ _ _ _ _ _ _ _ _ _ _ _ _ _ _ _ _ _ _ _ _ _ _ _ _ _ _ _ _ _ _ _ _ _ _ _ _ _ _ _ _ _ _ _ _ _ _ _ _ _ _ _ _ _ _ _ _ _ _ _ _ _ _ _ _ _ _ _ _ _ _ _ _ _ _ _ _ _ _ _ _ _ _ _ _ _ _ _ _ _ _ _ _ _ _ _ _ _ _ _ _ _ _ _ _ _ _ _ _ _ _ _ _ _ _ _ _ _ _ _ _ _ _ _ _ _ _ _ _ _ _ _ _ _ _ hp1.out hr1.out hsk.out hk2 hB1.out hA.out HR.out.bel.size hshort hbytes.out h0 (fun u4 u10 u11 u12 u13 u14 u15 u16 u17 u18 u19 u75 u76 u77 u78 u79 u80 u81 u82 u83 u84 u85 u86 u87 u88 u89 u90 u91 u92 u93 u94 u95 u96 u97 u98 u99 u100 u101 u102 u103 u104 u105 u106 u107 u108 u109 u110 u111 u112 u113 u114 u115 u116 u117 u118 u119 u120 u121 u122 u123 u124 u125 u126 u127 u128 u129 u130 u131 u132 u133 u134 u135 u136 u137 u138 u139 u140 u141 u142 u143 u144 u145 u146 u147 u148 u149 u150 u151 u152 u153 u154 u155 u156 u157 u158 u159 u160 u161 u162 u163 u164 u165 u166 u167 u168 u169 u170 u171 u172 u173 u174 u175 u176 u177 u178 u179 u180 u181 u182 u183 u184 u185 u186 u187 u188 u189 bp' s' wx hLB => ?_))
            show Exit.then _ _ Exit.normal _ _
            go_simp
            apply_assumption
            go_meet
            exact ⟨bp', s', rfl, Lib.hid hLB⟩
        case rest =>
          obtain ⟨bp', s', rfl, HC⟩ := hcut
          cases hin : inR s' a.i
          · cases hneg : decide (0 ≤ a.i)
            · apply_assumption
              refine wp_normal (row_neg w0 bp' br wr0.heap.size (k + 1) s' a (.slice Ab a.x.b.length cb) wc _ _ _ _ _ _ _ _ _ _ _ _ _ _ _ _ _ _ _ _ _ _ _ _ _ _ _ _ _ _ _ _ _ _ _ _ _ _ _ _ _ _ _ _ _ _ _ _ _ _ _ _ _ _ _ _ _ _ _ _ _ _ _ _ _ _ _ _ _ _ _ _ _ _ _ _ _ _ _ _ _ _ _ _ _ _ _ _ _ _ _ _ _ _ _ _ _ _ _ _ _ _ _ _ _ _ _ _ _ _ _ _ _ _ _ _ _ _ _ _ _ _ _ _ _ _ _ _ _ _ _ _ _ _ _ _ _ _ _ _ _ _ _ _ _ _ _ _ _ _ _ _ _ _ _ _ _ _ _ _ _ _ _ _ _ _ _ _ _ _ _ _ _ _ _ _ _ _ _ _ _ _ _ _ _ _ _ _ _ _ _ _ _ _ _ _ _ _ _ _ _ _ _ _ _ _ _ _ _ _ _ _ _ _ _ _ _ _ _ _ _ _ _ _ _ _ _ _ _ _ _ _ _ _ _ _ _ _ _ _ _ _ _ _ _ _ _ _ _ _ _ _ _ _ _ _ _ _ HC.out (by omega) hin hneg (fun u20 u21 u190 u191 u192 u193 u194 u195 u196 u197 u198 u199 u200 u201 u202 u203 u204 u205 u206 u207 u208 u209 u210 u211 u212 u213 u214 u215 u216 u217 u218 u219 u220 u221 u222 u223 u224 u225 u226 u227 u228 u229 u230 u231 u232 u233 u234 u235 u236 u237 u238 u239 u240 u241 u242 u243 u244 u245 u246 u247 u248 u249 u250 u251 u252 u253 u254 u255 u256 u257 u258 u259 wx hLB => ?_))
              show Exit.inBlock _ _ Exit.normal _ _
              go_simp
              go_wp2
              go_roundw
              case rel => exact ⟨k + 1, bp', s', by omega, by go_num, rfl, Lib.hid ⟨hLB.p.old, rOld hLB.r, hLB.s, hLB.bel⟩⟩
              case measure => simp [intOf]; omega
            · apply_assumption
              refine wp_normal (row_over w0 bp' br wr0.heap.size (k + 1) s' a (.slice Ab a.x.b.length cb) wc _ _ _ _ _ _ _ _ _ _ _ _ _ _ _ _ _ _ _ _ _ _ _ _ _ _ _ _ _ _ _ _ _ _ _ _ _ _ _ _ _ _ _ _ _ _ _ _ _ _ _ _ _ _ _ _ _ _ _ _ _ _ _ _ _ _ _ _ _ _ _ _ _ _ _ _ _ _ _ _ _ _ _ _ _ _ _ _ _ _ _ _ _ _ _ _ _ _ _ _ _ _ _ _ _ _ _ _ _ _ _ _ _ _ _ _ _ _ _ _ _ _ _ _ _ _ _ _ _ _ _ _ _ _ _ _ _ _ _ _ _ _ _ _ _ _ _ _ _ _ _ _ _ _ _ _ _ _ _ _ _ _ _ _ _ _ _ _ _ _ _ _ _ _ _ _ _ _ _ _ _ _ _ _ _ _ _ _ _ _ _ _ _ _ _ _ _ _ _ _ _ _ _ _ _ _ _ _ _ _ _ _ _ _ _ _ _ _ _ _ _ _ _ _ _ _ _ _ _ _ _ _ _ _ _ _ _ _ _ _ _ _ _ _ _ _ _ _ _ _ _ _ _ _ _ _ _ _ HC.out (by omega) hin hneg (fun u20 u21 u190 u191 u192 u193 u194 u195 u196 u197 u198 u199 u200 u201 u202 u203 u204 u205 u206 u207 u208 u209 u210 u211 u212 u213 u214 u215 u216 u217 u218 u219 u220 u221 u222 u223 u224 u225 u226 u227 u228 u229 u230 u231 u232 u233 u234 u235 u236 u237 u238 u239 u240 u241 u242 u243 u244 u245 u246 u247 u248 u249 u250 u251 u252 u253 u254 u255 u256 u257 u258 u259 wx hLB => ?_))
              show Exit.inBlock _ _ Exit.normal _ _
              go_simp
              go_wp2
              go_roundw
              case rel => exact ⟨k + 1, bp', s', by omega, by go_num, rfl, Lib.hid ⟨hLB.p.old, rOld hLB.r, hLB.s, hLB.bel⟩⟩
              case measure => simp [intOf]; omega
          · apply_assumption
            refine wp_normal (row_in w0 bp' br wr0.heap.size (k + 1) s' a (.slice Ab a.x.b.length cb) wc _ _ _ _ _ _ _ _ _ _ _ _ _ _ _ _ _ _ _ _ _ _ _ _ _ _ _ _ _ _ _ _ _ _ _ _ _ _ _ _ _ _ _ _ _ _ _ _ _ _ _ _ _ _ _ _ _ _ _ _ _ _ _ _ _ _ _ _ _ _ _ _ _ _ _ _ _ _ _ _ _ _ _ _ _ _ _ _ _ _ _ _ _ _ _ _ _ _ _ _ _ _ _ _ _ _ _ _ _ _ _ _ _ _ _ _ _ _ _ _ _ _ _ _ _ _ _ _ _ _ _ _ _ _ _ _ _ _ _ _ _ _ _ _ _ _ _ _ _ _ _ _ _ _ _ _ _ _ _ _ _ _ _ _ _ _ _ _ _ _ _ _ _ _ _ _ _ _ _ _ _ _ _ _ _ _ _ _ _ _ _ _ _ _ _ _ _ _ _ _ _ _ _ _ _ _ _ _ _ _ _ _ _ _ _ _ _ _ _ _ _ _ _ _ _ _ _ _ _ _ _ _ _ _ _ _ _ _ _ _ _ _ _ _ _ _ _ _ _ _ _ _ _ _ _ _ _ _ HC.out (by omega) hin (fun u20 u21 u190 u191 u192 u193 u194 u195 u196 u197 u198 u199 u200 u201 u202 u203 u204 u205 u206 u207 u208 u209 u210 u211 u212 u213 u214 u215 u216 u217 u218 u219 u220 u221 u222 u223 u224 u225 u226 u227 u228 u229 u230 u231 u232 u233 u234 u235 u236 u237 u238 u239 u240 u241 u242 u243 u244 u245 u246 u247 u248 u249 u250 u251 u252 u253 u254 u255 u256 u257 u258 u259 wx hLB => ?_))
            show Exit.inBlock _ _ Exit.normal _ _
            go_simp
            go_wp2
            go_roundw
            case rel => exact ⟨k + 1, bp', s', by omega, by go_num, rfl, Lib.hid ⟨hLB.p.old, rOld hLB.r, hLB.s, hLB.bel⟩⟩
            case measure => simp [intOf]; omega
      · go_wp2
        go_ret
        exact ⟨rfl, HR.out.bel⟩
  · go_wp2_with (fail)
    refine (Go.Proofs.Ytjfbiifcjiidfaa.new_bad n _ (by omega)).mono ?_
    rintro e w1 ⟨rfl, rfl⟩
    go_wp2_with (fail)
    refine (R.new_bad n _ (by omega)).mono ?_
    rintro e w1 ⟨rfl, rfl⟩
    go_wp2_with (first
      | (go_at_call 9; refine (num_any _ _).mono ?_; rintro e w9 ⟨rfl, rfl⟩)
      | (go_at_call 7; refine (knows_true _).mono ?_; rintro e w3 ⟨rfl, hB2⟩; replace hB2 := Lib.hid hB2))
    refine wp_loop_once ?_
    go_wp2
    all_goals (go_ret; exact ⟨rfl, hB2.out⟩)
end Go.Proofs.Ytjfbiifcjiidfaa
