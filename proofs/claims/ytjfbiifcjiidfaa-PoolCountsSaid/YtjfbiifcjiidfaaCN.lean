/- PoolCounts: its walk. -/
import Derived.Test.YtjfbiifcjiidfaaKW
namespace Go.Proofs.Ytjfbiifcjiidfaa
open Go.RowKit

def pk (n : Nat) : Pc := ⟨0, 1, [(n : Int), 0]⟩
/-- What holds behind each act: so many were sent, taken, lost; what is there was sent in this order. -/
structure CI (m : Nat) (ns : List Nat) (lost sent taken : Nat) : Prop where
  len : ns.length ≤ m
  sum : ns.length + taken + lost = sent
  lt : ∀ n ∈ ns, n < sent
  inc : ns.Pairwise (· < ·)
def cs (m : Nat) (ns : List Nat) (lost : Nat) : PS := ⟨m, lost, ns.map pk⟩
theorem CI.start (m : Nat) : CI m [] 0 0 0 := ⟨Nat.zero_le _, rfl, fun _ h => (by cases h), .nil⟩
theorem CI.ok {m : Nat} {ns : List Nat} {lost sent taken : Nat} (h : CI m ns lost sent taken) (hs : sent ≤ 120) : SOk (cs m ns lost) :=
  ⟨by have := h.sum; simp [cs]; omega, fun x hx => by
    obtain ⟨n, _, rfl⟩ := List.mem_map.1 hx
    simp [pk]⟩
theorem bad_pk (n : Nat) : badP (pk n) = false := by simp [badP, pk, okN]
theorem CI.sendR {m : Nat} {ns : List Nat} {lost : Nat} (sent : Nat) : (Go.Proofs.Ytjfbiifcjiidfaa.sendR (cs m ns lost) (pk sent) == 0) = decide (ns.length < m) := by
  unfold Go.Proofs.Ytjfbiifcjiidfaa.sendR
  rw [if_neg (by simp [bad_pk])]
  by_cases h : m ≤ ns.length
  · rw [if_pos (by simp [cs]; omega), decide_eq_false (by omega)]; rfl
  · rw [if_neg (by simp [cs]; omega), decide_eq_true (by omega)]; rfl
theorem CI.send {m : Nat} {ns : List Nat} {lost sent taken : Nat} (h : CI m ns lost sent taken) : ∃ ns' lost', sendS (cs m ns lost) (pk sent) = cs m ns' lost' ∧ CI m ns' lost' (sent + 1) taken := by
  unfold sendS
  rw [if_neg (by simp [bad_pk])]
  by_cases hm : m ≤ ns.length
  · refine ⟨ns, lost + 1, by rw [if_pos (by simp [cs]; omega)]; rfl, h.len, by have := h.sum; omega, fun n hn => Nat.lt_succ_of_lt (h.lt n hn), h.inc⟩
  · refine ⟨ns ++ [sent], lost, by rw [if_neg (by simp [cs]; omega)]; simp [cs], by simp; omega, by have := h.sum; simp; omega, fun n hn => ?_, ?_⟩
    · rcases List.mem_append.1 hn with hn | hn
      · exact Nat.lt_succ_of_lt (h.lt n hn)
      · simp at hn; omega
    · rw [List.pairwise_append]
      exact ⟨h.inc, List.pairwise_singleton _ _, fun a ha b hb => by simp at hb; subst hb; exact h.lt a ha⟩
theorem map_eraseIdx {α β : Type} (f : α → β) : ∀ (l : List α) (k : Nat), (l.map f).eraseIdx k = (l.eraseIdx k).map f
  | [], _ => rfl
  | _ :: _, 0 => rfl
  | x :: l, k + 1 => by simp [map_eraseIdx f l k]
theorem CI.erase {m : Nat} {ns : List Nat} {lost sent taken : Nat} (h : CI m ns lost sent taken) {k : Nat} (hk : k < ns.length) : (ns.eraseIdx k).length + 1 = ns.length ∧ (∀ n ∈ ns.eraseIdx k, n < sent) ∧ (ns.eraseIdx k).Pairwise (· < ·) :=
  ⟨by rw [List.length_eraseIdx_of_lt hk]; omega, fun n hn => h.lt n (List.mem_of_mem_eraseIdx hn), h.inc.sublist (List.eraseIdx_sublist ns k)⟩
theorem CI.take {m : Nat} {ns : List Nat} {lost sent taken : Nat} (h : CI m ns lost sent taken) (i : Int) : ∃ ns', takeS (cs m ns lost) i = cs m ns' lost ∧ CI m ns' lost sent (if (takeR (cs m ns lost) i == 0) = true then taken + 1 else taken) := by
  unfold takeS takeR
  cases hi : inR (cs m ns lost) i
  · exact ⟨ns, rfl, h⟩
  · obtain ⟨k, rfl, hk⟩ := inR_nat hi
    have hk : k < ns.length := by simpa [cs] using hk
    obtain ⟨h1, h2, h3⟩ := h.erase hk
    refine ⟨ns.eraseIdx k, by simp [cs, map_eraseIdx], by have := h.len; omega, ?_, h2, h3⟩
    have := h.sum
    simp; omega
theorem CI.drop {m : Nat} {ns : List Nat} {lost sent taken : Nat} (h : CI m ns lost sent taken) (i : Int) : ∃ ns' lost', dropS (cs m ns lost) i = cs m ns' lost' ∧ CI m ns' lost' sent taken := by
  unfold dropS
  cases hi : inR (cs m ns lost) i
  · exact ⟨ns, lost, rfl, h⟩
  · obtain ⟨k, rfl, hk⟩ := inR_nat hi
    have hk : k < ns.length := by simpa [cs] using hk
    obtain ⟨h1, h2, h3⟩ := h.erase hk
    exact ⟨ns.eraseIdx k, lost + 1, by simp [cs, map_eraseIdx], by have := h.len; omega, by have := h.sum; omega, h2, h3⟩
theorem CI.all {m : Nat} {ns : List Nat} {lost sent taken : Nat} (h : CI m ns lost sent taken) : CI m [] lost sent (taken + ns.length) :=
  ⟨Nat.zero_le _, by have := h.sum; simp; omega, fun _ h => (by cases h), .nil⟩
theorem CI.at_ {m : Nat} {ns : List Nat} {lost sent taken : Nat} (h : CI m ns lost sent taken) {k : Nat} (hk : k + 1 < ns.length) : ns[k] < ns[k + 1] ∧ ns[k + 1] < sent :=
  ⟨(List.pairwise_iff_getElem.1 h.inc) k (k + 1) (by omega) hk (by omega), h.lt _ (List.getElem_mem hk)⟩
theorem cs_item {m : Nat} {ns : List Nat} {lost k : Nat} (hk : k < ns.length) : itemAt (cs m ns lost) (k : Int) = pk ns[k] ∧ inR (cs m ns lost) (k : Int) = true := by
  have hl : k < (cs m ns lost).l.length := by simpa [cs] using hk
  exact ⟨by rw [itemAt_of hl]; simp [cs], inR_of hl⟩

/-- How many the pool holds at most. -/
def mostN (n : Int) : Nat := (1 + Int.tmod n 20 % 20).toNat
theorem mostN_eq (n : Int) : 1 + Int.tmod n 20 % 20 = (mostN n : Int) ∧ 1 ≤ mostN n ∧ mostN n ≤ 20 := by
  unfold mostN
  omega
set_option maxHeartbeats 4000000 in
set_option maxRecDepth 100000 in
theorem counts_walk (w : World) (n : Int) (_hn : (Lit.int .i64 n).wf = true) (v : Value) (l : List Ac) (hv : RdK D_glebelaw20_Act.k w v l) :
    Calls Try.prog 3 #[.int .i64 n, v] w fun e w' => e = .returned (.bool true) ∧ Below w.heap.size w w' := by
  obtain ⟨A, c, rfl⟩ := hv.slice
  obtain ⟨hm1, hm2, hm3⟩ := mostN_eq n
  have ht1 : -20 < Int.tmod n 20 := Int.lt_tmod_of_pos n (by omega)
  have ht2 : Int.tmod n 20 < 20 := Int.tmod_lt_of_pos n (by omega)
  have ht3 := Int.tmod_lt_of_pos (Int.tmod n 20 + 20) (b := 20) (by omega)
  have ht4 := Int.tmod_nonneg (a := Int.tmod n 20 + 20) 20 (by omega)
  generalize mostN n = m at *
  replace hm1 := Lib.hid hm1
  go_enter Try.func3, Try.ntmps3
  go_wp2_with (fail)
  refine (light_any A c l _ hv).mono ?_
  rintro e w0 ⟨⟨r, rfl, hl⟩, rfl⟩
  cases r
  · clear hl
    go_wp2_with (go_at_call 7; refine (knows_true _).mono ?_; rintro e w2 ⟨rfl, hB2⟩; replace hB2 := Lib.hid hB2)
    go_ret
    exact ⟨rfl, hB2.out⟩
  replace hl := hl rfl
  go_wp2_with (fail)
  rw [hm1.out]
  refine (new_any w0.heap.size m _ (Nat.le_refl _) (by omega) (by omega)).mono ?_
  rintro e w1 ⟨rfl, hP, hB1⟩
  have H1 := Lib.hid hP
  have hlt := hP.lt
  clear hP
  replace hB1 := Lib.hid hB1
  go_wp2_with (first
    | (go_at_call 9; refine (num_any _ _).mono ?_; rintro e w9 ⟨rfl, rfl⟩)
    | (go_at_call 7; refine (knows_true _).mono ?_; rintro e w2 ⟨rfl, hB2⟩; replace hB2 := Lib.hid hB2))
  have H2 : Hid (IsP w0.heap.size w0.heap.size (cs m [] 0) (fun _ => True) w2) := (H1.out.of_below hB2.out).mono (fun _ _ _ => trivial)
  have hBB : Hid (Below w0.heap.size w0 w2) := hB1.out.trans (hB2.out.mono hB1.out.size)
  clear H1 hB1 hB2
  have hat := fun k hk => act_at hv k hk
  replace hat := Lib.hid hat
  replace hl := Lib.hid hl
  replace hv := Lib.hid hv
  have hl0 : l.length ≤ 120 := hl.out.1
  go_loopw [7, 8, 9] (fun vs vt i wr => ∃ (k sent taken : Nat) (ns : List Nat) (lost : Nat), k ≤ l.length ∧ i = .int .i64 k ∧ vs = .int .i64 sent ∧ vt = .int .i64 taken ∧ sent ≤ k ∧ taken ≤ 120 ∧ Hid (CI m ns lost sent taken ∧ IsP w0.heap.size w0.heap.size (cs m ns lost) (fun _ => True) wr ∧ Below w0.heap.size w0 wr)) (fun _ _ i _ => l.length - (intOf i).toNat)
  case atStart => exact ⟨0, 0, 0, [], 0, Nat.zero_le _, rfl, rfl, rfl, Nat.le_refl _, by omega, Lib.hid ⟨CI.start m, H2.out, hBB.out⟩⟩
  case round =>
    obtain ⟨k, sent, taken, ns, lost, hk, rfl, rfl, rfl, hsk, htk, HR⟩ := hrel
    by_cases hlt : k < l.length
    · obtain ⟨hCI, hP, hB⟩ := HR.out
      obtain ⟨g, o, bv, Hat⟩ := hat.out k hlt
      obtain rfl := Hat.A
      have Hatr := Hat.below hB
      have r0 := Hatr.c0
      have r1 := Hatr.c1
      have r2 := Hatr.c2
      have r3 := Hatr.c3
      have r4 := Hatr.c4
      obtain ⟨Ab, cb, hbv⟩ := Hatr.bytes.slice
      subst hbv
      have hi0 : (k : Int) < (l.length : Int) := by omega
      generalize l[k] = a at *
      have hP1 := hP.of_below ((Below.refl _ wr).alloc (Nat.le_refl _) (.cells #[.int .i64 a.kind, .int .i64 a.i, .int .i64 a.x.from_, .int .i64 a.x.to_, .slice Ab a.x.b.length cb] 34))
      have hB1 : Below w0.heap.size w0 (wr.alloc (.cells #[.int .i64 a.kind, .int .i64 a.i, .int .i64 a.x.from_, .int .i64 a.x.to_, .slice Ab a.x.b.length cb] 34)) := hB.alloc hB.size _
      have hA := alloc_new wr (.cells #[.int .i64 a.kind, .int .i64 a.i, .int .i64 a.x.from_, .int .i64 a.x.to_, .slice Ab a.x.b.length cb] 34)
      clear hP hB
      replace Hat := Lib.hid Hat
      replace Hatr := Lib.hid Hatr
      replace hP1 := Lib.hid hP1
      replace hB1 := Lib.hid hB1
      replace hA := Lib.hid hA
      replace hCI := Lib.hid hCI
      go_upto_block 2 with (go_at_call 10; refine (len_any hP1.out).mono ?_; rintro e w9 ⟨rfl, rfl⟩)
      have hs120 : sent ≤ 120 := by omega
      have hlen : (cs m ns lost).l.length = ns.length := by simp [cs]
      go_cut [7, 8] (fun vs vt wx => ∃ (sent' taken' : Nat) (ns' : List Nat) (lost' : Nat), vs = .int .i64 sent' ∧ vt = .int .i64 taken' ∧ sent' ≤ k + 1 ∧ taken' ≤ 120 ∧ Hid (CI m ns' lost' sent' taken' ∧ IsP w0.heap.size w0.heap.size (cs m ns' lost') (fun _ => True) wx ∧ Below w0.heap.size w0 wx))
      case first =>
        have d1 : (wr.alloc (.cells #[.int .i64 a.kind, .int .i64 a.i, .int .i64 a.x.from_, .int .i64 a.x.to_, .slice Ab a.x.b.length cb] 34)).cell? ⟨wr.heap.size, 1, none⟩ = some (.int .i64 a.i) := cell_of_block hA.out 1
        have hwl := hP1.out.wr_low
        replace hwl := Lib.hid hwl
        have hsz := hB1.out.size
        replace hlen := Lib.hid hlen
        generalize hW : wr.alloc (.cells #[.int .i64 a.kind, .int .i64 a.i, .int .i64 a.x.from_, .int .i64 a.x.to_, .slice Ab a.x.b.length cb] 34) = W1 at *
        replace hW := Lib.hid hW
        cases h0 : a.kind == 0
        · cases h1 : a.kind == 1
          · cases h3 : a.kind == 3
            · cases h4 : a.kind == 4
              · go_wp2
                go_meet
                exact ⟨sent, taken, ns, lost, rfl, rfl, by omega, by omega, Lib.hid ⟨hCI.out, hP1.out, hB1.out⟩⟩
              · go_wp2_with (fail)
                refine (all_any hP1.out).mono ?_
                rintro e w3 ⟨v9, bs9, v2, _, rfl, hown, hP3, hF3⟩
                obtain ⟨A2, c2, rfl, _⟩ := own_slice hown
                have hsum := hCI.out.sum
                have hB3 := hB1.out.trans (hF3.below hB1.out.size (fun k hk e => by have := hwl.out k (.inl e); omega))
                have hend : Hid (CI m [] lost sent (taken + ns.length) ∧ IsP w0.heap.size w0.heap.size (cs m [] lost) (fun _ => True) w3 ∧ Below w0.heap.size w0 w3) := Lib.hid ⟨hCI.out.all, hP3.mono (fun _ _ _ => trivial), hB3⟩
                clear hown hP3 hF3 hB3
                have htk2 : taken + (cs m ns lost).l.length ≤ 120 := by rw [hlen.out]; omega
                replace hsum := Lib.hid hsum
                go_wp2_with (fail)
                go_meet
                exact ⟨sent, taken + ns.length, [], lost, rfl, by rw [hlen.out]; go_num, by omega, by rw [hlen.out] at htk2; exact htk2, hend⟩
            · go_wp2_with (fail)
              obtain ⟨ns', lost', hds, hCI'⟩ := hCI.out.drop a.i
              refine (drop_any hP1.out (hCI.out.ok hs120) a.i).mono ?_
              rintro e w3 ⟨rfl, hP3, hF3⟩
              rw [hds] at hP3
              have hB3 := hB1.out.trans (hF3.below hB1.out.size (fun k hk e => by have := hwl.out k e; omega))
              have hend : Hid (CI m ns' lost' sent taken ∧ IsP w0.heap.size w0.heap.size (cs m ns' lost') (fun _ => True) w3 ∧ Below w0.heap.size w0 w3) := Lib.hid ⟨hCI', hP3, hB3⟩
              clear hP3 hF3 hB3 hCI' hds
              go_wp2_with (fail)
              go_meet
              exact ⟨sent, taken, ns', lost', rfl, rfl, by omega, by omega, hend⟩
          · go_wp2_with (fail)
            obtain ⟨ns', hds, hCI'⟩ := hCI.out.take a.i
            refine (take_any hP1.out (hCI.out.ok hs120) a.i).mono ?_
            rintro e w3 ⟨v9, rfl, hx, hP3, hF3⟩
            rw [hds] at hP3
            obtain ⟨A2, c2, rfl, _⟩ := own_slice hx
            have hB3 := hB1.out.trans (hF3.below hB1.out.size (fun k hk e => by have := hwl.out k e; omega))
            generalize itemAt (cs m ns lost) a.i = x9 at *
            have hP4 := hP3.of_below ((Below.refl _ w3).alloc (Nat.le_refl _) (.cells #[.int .i64 x9.from_, .int .i64 x9.to_, .slice A2 x9.b.length c2] 37))
            have hB4 := hB3.alloc hB3.size (.cells #[.int .i64 x9.from_, .int .i64 x9.to_, .slice A2 x9.b.length c2] 37)
            have hsum := hCI'.sum
            clear hx hP3 hF3 hB3 hds
            generalize takeR (cs m ns lost) a.i = r9 at *
            replace hP4 := Lib.hid hP4
            replace hB4 := Lib.hid hB4
            cases hr9 : r9 == 0
            · rw [if_neg (by simp [hr9])] at hCI'
              replace hCI' := Lib.hid hCI'
              replace hsum := Lib.hid hsum
              go_wp2_with (go_at_call 9; refine (num_any _ _).mono ?_; rintro e w9 ⟨rfl, rfl⟩)
              go_meet
              exact ⟨sent, taken, ns', lost, rfl, rfl, by omega, by omega, Lib.hid ⟨hCI'.out, hP4.out, hB4.out⟩⟩
            · rw [if_pos hr9] at hCI' hsum
              replace hCI' := Lib.hid hCI'
              have htk2 : taken + 1 ≤ 120 := by omega
              replace hsum := Lib.hid hsum
              go_wp2_with (go_at_call 9; refine (num_any _ _).mono ?_; rintro e w9 ⟨rfl, rfl⟩)
              go_meet
              exact ⟨sent, taken + 1, ns', lost, rfl, by go_num, by omega, htk2, Lib.hid ⟨hCI'.out, hP4.out, hB4.out⟩⟩
        · have hz : (sent : Int) / 256 = 0 := by omega
          go_wp2_with (fail)
          have hb2 : Below W1.heap.size W1 (W1.alloc (.cells #[.int .u8 sent, .int .u8 0] 5)) := (Below.refl _ W1).alloc (Nat.le_refl _) _
          have hR2 : Rd (W1.alloc (.cells #[.int .u8 sent, .int .u8 0] 5)) (.slice (some ⟨W1.heap.size, 0, none⟩) (pk sent).b.length 2) (pk sent).b.length (byV (pk sent).b) := rd_new rfl rfl
          obtain ⟨ns', lost', hds, hCI'⟩ := hCI.out.send
          refine (send_any (hP1.out.of_below hb2) (hCI.out.ok hs120) (pk sent) _ _ hR2 (by simp [pk])).mono ?_
          rintro e w3 ⟨rfl, hP3, hF3⟩
          rw [hds] at hP3
          have hwl2 := (hP1.out.of_below hb2).wr_low
          have hB3 := (hB1.out.trans (hb2.mono hsz)).trans (hF3.below (by simp; omega) (fun k hk e => by have := hwl2 k e; omega))
          have hse := CI.sendR (m := m) (ns := ns) (lost := lost) sent
          have hend : Hid (CI m ns' lost' (sent + 1) taken ∧ IsP w0.heap.size w0.heap.size (cs m ns' lost') (fun _ => True) w3 ∧ Below w0.heap.size w0 w3) := Lib.hid ⟨hCI', hP3.mono (fun _ _ _ => trivial), hB3⟩
          clear hP3 hF3 hB3 hCI' hds hR2 hb2 hwl2
          generalize sendR (cs m ns lost) (pk sent) = r9 at *
          rw [← hlen.out] at hse
          cases hwas : decide ((cs m ns lost).l.length < m)
          all_goals
            rw [hwas] at hse
            go_wp2_with (go_at_call 9; refine (num_any _ _).mono ?_; rintro e w9 ⟨rfl, rfl⟩)
            go_meet
            exact ⟨sent + 1, taken, ns', lost', by go_num, rfl, by omega, by omega, hend⟩
      case rest =>
        obtain ⟨sent', taken', ns', lost', rfl, rfl, hs', ht', HC⟩ := hcut
        obtain ⟨hC', hPc, hBc⟩ := HC.out
        have hLen := len_any hPc
        have hLost := lost_any hPc
        rw [show (cs m ns' lost').l.length = ns'.length by simp [cs]] at hLen
        rw [show (cs m ns' lost').lost = (lost' : Int) from rfl] at hLost
        have hsum : (ns'.length : Int) + taken' + lost' = sent' := by have := hC'.sum; omega
        have hlm : decide (m < ns'.length) = false := decide_eq_false (by have := hC'.len; omega)
        have hns : ns'.length ≤ 20 := by have := hC'.len; omega
        have hlo : lost' ≤ 120 := by have := hC'.sum; omega
        replace hC' := Lib.hid hC'
        replace hPc := Lib.hid hPc
        replace hBc := Lib.hid hBc
        replace hLen := Lib.hid hLen
        replace hLost := Lib.hid hLost
        go_wp2_with (first
          | (go_at_call 10; refine hLen.out.mono ?_; rintro e w9 ⟨rfl, rfl⟩)
          | (go_at_call 15; refine hLost.out.mono ?_; rintro e w9 ⟨rfl, rfl⟩))
        obtain ⟨wq, hwq⟩ : ∃ wq : World, wq = wr := ⟨_, rfl⟩
        go_loopw [15] (fun j wy => ∃ q : Nat, j = .int .i64 ((q : Int) + 1) ∧ q ≤ ns'.length ∧ Hid (IsP w0.heap.size w0.heap.size (cs m ns' lost') (fun _ => True) wy ∧ Below w0.heap.size w0 wy)) (fun j _ => 30 - (intOf j).toNat)
        case atStart => exact ⟨0, rfl, Nat.zero_le _, Lib.hid ⟨hPc.out, hBc.out⟩⟩
        case round =>
          obtain ⟨q, rfl, hqn, HQ⟩ := hrel
          obtain ⟨hPq, hBq⟩ := HQ.out
          have hLq := len_any hPq
          rw [show (cs m ns' lost').l.length = ns'.length by simp [cs]] at hLq
          replace hLq := Lib.hid hLq
          by_cases hqlt : q + 1 < ns'.length
          · obtain ⟨hinc, hltq⟩ := hC'.out.at_ hqlt
            have hq2 : (q : Int) + 1 < (ns'.length : Int) := by omega
            have hsok := hC'.out.ok (by omega)
            obtain ⟨e1, i1⟩ := cs_item (m := m) (lost := lost') (show q < ns'.length by omega)
            obtain ⟨e2, i2⟩ := cs_item (m := m) (lost := lost') hqlt
            have hAt1 := at_any hPq hsok q
            rw [e1, i1] at hAt1
            rw [show (((q + 1 : Nat)) : Int) = (q : Int) + 1 by omega] at e2 i2
            generalize ns'[q] = na at *
            generalize ns'[q + 1] = nb at *
            have hnb : nb ≤ 120 := by omega
            replace hPq := Lib.hid hPq
            replace hBq := Lib.hid hBq
            replace hAt1 := Lib.hid hAt1
            replace e1 := Lib.hid e1
            replace i1 := Lib.hid i1
            replace e2 := Lib.hid e2
            replace i2 := Lib.hid i2
            go_wp2_with (go_at_call 10; refine hLq.out.mono ?_; rintro e w9 ⟨rfl, rfl⟩)
            refine hAt1.out.mono ?_
            rintro e w5 ⟨vx, rfl, hx, hb5⟩
            obtain ⟨gx, cx, rfl, _, _, hcx⟩ := own_succ hx (by simp [pk])
            have hx0 := hcx 0 (.int .u8 na) rfl
            have hx1 := hcx 1 (.int .u8 0) rfl
            clear hcx
            have hb6 : Below w5.heap.size w5 (w5.alloc (.cells #[.int .i64 (pk na).from_, .int .i64 (pk na).to_, .slice (some ⟨gx, 0, none⟩) (pk na).b.length cx] 37)) := (Below.refl _ w5).alloc (Nat.le_refl _) _
            have hX6 := alloc_new w5 (.cells #[.int .i64 (pk na).from_, .int .i64 (pk na).to_, .slice (some ⟨gx, 0, none⟩) (pk na).b.length cx] 37)
            have hP6 := (hPq.out.of_below hb5).of_below hb6
            have hB5 := hBq.out.trans (hb5.mono hBq.out.size)
            have hB6 := hB5.trans (hb6.mono hB5.size)
            have hy0 := cell_kept hb6 hx0
            have hy1 := cell_kept hb6 hx1
            have hAt2 := at_any hP6 hsok ((q : Int) + 1)
            rw [e2.out, i2.out] at hAt2
            replace hx := Lib.hid hx
            replace hb5 := Lib.hid hb5
            replace hb6 := Lib.hid hb6
            replace hP6 := Lib.hid hP6
            replace hB5 := Lib.hid hB5
            replace hB6 := Lib.hid hB6
            replace hX6 := Lib.hid hX6
            replace hAt2 := Lib.hid hAt2
            clear hx0 hx1
            go_wp2_with (fail)
            refine hAt2.out.mono ?_
            rintro e w7 ⟨vy, rfl, hy, hb7⟩
            obtain ⟨gy, cy, rfl, _, _, hcy⟩ := own_succ hy (by simp [pk])
            have hz0 := hcy 0 (.int .u8 nb) rfl
            have hz1 := hcy 1 (.int .u8 0) rfl
            clear hcy
            have hu0 := cell_kept hb7 hy0
            have hu1 := cell_kept hb7 hy1
            have hX7 := block_kept hX6.out hb7
            have hP7 := hP6.out.of_below hb7
            have hB7 := hB6.out.trans (hb7.mono hB6.out.size)
            have hb8 : Below w7.heap.size w7 (w7.alloc (.cells #[.int .i64 (pk nb).from_, .int .i64 (pk nb).to_, .slice (some ⟨gy, 0, none⟩) (pk nb).b.length cy] 37)) := (Below.refl _ w7).alloc (Nat.le_refl _) _
            have hP8 := hP7.of_below hb8
            have hB8 := hB7.trans (hb8.mono hB7.size)
            have k0 := cell_kept hb8 hu0
            have k1 := cell_kept hb8 hu1
            have k2 := cell_kept hb8 hz0
            have k3 := cell_kept hb8 hz1
            have hX8 := block_kept hX7 hb8
            have hY8 := alloc_new w7 (.cells #[.int .i64 (pk nb).from_, .int .i64 (pk nb).to_, .slice (some ⟨gy, 0, none⟩) (pk nb).b.length cy] 37)
            have l0 := cell_of_block hX8 2
            have l1 := cell_of_block hY8 2
            simp only [pk, List.length_cons, List.length_nil, List.getElem?_toArray, List.getElem?_cons_succ, List.getElem?_cons_zero] at l0 l1 k0 k1 k2 k3
            clear hy0 hy1 hz0 hz1 hu0 hu1 hX7
            replace hy := Lib.hid hy
            replace hb7 := Lib.hid hb7
            replace hP7 := Lib.hid hP7
            replace hB7 := Lib.hid hB7
            replace hb8 := Lib.hid hb8
            replace hP8 := Lib.hid hP8
            replace hB8 := Lib.hid hB8
            replace hX8 := Lib.hid hX8
            replace hY8 := Lib.hid hY8
            have hge : decide (nb ≤ na) = false := decide_eq_false (by omega)
            simp only [pk, List.length_cons, List.length_nil]
            go_wp2_with (fail)
            go_quiet (fail)
            go_wp2_with (fail)
            go_roundw
            case rel => exact ⟨q + 1, by go_num, by omega, Lib.hid ⟨hP8.out.of_below (below_drewN (Below.refl _ _) nq), below_drewN hB8.out nq⟩⟩
            case measure => simp [intOf]; omega
          · have hq2 : ¬ (q : Int) + 1 < (ns'.length : Int) := by omega
            go_wp2_with (go_at_call 10; refine hLq.out.mono ?_; rintro e w9 ⟨rfl, rfl⟩)
            go_roundw
            case rel => exact ⟨k + 1, sent', taken', ns', lost', by omega, by go_num, rfl, rfl, by omega, by omega, Lib.hid ⟨hC'.out, HQ.out.1, HQ.out.2⟩⟩
            case measure => simp [intOf]; omega
    · go_wp2
      go_ret
      exact ⟨rfl, HR.out.2.2⟩
end Go.Proofs.Ytjfbiifcjiidfaa
