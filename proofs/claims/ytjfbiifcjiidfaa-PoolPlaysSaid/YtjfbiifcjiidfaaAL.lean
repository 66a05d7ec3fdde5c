/- The walk through All. -/
import Derived.Test.YtjfbiifcjiidfaaCH
import Derived.Test.YtjfbiifcjiidfaaDR
namespace Go.Proofs.Ytjfbiifcjiidfaa
open Go.RowKit Go.Conc

def pcA : List Pc → List Value → List Value
  | x :: l, v :: bs => .agg #[.int .i64 x.from_, .int .i64 x.to_, v] :: pcA l bs
  | _, _ => []
theorem pcA_length : ∀ {l : List Pc} {bs : List Value}, bs.length = l.length → (pcA l bs).length = l.length
  | [], [], _ => rfl
  | [], _ :: _, h => by cases h
  | _ :: _, [], h => by cases h
  | _ :: l, _ :: bs, h => by simp only [pcA, List.length_cons, pcA_length (l := l) (bs := bs) (by simpa using h)]
theorem pcA_at : ∀ {l : List Pc} {bs : List Value} {k : Nat} (h : bs.length = l.length) (hk : k < l.length), (pcA l bs)[k]? = some (.agg #[.int .i64 l[k].from_, .int .i64 l[k].to_, bs[k]'(by omega)])
  | x :: l, v :: bs, 0, _, _ => rfl
  | x :: l, v :: bs, k + 1, h, hk => by
    have := pcA_at (l := l) (bs := bs) (k := k) (by simpa using h) (by simpa using hk)
    simpa [pcA] using this
theorem fr_setChan (w : World) (c cap : Nat) (buf : Array Value) (cl : Bool) (s r : Nat) (tm : Bool) : Fr (fun j => j = c) w (w.setChan c cap buf cl s r tm) :=
  ⟨rfl, rfl, rfl, by simp [World.setChan], fun k _ hk => by simp only [World.setChan]; rw [Array.getElem?_setIfInBounds_ne (fun e => hk e.symm)]⟩
theorem mk_chan (w : World) (n : Nat) (h : n ≤ 1024) : (Instr.makeChan 65 (.int .i64 n)).run Try.prog w = .ok (.chan (some w.heap.size)) (w.alloc (.chan n #[] false 0 0 false)) := by
  obtain ⟨i, hi, hb⟩ := Option.map_eq_some_iff.1 (show (Try.prog.info? 37).map (·.bytes) = some 40 by kernel_rfl)
  exact run_makeChan (P := Try.prog) (w := w) Try.underlying65 hi .i64 n (by omega) (by rw [hb]; omega)
theorem chan_push (l : List Value) (k : Nat) (u : Value) (h : l[k]? = some u) : l.take k ++ [u] = l.take (k + 1) := by
  obtain ⟨hk, e⟩ := List.getElem?_eq_some_iff.1 h
  rw [List.take_succ_eq_append_getElem hk, e]
theorem chan_pop (l : List Value) (k : Nat) : ((l.drop k).toArray).extract 1 ((l.drop k).toArray).size = (l.drop (k + 1)).toArray := by
  apply Array.toList_inj.1
  simp
  rw [List.take_of_length_le (by rw [List.length_drop]; omega)]
theorem pcV_snoc {l : List Pc} {bs : List Value} {k : Nat} (h : bs.length = l.length) (hk : k < l.length) : pcV (l.take k) (bs.take k) ++ [.int .i64 l[k].from_, .int .i64 l[k].to_, bs[k]'(by omega)] = pcV (l.take (k + 1)) (bs.take (k + 1)) := by
  rw [List.take_succ_eq_append_getElem hk, List.take_succ_eq_append_getElem (l := bs) (by omega), pcV_append _ _ (by simp [h])]
theorem PA.emptied {β b : Nat} {v : Value} {bs : List Value} {s : PS} {F : Nat → Prop} {w : World} (h : PA β b v bs s F w) : PA β b (.slice none 0 0) [] { s with l := [] } F (w.setCell ⟨b, 2, none⟩ (.slice none 0 0)) :=
  ⟨blk_conv (block_setCell h.blk _) rfl, h.low, ⟨h.pos.1, h.pos.2.1, by have := h.pos.1; simp; omega⟩, World.ownsRow_nil _ _ _ _, rfl, (fun i h => by cases h), (fun i h => by cases h)⟩
set_option maxHeartbeats 2000000 in
theorem all_pool {β b : Nat} {v : Value} {bs : List Value} {s : PS} {F : Nat → Prop} {w : World} (h : PA β b v bs s F w) :
    Calls Try.prog 14 #[.pointer (some ⟨b, 0, none⟩)] w fun e w' => ∃ v2, e = .returned v2 ∧ w'.ownsRow w.heap.size 37 3 v2 s.l.length (pcV s.l bs) ∧ PA β b (.slice none 0 0) [] { s with l := [] } F w' ∧ Fr (fun j => j = b) w w' := by
  obtain ⟨m, hm⟩ : ∃ m : Nat, s.most = m := ⟨s.most.toNat, by have := h.pos; omega⟩
  have hpos := h.pos
  rw [hm] at hpos
  have hb0 : Below w.heap.size w (w.alloc (.chan m #[] false 0 0 false)) := (Below.refl _ w).alloc (Nat.le_refl _) _
  have c0 : w.cell? ⟨b, 0, none⟩ = some (.int .i64 m) := by rw [← hm]; exact cell_of_block h.blk 0
  have h1 := h.of_below hb0
  have c2 : (w.alloc (.chan m #[] false 0 0 false)).cell? ⟨b, 2, none⟩ = some v := cell_of_block h1.blk 2
  have hC := alloc_new w (.chan m #[] false 0 0 false)
  obtain ⟨A, c, rfl, _⟩ := own_slice h.row
  have hlb := h.lt
  have hmc := mk_chan w m (by omega)
  have hlen : s.l.length ≤ m := by omega
  have hm1 : m ≤ 1024 := by omega
  replace h := Lib.hid h
  replace h1 := Lib.hid h1
  replace hC := Lib.hid hC
  replace hb0 := Lib.hid hb0
  replace hm := Lib.hid hm
  clear hpos
  go_enter Try.func14, Try.ntmps14
  go_wp2_with (go_at_call 29; refine (none_pool h.out).mono ?_; rintro e w0 ⟨rfl, rfl⟩)
  go_loopw [20] (fun i wr => ∃ k : Nat, k ≤ s.l.length ∧ i = .int .i64 k ∧ Hid (wr.heap[w0.heap.size]? = some (.chan m ((pcA s.l bs).take k).toArray false k 0 false) ∧ Fr (fun j => j = w0.heap.size) (w0.alloc (.chan m #[] false 0 0 false)) wr)) (fun i _ => s.l.length - (intOf i).toNat)
  case atStart => exact ⟨0, Nat.zero_le _, rfl, Lib.hid ⟨hC.out, Fr.refl _ _⟩⟩
  case round =>
    obtain ⟨k, hk, rfl, HR⟩ := hrel
    have hW : (w0.alloc (.chan m #[] false 0 0 false)).heap.size = w0.heap.size + 1 := by simp
    by_cases hlt : k < s.l.length
    · obtain ⟨hch, hf⟩ := HR.out
      have h2 : PA β b (.slice A s.l.length c) bs s F wr := h1.out.fr hf (by omega) (fun g hg e => by have := own_lt h.out.row g hg; omega) (fun i hi g hg e => by obtain ⟨_, c9, fz, h9⟩ := h.out.own i hi g hg; have := lt_of_block h9; omega)
      obtain ⟨g, c', e, _, _, hcell⟩ := own_succ h2.row (by omega)
      cases e
      obtain ⟨p0, p1, p2⟩ := pcV_at h2.len hlt
      have x0 := hcell _ _ p0
      have x1 := hcell _ _ p1
      have x2 := hcell _ _ p2
      have hkb : k < bs.length := by rw [h2.len]; exact hlt
      have hat := pcA_at h2.len hlt
      obtain ⟨Ab, cb, hvb⟩ := (h2.byt k hlt hkb).slice
      generalize hx : s.l[k] = x at x0 x1 hat hvb
      rw [hvb] at x2 hat
      have hlw := lt_of_block hch
      clear hcell hf hch p0 p1 p2
      replace h2 := Lib.hid h2
      replace hat := Lib.hid hat
      replace hvb := Lib.hid hvb
      replace hx := Lib.hid hx
      replace hW := Lib.hid hW
      go_upto_region 7 with (fail)
      refine wp_region_to ?_
      refine OpsTo.value (v := .chan (some w0.heap.size)) (w' := wr.alloc (.cells #[.int .i64 x.from_, .int .i64 x.to_, .slice Ab x.b.length cb] 37)) rfl rfl (by simp [execOp, Act.eval]) ?_
      refine OpsTo.value (v := .agg #[.int .i64 x.from_, .int .i64 x.to_, .slice Ab x.b.length cb]) (w' := wr.alloc (.cells #[.int .i64 x.from_, .int .i64 x.to_, .slice Ab x.b.length cb] 37)) rfl rfl (by simp [execOp, Act.eval, Act.put, go_sem]) ?_
      refine OpsTo.send (c := w0.heap.size) (cap := m) (buf := ((pcA s.l bs).take k).toArray) (s := k) (r := 0) (tm := false) (v := .agg #[.int .i64 x.from_, .int .i64 x.to_, .slice Ab x.b.length cb]) (z := .tuple #[]) (w' := wr.alloc (.cells #[.int .i64 x.from_, .int .i64 x.to_, .slice Ab x.b.length cb] 37)) rfl rfl (by simp [execOp, Act.eval, Act.put, scase]) (block_alloc HR.out.1 _) (by rw [List.size_toArray, List.length_take]; omega) ?_
      refine OpsTo.nil ?_
      go_wp2_with (fail)
      go_roundw
      case rel =>
        have hlt2 : w0.heap.size < (wr.alloc (.cells #[.int .i64 x.from_, .int .i64 x.to_, .slice Ab x.b.length cb] 37)).heap.size := by simp; omega
        refine ⟨k + 1, by omega, by go_num, Lib.hid ⟨?_, ?_⟩⟩
        · rw [heap_setChan _ _ _ _ _ _ _ _ hlt2, chan_push _ _ _ hat.out]
        · exact (HR.out.2.alloc _).trans (fr_setChan _ _ _ _ _ _ _ _) (fun _ _ h => h)
      case measure => simp [intOf]; omega
    · obtain rfl : k = s.l.length := by omega
      obtain ⟨hch, hf⟩ := HR.out
      have h2 : PA β b (.slice A s.l.length c) bs s F wr := h1.out.fr hf (by omega) (fun g hg e => by have := own_lt h.out.row g hg; omega) (fun i hi g hg e => by obtain ⟨_, c9, fz, h9⟩ := h.out.own i hi g hg; have := lt_of_block h9; omega)
      rw [List.take_of_length_le (by rw [pcA_length h2.len]; omega)] at hch
      have x2 : wr.cell? ⟨b, 2, none⟩ = some (.slice A s.l.length c) := cell_of_block h2.blk 2
      have f2 := free_of_block h2.blk 2
      have hlw := lt_of_block hch
      have hbC : w0.heap.size ≠ b := by omega
      have hend := h2.emptied
      have hch2 := (block_set_other (i := 2) hbC (Value.slice none 0 0)).trans hch
      have hf2 : Fr (fun j => j = b) w0 (wr.setCell ⟨b, 2, none⟩ (.slice none 0 0)) := (((Fr.refl _ w0).alloc _).trans (S := fun j => j = b ∨ j = w0.heap.size) hf (fun _ _ h => .inr h)).setCell (p := ⟨b, 2, none⟩) (fun _ => .inl rfl) _ |>.mono (fun i hi e => by omega)
      replace h2 := Lib.hid h2
      replace hend := Lib.hid hend
      replace hch2 := Lib.hid hch2
      replace hf2 := Lib.hid hf2
      clear hch hf
      go_wp2_with (fail)
      generalize wr.setCell ⟨b, 2, none⟩ (.slice none 0 0) = W2 at hend hch2 hf2 ⊢
      obtain ⟨i0, hi, hz0, hz1, hz2⟩ := info_parts info_pc
      have hbl := h.out.len
      replace hbl := Lib.hid hbl
      have hWs : w0.heap.size < W2.heap.size := lt_of_block hch2.out
      go_loopw [6] (fun v wx => ∃ k : Nat, ∃ A2 c2', k ≤ s.l.length ∧ v = .slice A2 k c2' ∧ Hid (wx.heap[w0.heap.size]? = some (.chan m ((pcA s.l bs).drop k).toArray false s.l.length k false) ∧ wx.ownsRow W2.heap.size 37 3 v k (pcV (s.l.take k) (bs.take k)) ∧ Fr (fun j => j = w0.heap.size) W2 wx)) (fun v _ => s.l.length + 1 - (match v with | .slice _ n _ => n | _ => 0))
      case atStart => exact ⟨0, none, 0, Nat.zero_le _, rfl, Lib.hid ⟨hch2.out, World.ownsRow_nil _ _ _ _, Fr.refl _ _⟩⟩
      case round =>
        obtain ⟨k, A2, c2', hk, rfl, HR2⟩ := hrel
        by_cases hlt : k < s.l.length
        · obtain ⟨hch3, hrow, hf3⟩ := HR2.out
          have hat := pcA_at hbl.out hlt
          have hsn := pcV_snoc hbl.out hlt
          have hkb : k < bs.length := by rw [hbl.out]; exact hlt
          obtain ⟨Ab, cb, hvb⟩ := (h.out.byt k hlt hkb).slice
          generalize hx : s.l[k] = x at hat hvb hsn
          rw [hvb] at hat hsn
          have hlw3 := lt_of_block hch3
          have hlw4 := hf3.size
          have hd : ((pcA s.l bs).drop k).toArray.getD 0 undef = .agg #[.int .i64 x.from_, .int .i64 x.to_, .slice Ab x.b.length cb] := by
            have : ((pcA s.l bs).drop k)[0]? = some (.agg #[.int .i64 x.from_, .int .i64 x.to_, .slice Ab x.b.length cb]) := by rw [List.getElem?_drop]; exact hat
            simp [this]
          have hpos2 : 0 < ((pcA s.l bs).drop k).toArray.size := by rw [List.size_toArray, List.length_drop, pcA_length hbl.out]; omega
          have hrow4 := (own_fr hrow (fr_setChan wr w0.heap.size m (((pcA s.l bs).drop k).toArray.extract 1 ((pcA s.l bs).drop k).toArray.size) false s.l.length (k + 1) false) (fun g hg e => by have := own_base hrow g hg; omega)).alloc (.cells #[.int .i64 x.from_, .int .i64 x.to_, .slice Ab x.b.length cb] 37) |>.alloc (.cells #[.int .i64 x.from_, .int .i64 x.to_, .slice Ab x.b.length cb] 37)
          clear hrow hf3
          replace hat := Lib.hid hat
          replace hvb := Lib.hid hvb
          replace hx := Lib.hid hx
          replace hsn := Lib.hid hsn
          replace hd := Lib.hid hd
          replace hch3 := Lib.hid hch3
          replace hrow4 := Lib.hid hrow4
          go_upto_region 12 with (fail)
          refine wp_region_to ?_
          refine OpsTo.recv (c := w0.heap.size) (cap := m) (buf := ((pcA s.l bs).drop k).toArray) (s := s.l.length) (r := k) (tm := false) (cl := false) (z := .agg #[.int .i64 0, .int .i64 0, .slice none 0 0]) (w' := wr) rfl rfl (by simp [execOp, Act.eval, rcase, go_sem]) hch3.out hpos2 ?_
          rw [hd.out]
          refine OpsTo.value (v := .int .i64 0) (w' := wr.setChan w0.heap.size m (((pcA s.l bs).drop k).toArray.extract 1 ((pcA s.l bs).drop k).toArray.size) false s.l.length (k + 1) false) rfl rfl (by simp [execOp, Act.eval, Act.put, go_sem, goInt]) ?_
          refine OpsTo.value (v := .bool true) (w' := wr.setChan w0.heap.size m (((pcA s.l bs).drop k).toArray.extract 1 ((pcA s.l bs).drop k).toArray.size) false s.l.length (k + 1) false) rfl rfl (by simp [execOp, Act.eval, Act.put, go_sem]) ?_
          refine OpsTo.nil ?_
          generalize hW4 : wr.setChan w0.heap.size m (((pcA s.l bs).drop k).toArray.extract 1 ((pcA s.l bs).drop k).toArray.size) false s.l.length (k + 1) false = W4 at hrow4 ⊢
          replace hW4 := Lib.hid hW4
          have hnew : ∀ j u, [Value.int .i64 x.from_, .int .i64 x.to_, .slice Ab x.b.length cb][j]? = some u → ((W4.alloc (.cells #[.int .i64 x.from_, .int .i64 x.to_, .slice Ab x.b.length cb] 37)).alloc (.cells #[.int .i64 x.from_, .int .i64 x.to_, .slice Ab x.b.length cb] 37)).cell? ((⟨W4.heap.size + 1, 0, none⟩ : Addr).add j) = some u := by
            have := cells_new (W4.alloc (.cells #[.int .i64 x.from_, .int .i64 x.to_, .slice Ab x.b.length cb] 37)) [.int .i64 x.from_, .int .i64 x.to_, .slice Ab x.b.length cb] 37
            rw [World.size_alloc] at this
            exact this
          replace hnew := Lib.hid hnew
          have hW4s : W4.heap.size = wr.heap.size := by rw [← hW4.out]; exact size_setChan _ _ _ _ _ _ _ _
          replace hW4s := Lib.hid hW4s
          go_wp2_with (at_builtin; refine wpList_append_own _ rfl _ _ 41 rfl W2.heap.size 37 i0 _ 3 40 Try.underlying41 hi hz0 hz1 hz2 rfl (by decide) _ _ _ rfl hrow4.out ⟨W4.heap.size + 1, 0, none⟩ 1 1 [.int .i64 x.from_, .int .i64 x.to_, .slice Ab x.b.length cb] rfl rfl hnew.out ?c2 ?c3 ?c4 ?c5 ?_)
          case c2 => intro u hu; simp at hu; rcases hu with rfl | rfl | rfl <;> rfl
          case c3 => unfold maxLen; omega
          case c4 => omega
          case c5 => have := hW4s.out; simp; omega
          intro v' w9 hown9 hgr _
          rw [hsn.out] at hown9
          have hbase := own_base hrow4.out
          have hrn : ∀ g, (Value.slice A2 k c2').ownBlock = some g → g ≠ w0.heap.size := fun g hg e => by have := hbase g hg; omega
          have hq1 : Fr (fun j => j = w0.heap.size) wr W4 := by rw [← hW4.out]; exact fr_setChan _ _ _ _ _ _ _ _
          have hq2 := (hq1.alloc (.cells #[.int .i64 x.from_, .int .i64 x.to_, .slice Ab x.b.length cb] 37)).alloc (.cells #[.int .i64 x.from_, .int .i64 x.to_, .slice Ab x.b.length cb] 37)
          have hq3 : Fr (fun j => j = w0.heap.size ∨ (Value.slice A2 k c2').ownBlock = some j) wr w9 := (hq2.mono (fun _ _ h => .inl h)).trans (T := fun j => (Value.slice A2 k c2').ownBlock = some j) ⟨hgr.os, hgr.tape, hgr.output, hgr.size, fun j hj hS => hgr.block j hj (fun e => hS e.symm)⟩ (fun _ _ h => .inr h)
          have hq4 : Fr (fun j => j = w0.heap.size) W2 w9 := HR2.out.2.2.join hq3 (fun _ _ h => h) (fun j hj e => by rcases e with e | e; exact e; have := hbase j e; omega)
          have hch9 : w9.heap[w0.heap.size]? = some (.chan m ((pcA s.l bs).drop (k + 1)).toArray false s.l.length (k + 1) false) := by
            have q0 : W4.heap[w0.heap.size]? = some (.chan m ((pcA s.l bs).drop (k + 1)).toArray false s.l.length (k + 1) false) := by
              rw [← hW4.out, heap_setChan _ _ _ _ _ _ _ _ hlw3, chan_pop]
            have q1 := block_alloc (block_alloc q0 (.cells #[.int .i64 x.from_, .int .i64 x.to_, .slice Ab x.b.length cb] 37)) (.cells #[.int .i64 x.from_, .int .i64 x.to_, .slice Ab x.b.length cb] 37)
            exact (hgr.block _ (lt_of_block q1) (fun e => hrn _ e.symm rfl)).trans q1
          obtain ⟨A9, c9, rfl, _⟩ := own_slice hown9
          have HR9 : Hid (w9.heap[w0.heap.size]? = some (.chan m ((pcA s.l bs).drop (k + 1)).toArray false s.l.length (k + 1) false) ∧ w9.ownsRow W2.heap.size 37 3 (.slice A9 (k + 1) c9) (k + 1) (pcV (s.l.take (k + 1)) (bs.take (k + 1))) ∧ Fr (fun j => j = w0.heap.size) W2 w9) := Lib.hid ⟨hch9, hown9, hq4⟩
          clear hq1 hq2 hq3 hq4 hch9 hown9 hgr hrn hbase
          go_wp2_with (fail)
          go_roundw
          case rel => exact ⟨k + 1, A9, c9, by omega, rfl, HR9⟩
          case measure => simp; omega
        · obtain rfl : k = s.l.length := by omega
          obtain ⟨hch3, hrow, hf3⟩ := HR2.out
          rw [List.drop_of_length_le (by rw [pcA_length hbl.out]; omega)] at hch3
          rw [List.take_length, List.take_of_length_le (by rw [hbl.out]; omega)] at hrow
          replace hch3 := Lib.hid hch3
          replace hrow := Lib.hid hrow
          replace hf3 := Lib.hid hf3
          go_upto_region 12 with (fail)
          refine wp_region_to ?_
          refine OpsTo.default (c := w0.heap.size) (cap := m) (s := s.l.length) (r := s.l.length) (tm := false) (z := .agg #[.int .i64 0, .int .i64 0, .slice none 0 0]) (w' := wr) rfl rfl (by simp [execOp, Act.eval, rcase, go_sem]) hch3.out ?_
          refine OpsTo.value (v := .int .i64 (-1)) (w' := wr) rfl rfl (by simp [execOp, Act.eval, Act.put, go_sem, goInt]) ?_
          refine OpsTo.value (v := .bool false) (w' := wr) rfl rfl (by simp [execOp, Act.eval, Act.put, go_sem]) ?_
          refine OpsTo.nil ?_
          go_wp2_with (fail)
          go_ret
          have hFw : Fr (fun j => j = b) w0 wr := hf2.out.join hf3.out (fun _ _ h => h) (fun j hj e => by omega)
          exact ⟨_, rfl, own_lower hrow.out (by omega), hend.out.fr hf3.out (by omega) (fun g hg => by cases hg) (fun i hi => by cases hi), hFw⟩
end Go.Proofs.Ytjfbiifcjiidfaa
