/- The walks through slices.Clone, Order and Check. -/
import Derived.Deep.DeepCutAuto
import Derived.Deep.CutBlock
import Derived.Laws.EntriesVeiled
import Derived.Test.YtbengfmoimlnbaaTR
namespace Go.Proofs.Ytbengfmoimlnbaa
open Go.RowKit

theorem slice_nil (w : World) : (Go.binOp .eql 25 (.slice none 0 0) (.slice none 0 0)).run Try.prog w = .ok (.bool true) w := by kernel_rfl
theorem slice_some (a : Addr) (n c : Nat) (w : World) : (Go.binOp .eql 25 (.slice (some a) n c) (.slice none 0 0)).run Try.prog w = .ok (.bool false) w := by kernel_rfl
theorem clone_any (base : Nat) (v : Value) (n : Nat) (xs : List Value) (w : World) (h : w.ownsRow base 3 1 v n xs) (hn : n ≤ 24) (h1 : ∀ u ∈ xs, u.oneCell' = true) :
    Calls Try.prog 23 #[v] w fun e w' => ∃ v', e = .returned v' ∧ w'.ownsRow w.heap.size 3 1 v' n xs ∧ Below w.heap.size w w' := by
  obtain ⟨i0, hi, hz0, hz1, hz2⟩ := info_parts info_int
  have hx := h.1
  rcases h.2 with ⟨rfl, rfl⟩ | ⟨g, cap, cur, rfl, hb, hh, hc, hm, hs, ht⟩
  · obtain rfl : xs = [] := List.eq_nil_of_length_eq_zero (by simpa using hx)
    clear h
    have hnl := slice_nil
    go_enter Try.func23, Try.ntmps23
    go_wp2
    go_ret
    exact ⟨_, rfl, World.ownsRow_nil _ _ _ _, Below.refl _ _⟩
  · have hg := lt_of_block hh
    have hcell : ∀ j u, xs[j]? = some u → (w.alloc (.cells #[] 3)).cell? ((⟨g, 0, none⟩ : Addr).add j) = some u := by
      intro j u hu
      have := h.cells rfl j u hu
      rw [← this]
      exact World.cell?_of_block (Below.heap_alloc _ _ _ (by unfold Addr.add; split <;> exact hg))
    have hown := World.ownsRow_made (base := w.heap.size) (e := 3) (size := 1) w #[] 0 (Nat.le_refl _) (by unfold maxLen; omega) rfl
    have HH := Lib.hid hh
    clear h hh
    have hnl := slice_some ⟨g, 0, none⟩ n cap
    go_enter Try.func23, Try.ntmps23
    go_wp2_with (at_builtin; refine wpList_append_own _ rfl _ _ 25 rfl w.heap.size 3 i0 (.int .i64 0) 1 8 Try.underlying25 hi hz0 hz1 hz2 rfl (by decide) _ _ _ rfl hown ⟨g, 0, none⟩ n cap xs rfl (by omega) hcell h1 ?c3 ?c4 ?c5 ?_)
    case c3 => unfold maxLen; omega
    case c4 => omega
    case c5 => simp
    intro v' w1 hown' hgrow _
    have hb1 : Below w.heap.size w w1 := ((Below.refl _ w).alloc (Nat.le_refl _) _).grown hgrow (by simp) (own_base hown)
    obtain ⟨A2, c2, rfl, _⟩ := own_slice hown'
    go_wp2
    go_ret
    exact ⟨_, rfl, by simpa using hown', hb1⟩

theorem order_big (A : Option Addr) (n c : Nat) (w : World) (hn : 24 < n) :
    Calls Try.prog 10 #[.slice A n c] w fun e w' => e = .returned (.tuple #[.slice none 0 0, .int .i64 6]) ∧ w' = w := by
  have h1 : decide ((24 : Int) < (n : Int)) = true := decide_eq_true (by omega)
  go_enter Try.func10, Try.ntmps10
  go_wp2
  go_ret2
  exact ⟨rfl, rfl⟩

def ordR (l : List It) : List Nat := (S l 0 St.zero).getD []
def ordE (l : List It) : Int := if (S l 0 St.zero).isSome then 0 else 3
theorem natV_one (l : List Nat) : ∀ u ∈ natV l, u.oneCell' = true := by
  intro u hu
  obtain ⟨i, _, rfl⟩ := List.mem_map.1 hu
  rfl
theorem S_length (l : List It) : ∀ (f m : Nat) (s : St) (q : List Nat), l.length - cnt l.length m = f → S l m s = some q → q.length ≤ f := by
  intro f
  induction f with
  | zero =>
    intro m s q hf h
    have : cnt l.length m = l.length := by have := cnt_le l.length m; omega
    rw [S_eq, left_full this] at h
    cases h
    simp
  | succ f ih =>
    intro m s q hf h
    rw [S_eq] at h
    split at h
    · obtain ⟨i, hi, h2⟩ := List.exists_of_findSome?_eq_some h
      split at h2
      · rename_i hc
        cases h3 : S l (m ||| 2 ^ i) (play l s i) with
        | none => rw [h3] at h2; cases h2
        | some q' =>
          rw [h3] at h2
          cases h2
          have := ih _ _ _ (by rw [cnt_set (List.mem_range.1 hi) (can_bit hc)]; omega) h3
          simpa using this
      · cases h2
    · cases h; simp
theorem ordR_le (l : List It) : (ordR l).length ≤ l.length := by
  unfold ordR
  cases h : S l 0 St.zero with
  | none => simp
  | some q => exact Nat.le_trans (S_length l _ 0 _ q rfl h) (Nat.sub_le _ _)

theorem start_SR {A : Option Addr} {c : Nat} {l : List It} {w wb : World} (hv : Rd w (.slice A l.length c) l.length (itsV l))
    (hsb : wb.heap[w.heap.size + 1 + 1]? = some (.cells #[.slice A l.length c, .slice (some ⟨w.heap.size, 0, none⟩) l.length l.length, .int .u64 (maskTo (mustP l) l.length : Int), .map (some (w.heap.size + 1))] 74 (0, 0)))
    (hrb : wb.heap[w.heap.size]? = some (.cells (rowsA l l.length 0) 68 (0, 0))) (hmb : IsDead wb (w.heap.size + 1) []) (hbel : Below w.heap.size w wb) :
    SR ⟨w.heap.size + 1 + 1, w.heap.size, w.heap.size + 1, wb.heap.size, wb.heap.size + 1, wb.heap.size + 1 + 1, A, c⟩ w l
      (((wb.alloc (.cells #[.pointer (some ⟨w.heap.size + 1 + 1, 0, none⟩)] 65)).alloc (.cells #[.slice none 0 0] 25)).alloc (.cells #[.func (.func 22) #[] #[.pointer (some ⟨wb.heap.size, 0, none⟩), .pointer (some ⟨wb.heap.size + 1, 0, none⟩), .pointer (some ⟨wb.heap.size + 1 + 1, 0, none⟩)]] 67)) (.slice none 0 0) [] [] := by
  have hbl : ∀ (o1 o2 o3 : Obj), Below wb.heap.size wb (((wb.alloc o1).alloc o2).alloc o3) := fun o1 o2 o3 => (((Below.refl _ wb).alloc (Nat.le_refl _) _).alloc (by simp) _).alloc (by simp; omega) _
  have h1 := lt_of_block hsb
  have h2 := lt_of_block hrb
  refine ⟨hv, hbel.trans ((hbl _ _ _).mono hbel.size), ?_, ((hbl _ _ _).block _ h1).trans hsb, ((hbl _ _ _).block _ h2).trans hrb, ?_, World.ownsRow_nil _ _ _ _, ?_, hmb.fr (Fr.of_below (hbl _ _ _) (S := fun _ => False)) (fun h => h), by simp, ?_⟩
  · exact (Below.heap_alloc _ _ _ (by simp; omega)).trans ((Below.heap_alloc _ _ _ (by simp)).trans (alloc_new wb _))
  · have := alloc_new (wb.alloc (.cells #[.pointer (some ⟨w.heap.size + 1 + 1, 0, none⟩)] 65)) (.cells #[.slice none 0 0] 25)
    rw [World.size_alloc] at this
    exact (Below.heap_alloc _ _ _ (by simp)).trans this
  · have := alloc_new ((wb.alloc (.cells #[.pointer (some ⟨w.heap.size + 1 + 1, 0, none⟩)] 65)).alloc (.cells #[.slice none 0 0] 25)) (.cells #[.func (.func 22) #[] #[.pointer (some ⟨wb.heap.size, 0, none⟩), .pointer (some ⟨wb.heap.size + 1, 0, none⟩), .pointer (some ⟨wb.heap.size + 1 + 1, 0, none⟩)]] 67)
    rw [World.size_alloc, World.size_alloc] at this
    exact this
  · have := hbel.size
    refine ⟨?_, ?_, ?_, ?_, ?_, ?_⟩ <;> simp only <;> omega

set_option maxHeartbeats 1000000 in
theorem order_any (A : Option Addr) (c : Nat) (l : List It) (w : World) (hv : Rd w (.slice A l.length c) l.length (itsV l)) (hn : l.length ≤ 24) :
    Calls Try.prog 10 #[.slice A l.length c] w fun e w' => ∃ v', e = .returned (.tuple #[v', .int .i64 (ordE l)]) ∧ w'.ownsRow w.heap.size 3 1 v' (ordR l).length (natV (ordR l)) ∧ Below w.heap.size w w' := by
  have h1 : decide ((24 : Int) < (l.length : Int)) = false := decide_eq_false (by omega)
  have hmf : ∀ (fn : Fn) (first cap : Array Value) (w : World), (Instr.makeFunc fn first cap).run Try.prog w = .ok (.func fn first cap) w := fun _ _ _ _ => rfl
  have hcnt : ([] : List Nat).length ≤ cnt l.length 0 := Nat.zero_le _
  have hvl := ordR_le l
  cases hS : S l 0 St.zero with
  | none =>
    have hR : ordR l = [] := by unfold ordR; rw [hS]; rfl
    have hE : ordE l = 3 := by unfold ordE; rw [hS]; rfl
    replace hS := Lib.hid hS
    go_enter Try.func10, Try.ntmps10
    go_wp2_with (first | (go_at_call 21; refine (begin_any A c l w hv hn).mono ?_; rintro e wb ⟨rfl, hsb, hrb, hmb, hbel⟩; have HS := Lib.hid (start_SR hv hsb hrb hmb hbel); have hb3 := alloc_new ((wb.alloc (.cells #[.pointer (some ⟨w.heap.size + 1 + 1, 0, none⟩)] 65)).alloc (.cells #[.slice none 0 0] 25)) (.cells #[.nilFunc] 67); rw [World.size_alloc, World.size_alloc] at hb3; have f1 := cell_of_one hb3; have f2 := free_of_one hb3) | (go_at_call 22; refine (try_any _ w l hn _ 0 St.zero _ _ [] [] rfl (by decide) hcnt HS.out).mono ?_; rintro e w7 ⟨rfl, ⟨v7, ds7, HR7⟩, HF7⟩; rw [hS.out] at HR7 ⊢; have hbz := HR7.below; simp only [Option.isSome_none]))
    go_ret2
    exact ⟨_, by rw [hE]; rfl, by rw [hR]; exact World.ownsRow_nil _ _ _ _, hbz⟩
  | some q =>
    have hR : ordR l = q := by unfold ordR; rw [hS]; rfl
    have hE : ordE l = 0 := by unfold ordE; rw [hS]; rfl
    rw [hR] at hvl ⊢
    rw [hE]
    replace hS := Lib.hid hS
    go_enter Try.func10, Try.ntmps10
    go_wp2_with (first | (go_at_call 21; refine (begin_any A c l w hv hn).mono ?_; rintro e wb ⟨rfl, hsb, hrb, hmb, hbel⟩; have HS := Lib.hid (start_SR hv hsb hrb hmb hbel); have hb3 := alloc_new ((wb.alloc (.cells #[.pointer (some ⟨w.heap.size + 1 + 1, 0, none⟩)] 65)).alloc (.cells #[.slice none 0 0] 25)) (.cells #[.nilFunc] 67); rw [World.size_alloc, World.size_alloc] at hb3; have f1 := cell_of_one hb3; have f2 := free_of_one hb3) | (go_at_call 22; refine (try_any _ w l hn _ 0 St.zero _ _ [] [] rfl (by decide) hcnt HS.out).mono ?_; rintro e w7 ⟨rfl, ⟨v7, ds7, HR7⟩, HF7⟩; rw [hS.out] at HR7 ⊢; have hbz := HR7.below; simp only [Option.getD_some, List.nil_append, Option.isSome_some] at HR7 ⊢; obtain ⟨A7, c7, rfl, _⟩ := own_slice HR7.path; have p7 := cell_of_one HR7.pb; replace HR7 := Lib.hid HR7) | (go_at_call 23; refine (clone_any _ _ _ _ _ HR7.out.path (Nat.le_trans hvl hn) (natV_one _)).mono ?_; rintro e w8 ⟨v8, rfl, hown8, hb8⟩; have hs8 := own_slice hown8))
    go_ret2
    exact ⟨v8, rfl, own_lower hown8 hbz.size, hbz.trans (hb8.mono hbz.size)⟩

def okR (l : List It) : Bool := (S l 0 St.zero).isSome
theorem check_any (A : Option Addr) (c : Nat) (l : List It) (w : World) (hv : Rd w (.slice A l.length c) l.length (itsV l)) (hn : l.length ≤ 24) :
    Calls Try.prog 13 #[.slice A l.length c] w fun e w' => e = .returned (.tuple #[.bool (okR l), .int .i64 0]) ∧ Below w.heap.size w w' := by
  cases hS : okR l with
  | false =>
    have hE : ordE l = 3 := by unfold ordE; unfold okR at hS; rw [hS]; rfl
    go_enter Try.func13, Try.ntmps13
    go_wp2_with (go_at_call 10; refine (order_any A c l w hv hn).mono ?_; rintro e w1 ⟨v1, rfl, hown1, hb1⟩; rw [hE]; replace hown1 := Lib.hid hown1)
    go_ret2
    exact ⟨rfl, hb1⟩
  | true =>
    have hE : ordE l = 0 := by unfold ordE; unfold okR at hS; rw [hS]; rfl
    go_enter Try.func13, Try.ntmps13
    go_wp2_with (go_at_call 10; refine (order_any A c l w hv hn).mono ?_; rintro e w1 ⟨v1, rfl, hown1, hb1⟩; rw [hE]; replace hown1 := Lib.hid hown1)
    go_ret2
    exact ⟨rfl, hb1⟩
theorem check_big (A : Option Addr) (n c : Nat) (w : World) (hn : 24 < n) :
    Calls Try.prog 13 #[.slice A n c] w fun e w' => e = .returned (.tuple #[.bool false, .int .i64 6]) ∧ w' = w := by
  go_enter Try.func13, Try.ntmps13
  go_wp2_with (go_at_call 10; refine (order_big A n c w hn).mono ?_; rintro e w1 ⟨rfl, rfl⟩)
  go_ret2
  exact ⟨rfl, rfl⟩
end Go.Proofs.Ytbengfmoimlnbaa
