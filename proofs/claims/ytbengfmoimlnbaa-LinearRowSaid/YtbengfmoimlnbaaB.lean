/- Records' states and answers as plain data; what a call does; the walks through Does, Ahead and the small turns of answers. -/
import Derived.RegionTactic
import Derived.ChangeAlike
import Derived.BigRegion
import Derived.Deep.QuietTactic
import Derived.BigQuiet
import Derived.Deep.RegionHeld3
import Derived.Test.YtbengfmoimlnbaaTY
namespace Go.Proofs.Ytbengfmoimlnbaa
open Go.RowKit

abbrev It := D_gleberef24_Item
abbrev An := D_gleberef07_Ans
structure St where
  ver : Int
  val : ByteArray
def St.zero : St := ⟨0, ⟨#[]⟩⟩
def An.none : An := ⟨0, false, ⟨#[]⟩, 0⟩
def readA (s : St) : An := if 0 < s.ver then ⟨0, true, s.val, s.ver⟩ else An.none
def putA (s : St) : An := if 0 < s.ver then ⟨0, true, s.val, wrap64 (s.ver + 1)⟩ else An.none
def doesA (s : St) (k : Int) : An := if k = 1 then readA s else if k = 3 then readA s else if k = 2 then putA s else An.none
def doesS (s : St) (k : Int) (v : ByteArray) : St := if k = 3 then St.zero else if k = 2 then ⟨wrap64 (s.ver + 1), v⟩ else s
def ahead (a b : It) : Bool := !a.open_ && decide (a.end_ < b.begin_)

theorem info_int : (Try.prog.info? 3).map (fun i => (i.zero, i.size, i.bytes)) = some (some (.int .i64 0), 1, 8) := by kernel_rfl

set_option maxHeartbeats 400000 in
theorem num_any (a : Int) (w : World) :
    Calls Try.prog 14 #[.int .i64 a] w fun e w' => e = .returned (.int .i64 a) ∧ w = w' := by
  go_enter Try.func14, Try.ntmps14
  go_wp2
  go_ret
  exact ⟨rfl, rfl⟩

def anC (a : An) : Array Value := #[.int .i64 a.e, .bool a.found, .string a.value, .int .i64 a.ver]
def stC (s : St) : Array Value := #[.int .i64 s.ver, .string s.val]

set_option maxHeartbeats 1000000 in
theorem does_any (s : St) (k : Int) (v : ByteArray) (w : World) :
    Calls Try.prog 15 #[.agg #[.int .i64 s.ver, .string s.val], .int .i64 k, .string v] w fun e w' => e = .returned (.tuple #[.agg (anC (doesA s k)), .agg (stC (doesS s k v))]) ∧ Below w.heap.size w w' := by
  by_cases h1 : k = 1
  · subst h1
    by_cases h : 0 < s.ver
    · rw [show doesA s 1 = ⟨0, true, s.val, s.ver⟩ by simp [doesA, readA, h], show doesS s 1 v = s from rfl]
      go_enter Try.func15, Try.ntmps15
      go_wp2
      go_region
      all_goals (try go_wp2)
      all_goals (refine bodyPost_ret (by simp [results, Try.results15, go_sem]; exact ⟨rfl, rfl⟩) rfl ⟨rfl, ?_⟩)
      all_goals (repeat (first | exact Below.refl _ _ | apply Below.drew | refine Below.alloc ?_ (by simp <;> omega) _ | refine Below.setCell ?_ (by simp) _))
    · rw [show doesA s 1 = An.none by simp [doesA, readA, h], show doesS s 1 v = s from rfl]
      have h' : s.ver ≤ 0 := by omega
      clear h
      go_enter Try.func15, Try.ntmps15
      go_wp2
      go_region
      all_goals (try go_wp2)
      all_goals (refine bodyPost_ret (by simp [results, Try.results15, go_sem]; exact ⟨rfl, rfl⟩) rfl ⟨rfl, ?_⟩)
      all_goals (repeat (first | exact Below.refl _ _ | apply Below.drew | refine Below.alloc ?_ (by simp <;> omega) _ | refine Below.setCell ?_ (by simp) _))
  · have e1 : (k == 1) = false := beq_eq_false_iff_ne.2 h1
    by_cases h3 : k = 3
    · subst h3
      by_cases h : 0 < s.ver
      · rw [show doesA s 3 = ⟨0, true, s.val, s.ver⟩ by simp [doesA, readA, h], show doesS s 3 v = St.zero from rfl]
        clear h1 e1
        go_enter Try.func15, Try.ntmps15
        go_wp2
        all_goals (refine bodyPost_ret (by simp [results, Try.results15, go_sem]; exact ⟨rfl, rfl⟩) rfl ⟨rfl, ?_⟩)
        all_goals (repeat (first | exact Below.refl _ _ | apply Below.drew | refine Below.alloc ?_ (by simp <;> omega) _ | refine Below.setCell ?_ (by simp) _))
      · rw [show doesA s 3 = An.none by simp [doesA, readA, h], show doesS s 3 v = St.zero from rfl]
        have h' : s.ver ≤ 0 := by omega
        clear h h1 e1
        go_enter Try.func15, Try.ntmps15
        go_wp2
        all_goals (refine bodyPost_ret (by simp [results, Try.results15, go_sem]; exact ⟨rfl, rfl⟩) rfl ⟨rfl, ?_⟩)
        all_goals (repeat (first | exact Below.refl _ _ | apply Below.drew | refine Below.alloc ?_ (by simp <;> omega) _ | refine Below.setCell ?_ (by simp) _))
    · have e3 : (k == 3) = false := beq_eq_false_iff_ne.2 h3
      by_cases h2 : k = 2
      · subst h2
        by_cases h : 0 < s.ver
        · rw [show doesA s 2 = ⟨0, true, s.val, wrap64 (s.ver + 1)⟩ by simp [doesA, putA, h], show doesS s 2 v = ⟨wrap64 (s.ver + 1), v⟩ from rfl]
          clear h1 e1 h3 e3
          go_enter Try.func15, Try.ntmps15
          go_wp2
          go_region
          all_goals (try go_wp2)
          all_goals (refine bodyPost_ret (by simp [results, Try.results15, go_sem]; exact ⟨rfl, rfl⟩) rfl ⟨rfl, ?_⟩)
          all_goals (repeat (first | exact Below.refl _ _ | apply Below.drew | refine Below.alloc ?_ (by simp <;> omega) _ | refine Below.setCell ?_ (by simp) _))
        · rw [show doesA s 2 = An.none by simp [doesA, putA, h], show doesS s 2 v = ⟨wrap64 (s.ver + 1), v⟩ from rfl]
          have h' : s.ver ≤ 0 := by omega
          clear h h1 e1 h3 e3
          go_enter Try.func15, Try.ntmps15
          go_wp2
          go_region
          all_goals (try go_wp2)
          all_goals (refine bodyPost_ret (by simp [results, Try.results15, go_sem]; exact ⟨rfl, rfl⟩) rfl ⟨rfl, ?_⟩)
          all_goals (repeat (first | exact Below.refl _ _ | apply Below.drew | refine Below.alloc ?_ (by simp <;> omega) _ | refine Below.setCell ?_ (by simp) _))
      · have e2 : (k == 2) = false := beq_eq_false_iff_ne.2 h2
        rw [show doesA s k = An.none by simp [doesA, h1, h2, h3], show doesS s k v = s by simp [doesS, h2, h3]]
        clear h1 h2 h3
        by_cases h : 0 < s.ver
        · go_enter Try.func15, Try.ntmps15
          go_wp2
          go_region
          all_goals (try go_wp2)
          all_goals (refine bodyPost_ret (by simp [results, Try.results15, go_sem]; exact ⟨rfl, rfl⟩) rfl ⟨rfl, ?_⟩)
          all_goals (repeat (first | exact Below.refl _ _ | apply Below.drew | refine Below.alloc ?_ (by simp <;> omega) _ | refine Below.setCell ?_ (by simp) _))
        · have h' : s.ver ≤ 0 := by omega
          clear h
          go_enter Try.func15, Try.ntmps15
          go_wp2
          go_region
          all_goals (try go_wp2)
          all_goals (refine bodyPost_ret (by simp [results, Try.results15, go_sem]; exact ⟨rfl, rfl⟩) rfl ⟨rfl, ?_⟩)
          all_goals (repeat (first | exact Below.refl _ _ | apply Below.drew | refine Below.alloc ?_ (by simp <;> omega) _ | refine Below.setCell ?_ (by simp) _))

set_option maxHeartbeats 1000000 in
theorem rdoes_any (s : St) (k : Int) (v : ByteArray) (w : World) :
    Calls Try.prog 16 #[.agg #[.int .i64 s.ver, .string s.val], .int .i64 k, .string v] w fun e w' => e = .returned (.tuple #[.agg (anC (doesA s k)), .agg (stC (doesS s k v))]) ∧ Below w.heap.size w w' := by
  by_cases h1 : k = 1
  · subst h1
    by_cases h : 0 < s.ver
    · rw [show doesA s 1 = ⟨0, true, s.val, s.ver⟩ by simp [doesA, readA, h], show doesS s 1 v = s from rfl]
      go_enter Try.func16, Try.ntmps16
      go_wp2
      go_region
      all_goals (try go_wp2)
      all_goals (refine bodyPost_ret (by simp [results, Try.results16, go_sem]; exact ⟨rfl, rfl⟩) rfl ⟨rfl, ?_⟩)
      all_goals (repeat (first | exact Below.refl _ _ | apply Below.drew | refine Below.alloc ?_ (by simp <;> omega) _ | refine Below.setCell ?_ (by simp) _))
    · rw [show doesA s 1 = An.none by simp [doesA, readA, h], show doesS s 1 v = s from rfl]
      have h' : s.ver ≤ 0 := by omega
      clear h
      go_enter Try.func16, Try.ntmps16
      go_wp2
      go_region
      all_goals (try go_wp2)
      all_goals (refine bodyPost_ret (by simp [results, Try.results16, go_sem]; exact ⟨rfl, rfl⟩) rfl ⟨rfl, ?_⟩)
      all_goals (repeat (first | exact Below.refl _ _ | apply Below.drew | refine Below.alloc ?_ (by simp <;> omega) _ | refine Below.setCell ?_ (by simp) _))
  · have e1 : (k == 1) = false := beq_eq_false_iff_ne.2 h1
    by_cases h3 : k = 3
    · subst h3
      by_cases h : 0 < s.ver
      · rw [show doesA s 3 = ⟨0, true, s.val, s.ver⟩ by simp [doesA, readA, h], show doesS s 3 v = St.zero from rfl]
        clear h1 e1
        go_enter Try.func16, Try.ntmps16
        go_wp2
        all_goals (refine bodyPost_ret (by simp [results, Try.results16, go_sem]; exact ⟨rfl, rfl⟩) rfl ⟨rfl, ?_⟩)
        all_goals (repeat (first | exact Below.refl _ _ | apply Below.drew | refine Below.alloc ?_ (by simp <;> omega) _ | refine Below.setCell ?_ (by simp) _))
      · rw [show doesA s 3 = An.none by simp [doesA, readA, h], show doesS s 3 v = St.zero from rfl]
        have h' : s.ver ≤ 0 := by omega
        clear h h1 e1
        go_enter Try.func16, Try.ntmps16
        go_wp2
        all_goals (refine bodyPost_ret (by simp [results, Try.results16, go_sem]; exact ⟨rfl, rfl⟩) rfl ⟨rfl, ?_⟩)
        all_goals (repeat (first | exact Below.refl _ _ | apply Below.drew | refine Below.alloc ?_ (by simp <;> omega) _ | refine Below.setCell ?_ (by simp) _))
    · have e3 : (k == 3) = false := beq_eq_false_iff_ne.2 h3
      by_cases h2 : k = 2
      · subst h2
        by_cases h : 0 < s.ver
        · rw [show doesA s 2 = ⟨0, true, s.val, wrap64 (s.ver + 1)⟩ by simp [doesA, putA, h], show doesS s 2 v = ⟨wrap64 (s.ver + 1), v⟩ from rfl]
          clear h1 e1 h3 e3
          go_enter Try.func16, Try.ntmps16
          go_wp2
          go_region
          all_goals (try go_wp2)
          all_goals (refine bodyPost_ret (by simp [results, Try.results16, go_sem]; exact ⟨rfl, rfl⟩) rfl ⟨rfl, ?_⟩)
          all_goals (repeat (first | exact Below.refl _ _ | apply Below.drew | refine Below.alloc ?_ (by simp <;> omega) _ | refine Below.setCell ?_ (by simp) _))
        · rw [show doesA s 2 = An.none by simp [doesA, putA, h], show doesS s 2 v = ⟨wrap64 (s.ver + 1), v⟩ from rfl]
          have h' : s.ver ≤ 0 := by omega
          clear h h1 e1 h3 e3
          go_enter Try.func16, Try.ntmps16
          go_wp2
          go_region
          all_goals (try go_wp2)
          all_goals (refine bodyPost_ret (by simp [results, Try.results16, go_sem]; exact ⟨rfl, rfl⟩) rfl ⟨rfl, ?_⟩)
          all_goals (repeat (first | exact Below.refl _ _ | apply Below.drew | refine Below.alloc ?_ (by simp <;> omega) _ | refine Below.setCell ?_ (by simp) _))
      · have e2 : (k == 2) = false := beq_eq_false_iff_ne.2 h2
        rw [show doesA s k = An.none by simp [doesA, h1, h2, h3], show doesS s k v = s by simp [doesS, h2, h3]]
        clear h1 h2 h3
        by_cases h : 0 < s.ver
        · go_enter Try.func16, Try.ntmps16
          go_wp2
          go_region
          all_goals (try go_wp2)
          all_goals (refine bodyPost_ret (by simp [results, Try.results16, go_sem]; exact ⟨rfl, rfl⟩) rfl ⟨rfl, ?_⟩)
          all_goals (repeat (first | exact Below.refl _ _ | apply Below.drew | refine Below.alloc ?_ (by simp <;> omega) _ | refine Below.setCell ?_ (by simp) _))
        · have h' : s.ver ≤ 0 := by omega
          clear h
          go_enter Try.func16, Try.ntmps16
          go_wp2
          go_region
          all_goals (try go_wp2)
          all_goals (refine bodyPost_ret (by simp [results, Try.results16, go_sem]; exact ⟨rfl, rfl⟩) rfl ⟨rfl, ?_⟩)
          all_goals (repeat (first | exact Below.refl _ _ | apply Below.drew | refine Below.alloc ?_ (by simp <;> omega) _ | refine Below.setCell ?_ (by simp) _))

set_option maxHeartbeats 400000 in
theorem ahead_any (a b : It) (w : World) :
    Calls Try.prog 18 #[.agg #[.int .i64 a.kind, .int .i64 a.begin_, .int .i64 a.end_, .bool a.open_, .string a.value, .int .i64 a.ans.e, .bool a.ans.found, .string a.ans.value, .int .i64 a.ans.ver], .agg #[.int .i64 b.kind, .int .i64 b.begin_, .int .i64 b.end_, .bool b.open_, .string b.value, .int .i64 b.ans.e, .bool b.ans.found, .string b.ans.value, .int .i64 b.ans.ver]] w fun e w' => e = .returned (.bool (ahead a b)) ∧ Below w.heap.size w w' := by
  cases h : a.open_
  · rw [show ahead a b = decide (a.end_ < b.begin_) by simp [ahead, h]]
    go_enter Try.func18, Try.ntmps18
    go_wp2
    go_ret
    exact ⟨rfl, (by repeat (first | exact Below.refl _ _ | apply Below.drew | refine Below.alloc ?_ (by simp <;> omega) _ | refine Below.setCell ?_ (by simp) _))⟩
  · rw [show ahead a b = false by simp [ahead, h]]
    go_enter Try.func18, Try.ntmps18
    go_wp2
    go_ret
    exact ⟨rfl, (by repeat (first | exact Below.refl _ _ | apply Below.drew | refine Below.alloc ?_ (by simp <;> omega) _ | refine Below.setCell ?_ (by simp) _))⟩

set_option maxHeartbeats 400000 in
theorem rahead_any (a b : It) (w : World) :
    Calls Try.prog 19 #[.agg #[.int .i64 a.kind, .int .i64 a.begin_, .int .i64 a.end_, .bool a.open_, .string a.value, .int .i64 a.ans.e, .bool a.ans.found, .string a.ans.value, .int .i64 a.ans.ver], .agg #[.int .i64 b.kind, .int .i64 b.begin_, .int .i64 b.end_, .bool b.open_, .string b.value, .int .i64 b.ans.e, .bool b.ans.found, .string b.ans.value, .int .i64 b.ans.ver]] w fun e w' => e = .returned (.bool (ahead a b)) ∧ Below w.heap.size w w' := by
  cases h : a.open_
  · rw [show ahead a b = decide (a.end_ < b.begin_) by simp [ahead, h]]
    go_enter Try.func19, Try.ntmps19
    go_wp2
    go_ret
    exact ⟨rfl, (by repeat (first | exact Below.refl _ _ | apply Below.drew | refine Below.alloc ?_ (by simp <;> omega) _ | refine Below.setCell ?_ (by simp) _))⟩
  · rw [show ahead a b = false by simp [ahead, h]]
    go_enter Try.func19, Try.ntmps19
    go_wp2
    go_ret
    exact ⟨rfl, (by repeat (first | exact Below.refl _ _ | apply Below.drew | refine Below.alloc ?_ (by simp <;> omega) _ | refine Below.setCell ?_ (by simp) _))⟩

set_option maxHeartbeats 400000 in
theorem ans_any (a : An) (w : World) :
    Calls Try.prog 24 #[.agg #[.int .i64 a.e, .bool a.found, .string a.value, .int .i64 a.ver]] w fun e w' => e = .returned (.agg (anC a)) ∧ Below w.heap.size w w' := by
  go_enter Try.func24, Try.ntmps24
  go_wp2
  refine bodyPost_ret (by simp [results, Try.results24, go_sem]; rfl) rfl ⟨rfl, ?_⟩
  repeat (first | exact Below.refl _ _ | apply Below.drew | refine Below.alloc ?_ (by simp <;> omega) _ | refine Below.setCell ?_ (by simp) _)

set_option maxHeartbeats 400000 in
theorem refans_any (a : An) (w : World) :
    Calls Try.prog 17 #[.agg #[.int .i64 a.e, .bool a.found, .string a.value, .int .i64 a.ver]] w fun e w' => e = .returned (.agg (anC a)) ∧ Below w.heap.size w w' := by
  go_enter Try.func17, Try.ntmps17
  go_wp2
  refine bodyPost_ret (by simp [results, Try.results17, go_sem]; rfl) rfl ⟨rfl, ?_⟩
  repeat (first | exact Below.refl _ _ | apply Below.drew | refine Below.alloc ?_ (by simp <;> omega) _ | refine Below.setCell ?_ (by simp) _)
end Go.Proofs.Ytbengfmoimlnbaa
