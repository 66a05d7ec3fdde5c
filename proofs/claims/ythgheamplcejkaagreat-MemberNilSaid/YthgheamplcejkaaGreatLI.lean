/- light asked of one note. -/
import Derived.Test.YthgheamplcejkaaGreatCK
import Derived.Test.YthgheamplcejkaaGreatMM
namespace Go.Proofs.YthgheamplcejkaaGreat
open Go.RowKit

def smallB (n2 n0 n1 : Nat) (k v : ByteArray) : Bool := decide ((n2 : Int) ≤ 3000) && (decide ((n0 : Int) ≤ 30) && (decide ((n1 : Int) ≤ 30) && decide (wrap64 ((k.size : Int) + v.size) ≤ 300)))
set_option linter.unusedSimpArgs false in
set_option maxRecDepth 100000 in
set_option maxHeartbeats 2000000 in
theorem light_any (cs : Array Value) (k v : ByteArray) (A0 A1 A2 : Option Addr) (n0 n1 n2 c0 c1 c2 : Nat) (w : World)
    (q8 : cs[8]? = some (.slice A0 n0 c0)) (q13 : cs[13]? = some (.string k)) (q14 : cs[14]? = some (.string v)) (q20 : cs[20]? = some (.slice A1 n1 c1)) (q21 : cs[21]? = some (.slice A2 n2 c2)) :
    Calls Tryz.prog 99 #[.agg cs] w fun e w' => e = .returned (.bool (smallB n2 n0 n1 k v)) ∧ Below w.heap.size w w' := by
  have hb : Below w.heap.size w (w.alloc (.cells cs 43)) := (Below.refl _ w).alloc (Nat.le_refl _) _
  have P0 := alloc_new w (.cells cs 43)
  have e8 : (w.alloc (.cells cs 43)).cell? ⟨w.heap.size, 8, none⟩ = some (.slice A0 n0 c0) := (cell_of_block P0 8).trans q8
  have e13 : (w.alloc (.cells cs 43)).cell? ⟨w.heap.size, 13, none⟩ = some (.string k) := (cell_of_block P0 13).trans q13
  have e14 : (w.alloc (.cells cs 43)).cell? ⟨w.heap.size, 14, none⟩ = some (.string v) := (cell_of_block P0 14).trans q14
  have e20 : (w.alloc (.cells cs 43)).cell? ⟨w.heap.size, 20, none⟩ = some (.slice A1 n1 c1) := (cell_of_block P0 20).trans q20
  have e21 : (w.alloc (.cells cs 43)).cell? ⟨w.heap.size, 21, none⟩ = some (.slice A2 n2 c2) := (cell_of_block P0 21).trans q21
  clear q8 q13 q14 q20 q21
  clear P0
  replace hb := Lib.hid hb
  unfold smallB
  cases h1 : decide ((n2 : Int) ≤ 3000)
  · go_enter Tryz.func99, Tryz.ntmps99
    go_wp2
    go_ret
    exact ⟨rfl, hb.out⟩
  · cases h2 : decide ((n0 : Int) ≤ 30)
    · go_enter Tryz.func99, Tryz.ntmps99
      go_wp2
      go_ret
      exact ⟨rfl, hb.out⟩
    · cases h3 : decide ((n1 : Int) ≤ 30)
      · go_enter Tryz.func99, Tryz.ntmps99
        go_wp2
        go_ret
        exact ⟨rfl, hb.out⟩
      · cases h4 : decide (wrap64 ((k.size : Int) + v.size) ≤ 300)
        · go_enter Tryz.func99, Tryz.ntmps99
          go_wp2
          go_ret
          exact ⟨rfl, hb.out⟩
        · go_enter Tryz.func99, Tryz.ntmps99
          go_wp2
          go_ret
          exact ⟨rfl, hb.out⟩
end Go.Proofs.YthgheamplcejkaaGreat
