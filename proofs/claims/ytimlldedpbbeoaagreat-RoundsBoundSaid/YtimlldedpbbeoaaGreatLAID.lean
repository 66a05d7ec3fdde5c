/- The program's types are laid out, by parts (in one theorem it takes too much memory). Printed. -/
import Derived.Test.YtimlldedpbbeoaaGreatLA
import Derived.Test.YtimlldedpbbeoaaGreatLB
import Derived.Test.YtimlldedpbbeoaaGreatLC
import Derived.KernelRfl
import Derived.Test.YtimlldedpbbeoaaGreatProg
namespace Go.Proofs.YtimlldedpbbeoaaGreat

theorem segs2 (p : Nat → Bool) (a m k b t : Nat) (hb : a + m = b) (ht : m + k = t) (h1 : (List.range' a m).all p = true) (h2 : (List.range' b k).all p = true) : (List.range' a t).all p = true := by
  subst hb ht
  rw [← List.range'_append_1, List.all_append, h1, h2]; rfl
theorem range_all (p : Nat → Bool) (n m : Nat) (hn : m = n) (h : (List.range' 0 n).all p = true) : (List.range m).all p = true := by
  subst hn
  rw [List.range_eq_range']
  exact h
theorem and2b (a b : Bool) (h : a = true) (k : b = true) : (a && b) = true := by rw [h, k]; rfl
theorem laidT64 : (List.range' 0 128).all (rowFine Tryz.prog) = true := segs2 (rowFine Tryz.prog) 0 64 64 64 128 rfl rfl laidS0 laidS64
theorem laidT128 : (List.range' 0 192).all (rowFine Tryz.prog) = true := segs2 (rowFine Tryz.prog) 0 128 64 128 192 rfl rfl laidT64 laidS128
theorem laidT192 : (List.range' 0 256).all (rowFine Tryz.prog) = true := segs2 (rowFine Tryz.prog) 0 192 64 192 256 rfl rfl laidT128 laidS192
theorem laidT256 : (List.range' 0 320).all (rowFine Tryz.prog) = true := segs2 (rowFine Tryz.prog) 0 256 64 256 320 rfl rfl laidT192 laidS256
theorem laidT320 : (List.range' 0 384).all (rowFine Tryz.prog) = true := segs2 (rowFine Tryz.prog) 0 320 64 320 384 rfl rfl laidT256 laidS320
theorem laidT384 : (List.range' 0 448).all (rowFine Tryz.prog) = true := segs2 (rowFine Tryz.prog) 0 384 64 384 448 rfl rfl laidT320 laidS384
theorem laidT448 : (List.range' 0 512).all (rowFine Tryz.prog) = true := segs2 (rowFine Tryz.prog) 0 448 64 448 512 rfl rfl laidT384 laidS448
theorem laidT512 : (List.range' 0 576).all (rowFine Tryz.prog) = true := segs2 (rowFine Tryz.prog) 0 512 64 512 576 rfl rfl laidT448 laidS512
theorem laidT576 : (List.range' 0 640).all (rowFine Tryz.prog) = true := segs2 (rowFine Tryz.prog) 0 576 64 576 640 rfl rfl laidT512 laidS576
theorem laidT640 : (List.range' 0 704).all (rowFine Tryz.prog) = true := segs2 (rowFine Tryz.prog) 0 640 64 640 704 rfl rfl laidT576 laidS640
theorem laidR : (List.range Tryz.prog.types.size).all (rowFine Tryz.prog) = true := range_all (rowFine Tryz.prog) 704 Tryz.prog.types.size laidN laidT640
theorem laid_all : laidOutB Tryz.prog = true := and2b ((List.range Tryz.prog.types.size).all (rowFine Tryz.prog) && Tryz.prog.globals.all (fun g => decide (g.type < Tryz.prog.types.size))) (Tryz.prog.funcs.all (fun f => f.params.all fun t => decide (t < Tryz.prog.types.size))) (and2b _ _ laidR laidG) laidF
end Go.Proofs.YtimlldedpbbeoaaGreat
