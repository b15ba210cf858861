/- Closed facts on the types of this translation, written by a program. -/
import Derived.Test.YtipjhbkjgidljaaProg
import Derived.Test.YtipjhbkjgidljaaEa
namespace Go.Proofs.Ytipjhbkjgidljaa.E
open Go
theorem ba_beq (a b : ByteArray) : (a == b) = decide (a = b) := by
  obtain ⟨⟨x⟩⟩ := a
  obtain ⟨⟨y⟩⟩ := b
  show ((⟨x⟩ : Array UInt8) == ⟨y⟩) = _
  by_cases h : x = y <;> simp [h]
-- 1 func()
instance : Sz Try.prog 1 1 := ⟨by kernel_rfl⟩
instance : Bt Try.prog 1 := ⟨by kernel_rfl⟩
instance : Zr Try.prog 1 [.nilFunc] := ⟨by kernel_rfl⟩
instance : Sc Try.prog 1 := ⟨by kernel_rfl⟩
-- 2 int64
instance : Sz Try.prog 2 1 := ⟨by kernel_rfl⟩
instance : Bt Try.prog 2 := ⟨by kernel_rfl⟩
instance : Zr Try.prog 2 [.int .i64 0] := ⟨by kernel_rfl⟩
instance : Sc Try.prog 2 := ⟨by kernel_rfl⟩
instance : IntT Try.prog 2 .i64 := ⟨by kernel_rfl⟩
-- 3 int
instance : Sz Try.prog 3 1 := ⟨by kernel_rfl⟩
instance : Bt Try.prog 3 := ⟨by kernel_rfl⟩
instance : Zr Try.prog 3 [.int .i64 0] := ⟨by kernel_rfl⟩
instance : Sc Try.prog 3 := ⟨by kernel_rfl⟩
instance : IntT Try.prog 3 .i64 := ⟨by kernel_rfl⟩
-- 4 bool
instance : Sz Try.prog 4 1 := ⟨by kernel_rfl⟩
instance : Bt Try.prog 4 := ⟨by kernel_rfl⟩
instance : Zr Try.prog 4 [.bool false] := ⟨by kernel_rfl⟩
instance : Sc Try.prog 4 := ⟨by kernel_rfl⟩
instance : BoolT Try.prog 4 := ⟨by kernel_rfl⟩
-- 5 uint8
instance : Sz Try.prog 5 1 := ⟨by kernel_rfl⟩
instance : Bt Try.prog 5 := ⟨by kernel_rfl⟩
instance : Zr Try.prog 5 [.int .u8 0] := ⟨by kernel_rfl⟩
instance : Sc Try.prog 5 := ⟨by kernel_rfl⟩
instance : IntT Try.prog 5 .u8 := ⟨by kernel_rfl⟩
-- 7 struct { x int64; y int; signed bool; code abi.BoundsErrorCode }
instance : Sz Try.prog 7 4 := ⟨by kernel_rfl⟩
instance : Bt Try.prog 7 := ⟨by kernel_rfl⟩
instance : Zr Try.prog 7 [.int .i64 0, .int .i64 0, .bool false, .int .u8 0] := ⟨by kernel_rfl⟩
instance : Ag Try.prog 7 := ⟨by kernel_rfl⟩
instance : Fo Try.prog 7 0 0 := ⟨by kernel_rfl⟩
instance : Fo Try.prog 7 1 1 := ⟨by kernel_rfl⟩
instance : Fo Try.prog 7 2 2 := ⟨by kernel_rfl⟩
instance : Fo Try.prog 7 3 3 := ⟨by kernel_rfl⟩
instance : Pl Try.prog 7 [(0, 1), (1, 1), (2, 1), (3, 1)] := ⟨by kernel_rfl⟩
-- 9 string
instance : Sz Try.prog 9 1 := ⟨by kernel_rfl⟩
instance : Bt Try.prog 9 := ⟨by kernel_rfl⟩
instance : Zr Try.prog 9 [.string ⟨#[]⟩] := ⟨by kernel_rfl⟩
instance : Sc Try.prog 9 := ⟨by kernel_rfl⟩
instance : StrT Try.prog 9 := ⟨by kernel_rfl⟩
-- 12 uintptr
instance : Sz Try.prog 12 1 := ⟨by kernel_rfl⟩
instance : Bt Try.prog 12 := ⟨by kernel_rfl⟩
instance : Zr Try.prog 12 [.int .u64 0] := ⟨by kernel_rfl⟩
instance : Sc Try.prog 12 := ⟨by kernel_rfl⟩
instance : IntT Try.prog 12 .u64 := ⟨by kernel_rfl⟩
-- 13 struct { msg string; addr uintptr }
instance : Sz Try.prog 13 2 := ⟨by kernel_rfl⟩
instance : Bt Try.prog 13 := ⟨by kernel_rfl⟩
instance : Zr Try.prog 13 [.string ⟨#[]⟩, .int .u64 0] := ⟨by kernel_rfl⟩
instance : Ag Try.prog 13 := ⟨by kernel_rfl⟩
instance : Fo Try.prog 13 0 0 := ⟨by kernel_rfl⟩
instance : Fo Try.prog 13 1 1 := ⟨by kernel_rfl⟩
instance : Pl Try.prog 13 [(0, 1), (1, 1)] := ⟨by kernel_rfl⟩
-- 17 *abi.Type
instance : Sz Try.prog 17 1 := ⟨by kernel_rfl⟩
instance : Bt Try.prog 17 := ⟨by kernel_rfl⟩
instance : Zr Try.prog 17 [.pointer none] := ⟨by kernel_rfl⟩
instance : Sc Try.prog 17 := ⟨by kernel_rfl⟩
instance : PtrT Try.prog 17 112 := ⟨by kernel_rfl⟩
-- 18 struct { typ *abi.Type }
instance : Sz Try.prog 18 1 := ⟨by kernel_rfl⟩
instance : Bt Try.prog 18 := ⟨by kernel_rfl⟩
instance : Zr Try.prog 18 [.pointer none] := ⟨by kernel_rfl⟩
instance : Ag Try.prog 18 := ⟨by kernel_rfl⟩
instance : Fo Try.prog 18 0 0 := ⟨by kernel_rfl⟩
instance : Pl Try.prog 18 [(0, 1)] := ⟨by kernel_rfl⟩
-- 20 interface {}
instance : Sz Try.prog 20 1 := ⟨by kernel_rfl⟩
instance : Bt Try.prog 20 := ⟨by kernel_rfl⟩
instance : Zr Try.prog 20 [.nilIface] := ⟨by kernel_rfl⟩
instance : Sc Try.prog 20 := ⟨by kernel_rfl⟩
-- 21 int32
instance : Sz Try.prog 21 1 := ⟨by kernel_rfl⟩
instance : Bt Try.prog 21 := ⟨by kernel_rfl⟩
instance : Zr Try.prog 21 [.int .i32 0] := ⟨by kernel_rfl⟩
instance : Sc Try.prog 21 := ⟨by kernel_rfl⟩
instance : IntT Try.prog 21 .i32 := ⟨by kernel_rfl⟩
-- 22 struct { Rate int; Burst int; Level int; At int }
instance : Sz Try.prog 22 4 := ⟨by kernel_rfl⟩
instance : Bt Try.prog 22 := ⟨by kernel_rfl⟩
instance : Zr Try.prog 22 [.int .i64 0, .int .i64 0, .int .i64 0, .int .i64 0] := ⟨by kernel_rfl⟩
instance : Ag Try.prog 22 := ⟨by kernel_rfl⟩
instance : Fo Try.prog 22 0 0 := ⟨by kernel_rfl⟩
instance : Fo Try.prog 22 1 1 := ⟨by kernel_rfl⟩
instance : Fo Try.prog 22 2 2 := ⟨by kernel_rfl⟩
instance : Fo Try.prog 22 3 3 := ⟨by kernel_rfl⟩
instance : Pl Try.prog 22 [(0, 1), (1, 1), (2, 1), (3, 1)] := ⟨by kernel_rfl⟩
-- 23 patchbay/api.BucketState
instance : Sz Try.prog 23 4 := ⟨by kernel_rfl⟩
instance : Bt Try.prog 23 := ⟨by kernel_rfl⟩
instance : Zr Try.prog 23 [.int .i64 0, .int .i64 0, .int .i64 0, .int .i64 0] := ⟨by kernel_rfl⟩
instance : Ag Try.prog 23 := ⟨by kernel_rfl⟩
instance : Fo Try.prog 23 0 0 := ⟨by kernel_rfl⟩
instance : Fo Try.prog 23 1 1 := ⟨by kernel_rfl⟩
instance : Fo Try.prog 23 2 2 := ⟨by kernel_rfl⟩
instance : Fo Try.prog 23 3 3 := ⟨by kernel_rfl⟩
instance : Pl Try.prog 23 [(0, 1), (1, 1), (2, 1), (3, 1)] := ⟨by kernel_rfl⟩
theorem eqF_23 (a0 b0 : Int) (a1 b1 : Int) (a2 b2 : Int) (a3 b3 : Int) : EqF Try.prog 23 #[.int .i64 a0, .int .i64 a1, .int .i64 a2, .int .i64 a3] #[.int .i64 b0, .int .i64 b1, .int .i64 b2, .int .i64 b3] (decide (a0 = b0 ∧ a1 = b1 ∧ a2 = b2 ∧ a3 = b3)) := by
  have hg : Try.prog.eqGuardType Try.prog.depth 23 = false := by kernel_rfl
  refine ⟨fun x y w => ⟨run_eqGuard_agg w _ _ x y _ _ hg, run_eqGuard_agg w _ _ x y _ _ hg⟩, fun w => ⟨?_, ?_⟩⟩
  all_goals
    simp [go_sem, ← beq_toListBytes, ba_beq]
    by_cases h0 : a0 = b0
    case neg => simp [h0]
    simp only [h0, true_and, if_true, decide_true, Bool.true_and]
    by_cases h1 : a1 = b1
    case neg => simp [h1]
    simp only [h1, true_and, if_true, decide_true, Bool.true_and]
    by_cases h2 : a2 = b2
    case neg => simp [h2]
    simp only [h2, true_and, if_true, decide_true, Bool.true_and]
    by_cases h3 : a3 = b3
    case neg => simp [h3]
    simp only [h3, true_and, if_true, decide_true, Bool.true_and]
    try simp
-- 24 func() bool
instance : Sz Try.prog 24 1 := ⟨by kernel_rfl⟩
instance : Bt Try.prog 24 := ⟨by kernel_rfl⟩
instance : Zr Try.prog 24 [.nilFunc] := ⟨by kernel_rfl⟩
instance : Sc Try.prog 24 := ⟨by kernel_rfl⟩
-- 25 patchbay/api.Errno
instance : Sz Try.prog 25 1 := ⟨by kernel_rfl⟩
instance : Bt Try.prog 25 := ⟨by kernel_rfl⟩
instance : Zr Try.prog 25 [.int .i64 0] := ⟨by kernel_rfl⟩
instance : Sc Try.prog 25 := ⟨by kernel_rfl⟩
instance : IntT Try.prog 25 .i64 := ⟨by kernel_rfl⟩
-- 27 func(int, int, int) (api.BucketState, api.Errno)
instance : Sz Try.prog 27 1 := ⟨by kernel_rfl⟩
instance : Bt Try.prog 27 := ⟨by kernel_rfl⟩
instance : Zr Try.prog 27 [.nilFunc] := ⟨by kernel_rfl⟩
instance : Sc Try.prog 27 := ⟨by kernel_rfl⟩
-- 28 func(api.BucketState) api.Errno
instance : Sz Try.prog 28 1 := ⟨by kernel_rfl⟩
instance : Bt Try.prog 28 := ⟨by kernel_rfl⟩
instance : Zr Try.prog 28 [.nilFunc] := ⟨by kernel_rfl⟩
instance : Sc Try.prog 28 := ⟨by kernel_rfl⟩
-- 29 func(int, int, int) bool
instance : Sz Try.prog 29 1 := ⟨by kernel_rfl⟩
instance : Bt Try.prog 29 := ⟨by kernel_rfl⟩
instance : Zr Try.prog 29 [.nilFunc] := ⟨by kernel_rfl⟩
instance : Sc Try.prog 29 := ⟨by kernel_rfl⟩
-- 31 func(api.BucketState, int, int) (api.BucketState, bool, api.Errno)
instance : Sz Try.prog 31 1 := ⟨by kernel_rfl⟩
instance : Bt Try.prog 31 := ⟨by kernel_rfl⟩
instance : Zr Try.prog 31 [.nilFunc] := ⟨by kernel_rfl⟩
instance : Sc Try.prog 31 := ⟨by kernel_rfl⟩
-- 33 func(api.BucketState, int, int) (int, api.Errno)
instance : Sz Try.prog 33 1 := ⟨by kernel_rfl⟩
instance : Bt Try.prog 33 := ⟨by kernel_rfl⟩
instance : Zr Try.prog 33 [.nilFunc] := ⟨by kernel_rfl⟩
instance : Sc Try.prog 33 := ⟨by kernel_rfl⟩
-- 34 func(api.BucketState, int) api.BucketState
instance : Sz Try.prog 34 1 := ⟨by kernel_rfl⟩
instance : Bt Try.prog 34 := ⟨by kernel_rfl⟩
instance : Zr Try.prog 34 [.nilFunc] := ⟨by kernel_rfl⟩
instance : Sc Try.prog 34 := ⟨by kernel_rfl⟩
-- 35 func(api.BucketState, int, int) int
instance : Sz Try.prog 35 1 := ⟨by kernel_rfl⟩
instance : Bt Try.prog 35 := ⟨by kernel_rfl⟩
instance : Zr Try.prog 35 [.nilFunc] := ⟨by kernel_rfl⟩
instance : Sc Try.prog 35 := ⟨by kernel_rfl⟩
-- 36 func(api.BucketState, int, int) bool
instance : Sz Try.prog 36 1 := ⟨by kernel_rfl⟩
instance : Bt Try.prog 36 := ⟨by kernel_rfl⟩
instance : Zr Try.prog 36 [.nilFunc] := ⟨by kernel_rfl⟩
instance : Sc Try.prog 36 := ⟨by kernel_rfl⟩
-- 37 []api.Rule
instance : Sz Try.prog 37 1 := ⟨by kernel_rfl⟩
instance : Bt Try.prog 37 := ⟨by kernel_rfl⟩
instance : Zr Try.prog 37 [.slice none 0 0] := ⟨by kernel_rfl⟩
instance : Sc Try.prog 37 := ⟨by kernel_rfl⟩
instance : SlE Try.prog 37 49 := ⟨by kernel_rfl⟩
-- 38 uint32
instance : Sz Try.prog 38 1 := ⟨by kernel_rfl⟩
instance : Bt Try.prog 38 := ⟨by kernel_rfl⟩
instance : Zr Try.prog 38 [.int .u32 0] := ⟨by kernel_rfl⟩
instance : Sc Try.prog 38 := ⟨by kernel_rfl⟩
instance : IntT Try.prog 38 .u32 := ⟨by kernel_rfl⟩
-- 39 struct { Src uint32; Dst uint32; Proto int; TTL int; ID int; Off int; More bool; Whole bool; Body string }
instance : Sz Try.prog 39 9 := ⟨by kernel_rfl⟩
instance : Bt Try.prog 39 := ⟨by kernel_rfl⟩
instance : Zr Try.prog 39 [.int .u32 0, .int .u32 0, .int .i64 0, .int .i64 0, .int .i64 0, .int .i64 0, .bool false, .bool false, .string ⟨#[]⟩] := ⟨by kernel_rfl⟩
instance : Ag Try.prog 39 := ⟨by kernel_rfl⟩
instance : Fo Try.prog 39 0 0 := ⟨by kernel_rfl⟩
instance : Fo Try.prog 39 1 1 := ⟨by kernel_rfl⟩
instance : Fo Try.prog 39 2 2 := ⟨by kernel_rfl⟩
instance : Fo Try.prog 39 3 3 := ⟨by kernel_rfl⟩
instance : Fo Try.prog 39 4 4 := ⟨by kernel_rfl⟩
instance : Fo Try.prog 39 5 5 := ⟨by kernel_rfl⟩
instance : Fo Try.prog 39 6 6 := ⟨by kernel_rfl⟩
instance : Fo Try.prog 39 7 7 := ⟨by kernel_rfl⟩
instance : Fo Try.prog 39 8 8 := ⟨by kernel_rfl⟩
instance : Pl Try.prog 39 [(0, 1), (1, 1), (2, 1), (3, 1), (4, 1), (5, 1), (6, 1), (7, 1), (8, 1)] := ⟨by kernel_rfl⟩
-- 40 patchbay/api.Packet
instance : Sz Try.prog 40 9 := ⟨by kernel_rfl⟩
instance : Bt Try.prog 40 := ⟨by kernel_rfl⟩
instance : Zr Try.prog 40 [.int .u32 0, .int .u32 0, .int .i64 0, .int .i64 0, .int .i64 0, .int .i64 0, .bool false, .bool false, .string ⟨#[]⟩] := ⟨by kernel_rfl⟩
instance : Ag Try.prog 40 := ⟨by kernel_rfl⟩
instance : Fo Try.prog 40 0 0 := ⟨by kernel_rfl⟩
instance : Fo Try.prog 40 1 1 := ⟨by kernel_rfl⟩
instance : Fo Try.prog 40 2 2 := ⟨by kernel_rfl⟩
instance : Fo Try.prog 40 3 3 := ⟨by kernel_rfl⟩
instance : Fo Try.prog 40 4 4 := ⟨by kernel_rfl⟩
instance : Fo Try.prog 40 5 5 := ⟨by kernel_rfl⟩
instance : Fo Try.prog 40 6 6 := ⟨by kernel_rfl⟩
instance : Fo Try.prog 40 7 7 := ⟨by kernel_rfl⟩
instance : Fo Try.prog 40 8 8 := ⟨by kernel_rfl⟩
instance : Pl Try.prog 40 [(0, 1), (1, 1), (2, 1), (3, 1), (4, 1), (5, 1), (6, 1), (7, 1), (8, 1)] := ⟨by kernel_rfl⟩
theorem eqF_40 (a0 b0 : Int) (a1 b1 : Int) (a2 b2 : Int) (a3 b3 : Int) (a4 b4 : Int) (a5 b5 : Int) (a6 b6 : Bool) (a7 b7 : Bool) (a8 b8 : ByteArray) : EqF Try.prog 40 #[.int .u32 a0, .int .u32 a1, .int .i64 a2, .int .i64 a3, .int .i64 a4, .int .i64 a5, .bool a6, .bool a7, .string a8] #[.int .u32 b0, .int .u32 b1, .int .i64 b2, .int .i64 b3, .int .i64 b4, .int .i64 b5, .bool b6, .bool b7, .string b8] (decide (a0 = b0 ∧ a1 = b1 ∧ a2 = b2 ∧ a3 = b3 ∧ a4 = b4 ∧ a5 = b5 ∧ a6 = b6 ∧ a7 = b7 ∧ a8 = b8)) := by
  have hg : Try.prog.eqGuardType Try.prog.depth 40 = false := by kernel_rfl
  refine ⟨fun x y w => ⟨run_eqGuard_agg w _ _ x y _ _ hg, run_eqGuard_agg w _ _ x y _ _ hg⟩, fun w => ⟨?_, ?_⟩⟩
  all_goals
    simp [go_sem, ← beq_toListBytes, ba_beq]
    by_cases h0 : a0 = b0
    case neg => simp [h0]
    simp only [h0, true_and, if_true, decide_true, Bool.true_and]
    by_cases h1 : a1 = b1
    case neg => simp [h1]
    simp only [h1, true_and, if_true, decide_true, Bool.true_and]
    by_cases h2 : a2 = b2
    case neg => simp [h2]
    simp only [h2, true_and, if_true, decide_true, Bool.true_and]
    by_cases h3 : a3 = b3
    case neg => simp [h3]
    simp only [h3, true_and, if_true, decide_true, Bool.true_and]
    by_cases h4 : a4 = b4
    case neg => simp [h4]
    simp only [h4, true_and, if_true, decide_true, Bool.true_and]
    by_cases h5 : a5 = b5
    case neg => simp [h5]
    simp only [h5, true_and, if_true, decide_true, Bool.true_and]
    by_cases h6 : a6 = b6
    case neg => simp [h6]
    simp only [h6, true_and, if_true, decide_true, Bool.true_and]
    by_cases h7 : a7 = b7
    case neg => simp [h7]
    simp only [h7, true_and, if_true, decide_true, Bool.true_and]
    by_cases h8 : a8 = b8
    case neg => simp [h8]
    simp only [h8, true_and, if_true, decide_true, Bool.true_and]
    try simp
-- 41 func([]api.Rule) api.Errno
instance : Sz Try.prog 41 1 := ⟨by kernel_rfl⟩
instance : Bt Try.prog 41 := ⟨by kernel_rfl⟩
instance : Zr Try.prog 41 [.nilFunc] := ⟨by kernel_rfl⟩
instance : Sc Try.prog 41 := ⟨by kernel_rfl⟩
-- 42 func(api.Packet) api.Errno
instance : Sz Try.prog 42 1 := ⟨by kernel_rfl⟩
instance : Bt Try.prog 42 := ⟨by kernel_rfl⟩
instance : Zr Try.prog 42 [.nilFunc] := ⟨by kernel_rfl⟩
instance : Sc Try.prog 42 := ⟨by kernel_rfl⟩
-- 43 func([]api.Rule, api.Packet) int
instance : Sz Try.prog 43 1 := ⟨by kernel_rfl⟩
instance : Bt Try.prog 43 := ⟨by kernel_rfl⟩
instance : Zr Try.prog 43 [.nilFunc] := ⟨by kernel_rfl⟩
instance : Sc Try.prog 43 := ⟨by kernel_rfl⟩
-- 44 func([]api.Rule, api.Packet) (int, api.Errno)
instance : Sz Try.prog 44 1 := ⟨by kernel_rfl⟩
instance : Bt Try.prog 44 := ⟨by kernel_rfl⟩
instance : Zr Try.prog 44 [.nilFunc] := ⟨by kernel_rfl⟩
instance : Sc Try.prog 44 := ⟨by kernel_rfl⟩
-- 45 func(api.Rule, api.Packet) bool
instance : Sz Try.prog 45 1 := ⟨by kernel_rfl⟩
instance : Bt Try.prog 45 := ⟨by kernel_rfl⟩
instance : Zr Try.prog 45 [.nilFunc] := ⟨by kernel_rfl⟩
instance : Sc Try.prog 45 := ⟨by kernel_rfl⟩
-- 46 struct { Addr uint32; Bits int }
instance : Sz Try.prog 46 2 := ⟨by kernel_rfl⟩
instance : Bt Try.prog 46 := ⟨by kernel_rfl⟩
instance : Zr Try.prog 46 [.int .u32 0, .int .i64 0] := ⟨by kernel_rfl⟩
instance : Ag Try.prog 46 := ⟨by kernel_rfl⟩
instance : Fo Try.prog 46 0 0 := ⟨by kernel_rfl⟩
instance : Fo Try.prog 46 1 1 := ⟨by kernel_rfl⟩
instance : Pl Try.prog 46 [(0, 1), (1, 1)] := ⟨by kernel_rfl⟩
-- 47 patchbay/api.Prefix
instance : Sz Try.prog 47 2 := ⟨by kernel_rfl⟩
instance : Bt Try.prog 47 := ⟨by kernel_rfl⟩
instance : Zr Try.prog 47 [.int .u32 0, .int .i64 0] := ⟨by kernel_rfl⟩
instance : Ag Try.prog 47 := ⟨by kernel_rfl⟩
instance : Fo Try.prog 47 0 0 := ⟨by kernel_rfl⟩
instance : Fo Try.prog 47 1 1 := ⟨by kernel_rfl⟩
instance : Pl Try.prog 47 [(0, 1), (1, 1)] := ⟨by kernel_rfl⟩
theorem eqF_47 (a0 b0 : Int) (a1 b1 : Int) : EqF Try.prog 47 #[.int .u32 a0, .int .i64 a1] #[.int .u32 b0, .int .i64 b1] (decide (a0 = b0 ∧ a1 = b1)) := by
  have hg : Try.prog.eqGuardType Try.prog.depth 47 = false := by kernel_rfl
  refine ⟨fun x y w => ⟨run_eqGuard_agg w _ _ x y _ _ hg, run_eqGuard_agg w _ _ x y _ _ hg⟩, fun w => ⟨?_, ?_⟩⟩
  all_goals
    simp [go_sem, ← beq_toListBytes, ba_beq]
    by_cases h0 : a0 = b0
    case neg => simp [h0]
    simp only [h0, true_and, if_true, decide_true, Bool.true_and]
    by_cases h1 : a1 = b1
    case neg => simp [h1]
    simp only [h1, true_and, if_true, decide_true, Bool.true_and]
    try simp
-- 48 struct { Permit bool; Src api.Prefix; Dst api.Prefix; Proto int; FirstSrc int; LastSrc int; FirstDst int; LastDst int }
instance : Sz Try.prog 48 10 := ⟨by kernel_rfl⟩
instance : Bt Try.prog 48 := ⟨by kernel_rfl⟩
instance : Zr Try.prog 48 [.bool false, .int .u32 0, .int .i64 0, .int .u32 0, .int .i64 0, .int .i64 0, .int .i64 0, .int .i64 0, .int .i64 0, .int .i64 0] := ⟨by kernel_rfl⟩
instance : Ag Try.prog 48 := ⟨by kernel_rfl⟩
instance : Fo Try.prog 48 0 0 := ⟨by kernel_rfl⟩
instance : Fo Try.prog 48 1 1 := ⟨by kernel_rfl⟩
instance : Fo Try.prog 48 2 3 := ⟨by kernel_rfl⟩
instance : Fo Try.prog 48 3 5 := ⟨by kernel_rfl⟩
instance : Fo Try.prog 48 4 6 := ⟨by kernel_rfl⟩
instance : Fo Try.prog 48 5 7 := ⟨by kernel_rfl⟩
instance : Fo Try.prog 48 6 8 := ⟨by kernel_rfl⟩
instance : Fo Try.prog 48 7 9 := ⟨by kernel_rfl⟩
instance : Pl Try.prog 48 [(0, 1), (1, 2), (3, 2), (5, 1), (6, 1), (7, 1), (8, 1), (9, 1)] := ⟨by kernel_rfl⟩
-- 49 patchbay/api.Rule
instance : Sz Try.prog 49 10 := ⟨by kernel_rfl⟩
instance : Bt Try.prog 49 := ⟨by kernel_rfl⟩
instance : Zr Try.prog 49 [.bool false, .int .u32 0, .int .i64 0, .int .u32 0, .int .i64 0, .int .i64 0, .int .i64 0, .int .i64 0, .int .i64 0, .int .i64 0] := ⟨by kernel_rfl⟩
instance : Ag Try.prog 49 := ⟨by kernel_rfl⟩
instance : Fo Try.prog 49 0 0 := ⟨by kernel_rfl⟩
instance : Fo Try.prog 49 1 1 := ⟨by kernel_rfl⟩
instance : Fo Try.prog 49 2 3 := ⟨by kernel_rfl⟩
instance : Fo Try.prog 49 3 5 := ⟨by kernel_rfl⟩
instance : Fo Try.prog 49 4 6 := ⟨by kernel_rfl⟩
instance : Fo Try.prog 49 5 7 := ⟨by kernel_rfl⟩
instance : Fo Try.prog 49 6 8 := ⟨by kernel_rfl⟩
instance : Fo Try.prog 49 7 9 := ⟨by kernel_rfl⟩
instance : Pl Try.prog 49 [(0, 1), (1, 2), (3, 2), (5, 1), (6, 1), (7, 1), (8, 1), (9, 1)] := ⟨by kernel_rfl⟩
theorem eqF_49 (a0 b0 : Bool) (a1 b1 : Int) (a2 b2 : Int) (a3 b3 : Int) (a4 b4 : Int) (a5 b5 : Int) (a6 b6 : Int) (a7 b7 : Int) (a8 b8 : Int) (a9 b9 : Int) : EqF Try.prog 49 #[.bool a0, .int .u32 a1, .int .i64 a2, .int .u32 a3, .int .i64 a4, .int .i64 a5, .int .i64 a6, .int .i64 a7, .int .i64 a8, .int .i64 a9] #[.bool b0, .int .u32 b1, .int .i64 b2, .int .u32 b3, .int .i64 b4, .int .i64 b5, .int .i64 b6, .int .i64 b7, .int .i64 b8, .int .i64 b9] (decide (a0 = b0 ∧ a1 = b1 ∧ a2 = b2 ∧ a3 = b3 ∧ a4 = b4 ∧ a5 = b5 ∧ a6 = b6 ∧ a7 = b7 ∧ a8 = b8 ∧ a9 = b9)) := by
  have hg : Try.prog.eqGuardType Try.prog.depth 49 = false := by kernel_rfl
  refine ⟨fun x y w => ⟨run_eqGuard_agg w _ _ x y _ _ hg, run_eqGuard_agg w _ _ x y _ _ hg⟩, fun w => ⟨?_, ?_⟩⟩
  all_goals
    simp [go_sem, ← beq_toListBytes, ba_beq]
    by_cases h0 : a0 = b0
    case neg => simp [h0]
    simp only [h0, true_and, if_true, decide_true, Bool.true_and]
    by_cases h1 : a1 = b1
    case neg => simp [h1]
    simp only [h1, true_and, if_true, decide_true, Bool.true_and]
    by_cases h2 : a2 = b2
    case neg => simp [h2]
    simp only [h2, true_and, if_true, decide_true, Bool.true_and]
    by_cases h3 : a3 = b3
    case neg => simp [h3]
    simp only [h3, true_and, if_true, decide_true, Bool.true_and]
    by_cases h4 : a4 = b4
    case neg => simp [h4]
    simp only [h4, true_and, if_true, decide_true, Bool.true_and]
    by_cases h5 : a5 = b5
    case neg => simp [h5]
    simp only [h5, true_and, if_true, decide_true, Bool.true_and]
    by_cases h6 : a6 = b6
    case neg => simp [h6]
    simp only [h6, true_and, if_true, decide_true, Bool.true_and]
    by_cases h7 : a7 = b7
    case neg => simp [h7]
    simp only [h7, true_and, if_true, decide_true, Bool.true_and]
    by_cases h8 : a8 = b8
    case neg => simp [h8]
    simp only [h8, true_and, if_true, decide_true, Bool.true_and]
    by_cases h9 : a9 = b9
    case neg => simp [h9]
    simp only [h9, true_and, if_true, decide_true, Bool.true_and]
    try simp
-- 51 func(api.Packet) (int, int, bool)
instance : Sz Try.prog 51 1 := ⟨by kernel_rfl⟩
instance : Bt Try.prog 51 := ⟨by kernel_rfl⟩
instance : Zr Try.prog 51 [.nilFunc] := ⟨by kernel_rfl⟩
instance : Sc Try.prog 51 := ⟨by kernel_rfl⟩
-- 52 func([]api.Rule, api.Packet) bool
instance : Sz Try.prog 52 1 := ⟨by kernel_rfl⟩
instance : Bt Try.prog 52 := ⟨by kernel_rfl⟩
instance : Zr Try.prog 52 [.nilFunc] := ⟨by kernel_rfl⟩
instance : Sc Try.prog 52 := ⟨by kernel_rfl⟩
-- 53 []int
instance : Sz Try.prog 53 1 := ⟨by kernel_rfl⟩
instance : Bt Try.prog 53 := ⟨by kernel_rfl⟩
instance : Zr Try.prog 53 [.slice none 0 0] := ⟨by kernel_rfl⟩
instance : Sc Try.prog 53 := ⟨by kernel_rfl⟩
instance : SlE Try.prog 53 3 := ⟨by kernel_rfl⟩
-- 55 func(api.BucketState, []int, []int) ([]int, api.Errno)
instance : Sz Try.prog 55 1 := ⟨by kernel_rfl⟩
instance : Bt Try.prog 55 := ⟨by kernel_rfl⟩
instance : Zr Try.prog 55 [.nilFunc] := ⟨by kernel_rfl⟩
instance : Sc Try.prog 55 := ⟨by kernel_rfl⟩
-- 56 func([]int, []int) bool
instance : Sz Try.prog 56 1 := ⟨by kernel_rfl⟩
instance : Bt Try.prog 56 := ⟨by kernel_rfl⟩
instance : Zr Try.prog 56 [.nilFunc] := ⟨by kernel_rfl⟩
instance : Sc Try.prog 56 := ⟨by kernel_rfl⟩
-- 57 func(api.BucketState, []int, []int) bool
instance : Sz Try.prog 57 1 := ⟨by kernel_rfl⟩
instance : Bt Try.prog 57 := ⟨by kernel_rfl⟩
instance : Zr Try.prog 57 [.nilFunc] := ⟨by kernel_rfl⟩
instance : Sc Try.prog 57 := ⟨by kernel_rfl⟩
-- 58 []string
instance : Sz Try.prog 58 1 := ⟨by kernel_rfl⟩
instance : Bt Try.prog 58 := ⟨by kernel_rfl⟩
instance : Zr Try.prog 58 [.slice none 0 0] := ⟨by kernel_rfl⟩
instance : Sc Try.prog 58 := ⟨by kernel_rfl⟩
instance : SlE Try.prog 58 9 := ⟨by kernel_rfl⟩
-- 59 *fair.Queues
instance : Sz Try.prog 59 1 := ⟨by kernel_rfl⟩
instance : Bt Try.prog 59 := ⟨by kernel_rfl⟩
instance : Zr Try.prog 59 [.pointer none] := ⟨by kernel_rfl⟩
instance : Sc Try.prog 59 := ⟨by kernel_rfl⟩
instance : PtrT Try.prog 59 87 := ⟨by kernel_rfl⟩
-- 61 func([]int, int) (*fair.Queues, api.Errno)
instance : Sz Try.prog 61 1 := ⟨by kernel_rfl⟩
instance : Bt Try.prog 61 := ⟨by kernel_rfl⟩
instance : Zr Try.prog 61 [.nilFunc] := ⟨by kernel_rfl⟩
instance : Sc Try.prog 61 := ⟨by kernel_rfl⟩
-- 62 [][]string
instance : Sz Try.prog 62 1 := ⟨by kernel_rfl⟩
instance : Bt Try.prog 62 := ⟨by kernel_rfl⟩
instance : Zr Try.prog 62 [.slice none 0 0] := ⟨by kernel_rfl⟩
instance : Sc Try.prog 62 := ⟨by kernel_rfl⟩
instance : SlE Try.prog 62 58 := ⟨by kernel_rfl⟩
-- 63 struct { Weights []int; Quantum int; Turn int; Paid bool; Deficit []int; Waits [][]string }
instance : Sz Try.prog 63 6 := ⟨by kernel_rfl⟩
instance : Bt Try.prog 63 := ⟨by kernel_rfl⟩
instance : Zr Try.prog 63 [.slice none 0 0, .int .i64 0, .int .i64 0, .bool false, .slice none 0 0, .slice none 0 0] := ⟨by kernel_rfl⟩
instance : Ag Try.prog 63 := ⟨by kernel_rfl⟩
instance : Fo Try.prog 63 0 0 := ⟨by kernel_rfl⟩
instance : Fo Try.prog 63 1 1 := ⟨by kernel_rfl⟩
instance : Fo Try.prog 63 2 2 := ⟨by kernel_rfl⟩
instance : Fo Try.prog 63 3 3 := ⟨by kernel_rfl⟩
instance : Fo Try.prog 63 4 4 := ⟨by kernel_rfl⟩
instance : Fo Try.prog 63 5 5 := ⟨by kernel_rfl⟩
instance : Pl Try.prog 63 [(0, 1), (1, 1), (2, 1), (3, 1), (4, 1), (5, 1)] := ⟨by kernel_rfl⟩
-- 64 patchbay/patchbayref3.Fair
instance : Sz Try.prog 64 6 := ⟨by kernel_rfl⟩
instance : Bt Try.prog 64 := ⟨by kernel_rfl⟩
instance : Zr Try.prog 64 [.slice none 0 0, .int .i64 0, .int .i64 0, .bool false, .slice none 0 0, .slice none 0 0] := ⟨by kernel_rfl⟩
instance : Ag Try.prog 64 := ⟨by kernel_rfl⟩
instance : Fo Try.prog 64 0 0 := ⟨by kernel_rfl⟩
instance : Fo Try.prog 64 1 1 := ⟨by kernel_rfl⟩
instance : Fo Try.prog 64 2 2 := ⟨by kernel_rfl⟩
instance : Fo Try.prog 64 3 3 := ⟨by kernel_rfl⟩
instance : Fo Try.prog 64 4 4 := ⟨by kernel_rfl⟩
instance : Fo Try.prog 64 5 5 := ⟨by kernel_rfl⟩
instance : Pl Try.prog 64 [(0, 1), (1, 1), (2, 1), (3, 1), (4, 1), (5, 1)] := ⟨by kernel_rfl⟩
-- 65 func([]int, int) patchbayref3.Fair
instance : Sz Try.prog 65 1 := ⟨by kernel_rfl⟩
instance : Bt Try.prog 65 := ⟨by kernel_rfl⟩
instance : Zr Try.prog 65 [.nilFunc] := ⟨by kernel_rfl⟩
instance : Sc Try.prog 65 := ⟨by kernel_rfl⟩
-- 67 func() (int, string, bool)
instance : Sz Try.prog 67 1 := ⟨by kernel_rfl⟩
instance : Bt Try.prog 67 := ⟨by kernel_rfl⟩
instance : Zr Try.prog 67 [.nilFunc] := ⟨by kernel_rfl⟩
instance : Sc Try.prog 67 := ⟨by kernel_rfl⟩
-- 69 func() (patchbayref3.Fair, int, string)
instance : Sz Try.prog 69 1 := ⟨by kernel_rfl⟩
instance : Bt Try.prog 69 := ⟨by kernel_rfl⟩
instance : Zr Try.prog 69 [.nilFunc] := ⟨by kernel_rfl⟩
instance : Sc Try.prog 69 := ⟨by kernel_rfl⟩
-- 70 func(int, string) patchbayref3.Fair
instance : Sz Try.prog 70 1 := ⟨by kernel_rfl⟩
instance : Bt Try.prog 70 := ⟨by kernel_rfl⟩
instance : Zr Try.prog 70 [.nilFunc] := ⟨by kernel_rfl⟩
instance : Sc Try.prog 70 := ⟨by kernel_rfl⟩
-- 71 func(int, string) api.Errno
instance : Sz Try.prog 71 1 := ⟨by kernel_rfl⟩
instance : Bt Try.prog 71 := ⟨by kernel_rfl⟩
instance : Zr Try.prog 71 [.nilFunc] := ⟨by kernel_rfl⟩
instance : Sc Try.prog 71 := ⟨by kernel_rfl⟩
-- 72 func(int) (int, api.Errno)
instance : Sz Try.prog 72 1 := ⟨by kernel_rfl⟩
instance : Bt Try.prog 72 := ⟨by kernel_rfl⟩
instance : Zr Try.prog 72 [.nilFunc] := ⟨by kernel_rfl⟩
instance : Sc Try.prog 72 := ⟨by kernel_rfl⟩
-- 73 func([]int, int, []int, []string) bool
instance : Sz Try.prog 73 1 := ⟨by kernel_rfl⟩
instance : Bt Try.prog 73 := ⟨by kernel_rfl⟩
instance : Zr Try.prog 73 [.nilFunc] := ⟨by kernel_rfl⟩
instance : Sc Try.prog 73 := ⟨by kernel_rfl⟩
-- 74 func(int, int) int
instance : Sz Try.prog 74 1 := ⟨by kernel_rfl⟩
instance : Bt Try.prog 74 := ⟨by kernel_rfl⟩
instance : Zr Try.prog 74 [.nilFunc] := ⟨by kernel_rfl⟩
instance : Sc Try.prog 74 := ⟨by kernel_rfl⟩
-- 75 []uint8
instance : Sz Try.prog 75 1 := ⟨by kernel_rfl⟩
instance : Bt Try.prog 75 := ⟨by kernel_rfl⟩
instance : Zr Try.prog 75 [.slice none 0 0] := ⟨by kernel_rfl⟩
instance : Sc Try.prog 75 := ⟨by kernel_rfl⟩
instance : SlE Try.prog 75 5 := ⟨by kernel_rfl⟩
-- 76 [3]int
instance : Sz Try.prog 76 3 := ⟨by kernel_rfl⟩
instance : Bt Try.prog 76 := ⟨by kernel_rfl⟩
instance : Zr Try.prog 76 [.int .i64 0, .int .i64 0, .int .i64 0] := ⟨by kernel_rfl⟩
instance : Ag Try.prog 76 := ⟨by kernel_rfl⟩
instance : ArE Try.prog 76 3 3 := ⟨by kernel_rfl⟩
-- 77 func(int, int, int, int, []int) bool
instance : Sz Try.prog 77 1 := ⟨by kernel_rfl⟩
instance : Bt Try.prog 77 := ⟨by kernel_rfl⟩
instance : Zr Try.prog 77 [.nilFunc] := ⟨by kernel_rfl⟩
instance : Sc Try.prog 77 := ⟨by kernel_rfl⟩
-- 78 func(api.BucketState, int, int) api.Errno
instance : Sz Try.prog 78 1 := ⟨by kernel_rfl⟩
instance : Bt Try.prog 78 := ⟨by kernel_rfl⟩
instance : Zr Try.prog 78 [.nilFunc] := ⟨by kernel_rfl⟩
instance : Sc Try.prog 78 := ⟨by kernel_rfl⟩
-- 79 func() api.Rule
instance : Sz Try.prog 79 1 := ⟨by kernel_rfl⟩
instance : Bt Try.prog 79 := ⟨by kernel_rfl⟩
instance : Zr Try.prog 79 [.nilFunc] := ⟨by kernel_rfl⟩
instance : Sc Try.prog 79 := ⟨by kernel_rfl⟩
-- 80 func(api.Prefix) api.Errno
instance : Sz Try.prog 80 1 := ⟨by kernel_rfl⟩
instance : Bt Try.prog 80 := ⟨by kernel_rfl⟩
instance : Zr Try.prog 80 [.nilFunc] := ⟨by kernel_rfl⟩
instance : Sc Try.prog 80 := ⟨by kernel_rfl⟩
-- 81 func(api.Prefix, uint32) bool
instance : Sz Try.prog 81 1 := ⟨by kernel_rfl⟩
instance : Bt Try.prog 81 := ⟨by kernel_rfl⟩
instance : Zr Try.prog 81 [.nilFunc] := ⟨by kernel_rfl⟩
instance : Sc Try.prog 81 := ⟨by kernel_rfl⟩
-- 82 uint
instance : Sz Try.prog 82 1 := ⟨by kernel_rfl⟩
instance : Bt Try.prog 82 := ⟨by kernel_rfl⟩
instance : Zr Try.prog 82 [.int .u64 0] := ⟨by kernel_rfl⟩
instance : Sc Try.prog 82 := ⟨by kernel_rfl⟩
instance : IntT Try.prog 82 .u64 := ⟨by kernel_rfl⟩
-- 83 func(string) int
instance : Sz Try.prog 83 1 := ⟨by kernel_rfl⟩
instance : Bt Try.prog 83 := ⟨by kernel_rfl⟩
instance : Zr Try.prog 83 [.nilFunc] := ⟨by kernel_rfl⟩
instance : Sc Try.prog 83 := ⟨by kernel_rfl⟩
-- 84 func(int, int) bool
instance : Sz Try.prog 84 1 := ⟨by kernel_rfl⟩
instance : Bt Try.prog 84 := ⟨by kernel_rfl⟩
instance : Zr Try.prog 84 [.nilFunc] := ⟨by kernel_rfl⟩
instance : Sc Try.prog 84 := ⟨by kernel_rfl⟩
-- 85 []fair.queue
instance : Sz Try.prog 85 1 := ⟨by kernel_rfl⟩
instance : Bt Try.prog 85 := ⟨by kernel_rfl⟩
instance : Zr Try.prog 85 [.slice none 0 0] := ⟨by kernel_rfl⟩
instance : Sc Try.prog 85 := ⟨by kernel_rfl⟩
instance : SlE Try.prog 85 89 := ⟨by kernel_rfl⟩
-- 86 struct { all []fair.queue; quantum int; at int; paid bool }
instance : Sz Try.prog 86 4 := ⟨by kernel_rfl⟩
instance : Bt Try.prog 86 := ⟨by kernel_rfl⟩
instance : Zr Try.prog 86 [.slice none 0 0, .int .i64 0, .int .i64 0, .bool false] := ⟨by kernel_rfl⟩
instance : Ag Try.prog 86 := ⟨by kernel_rfl⟩
instance : Fo Try.prog 86 0 0 := ⟨by kernel_rfl⟩
instance : Fo Try.prog 86 1 1 := ⟨by kernel_rfl⟩
instance : Fo Try.prog 86 2 2 := ⟨by kernel_rfl⟩
instance : Fo Try.prog 86 3 3 := ⟨by kernel_rfl⟩
instance : Pl Try.prog 86 [(0, 1), (1, 1), (2, 1), (3, 1)] := ⟨by kernel_rfl⟩
-- 87 patchbay/fair.Queues
instance : Sz Try.prog 87 4 := ⟨by kernel_rfl⟩
instance : Bt Try.prog 87 := ⟨by kernel_rfl⟩
instance : Zr Try.prog 87 [.slice none 0 0, .int .i64 0, .int .i64 0, .bool false] := ⟨by kernel_rfl⟩
instance : Ag Try.prog 87 := ⟨by kernel_rfl⟩
instance : Fo Try.prog 87 0 0 := ⟨by kernel_rfl⟩
instance : Fo Try.prog 87 1 1 := ⟨by kernel_rfl⟩
instance : Fo Try.prog 87 2 2 := ⟨by kernel_rfl⟩
instance : Fo Try.prog 87 3 3 := ⟨by kernel_rfl⟩
instance : Pl Try.prog 87 [(0, 1), (1, 1), (2, 1), (3, 1)] := ⟨by kernel_rfl⟩
-- 88 struct { weight int; deficit int; waits []string }
instance : Sz Try.prog 88 3 := ⟨by kernel_rfl⟩
instance : Bt Try.prog 88 := ⟨by kernel_rfl⟩
instance : Zr Try.prog 88 [.int .i64 0, .int .i64 0, .slice none 0 0] := ⟨by kernel_rfl⟩
instance : Ag Try.prog 88 := ⟨by kernel_rfl⟩
instance : Fo Try.prog 88 0 0 := ⟨by kernel_rfl⟩
instance : Fo Try.prog 88 1 1 := ⟨by kernel_rfl⟩
instance : Fo Try.prog 88 2 2 := ⟨by kernel_rfl⟩
instance : Pl Try.prog 88 [(0, 1), (1, 1), (2, 1)] := ⟨by kernel_rfl⟩
-- 89 patchbay/fair.queue
instance : Sz Try.prog 89 3 := ⟨by kernel_rfl⟩
instance : Bt Try.prog 89 := ⟨by kernel_rfl⟩
instance : Zr Try.prog 89 [.int .i64 0, .int .i64 0, .slice none 0 0] := ⟨by kernel_rfl⟩
instance : Ag Try.prog 89 := ⟨by kernel_rfl⟩
instance : Fo Try.prog 89 0 0 := ⟨by kernel_rfl⟩
instance : Fo Try.prog 89 1 1 := ⟨by kernel_rfl⟩
instance : Fo Try.prog 89 2 2 := ⟨by kernel_rfl⟩
instance : Pl Try.prog 89 [(0, 1), (1, 1), (2, 1)] := ⟨by kernel_rfl⟩
-- 90 func([]fair.queue, func(fair.queue) bool) bool
instance : Sz Try.prog 90 1 := ⟨by kernel_rfl⟩
instance : Bt Try.prog 90 := ⟨by kernel_rfl⟩
instance : Zr Try.prog 90 [.nilFunc] := ⟨by kernel_rfl⟩
instance : Sc Try.prog 90 := ⟨by kernel_rfl⟩
-- 91 func(fair.queue) bool
instance : Sz Try.prog 91 1 := ⟨by kernel_rfl⟩
instance : Bt Try.prog 91 := ⟨by kernel_rfl⟩
instance : Zr Try.prog 91 [.nilFunc] := ⟨by kernel_rfl⟩
instance : Sc Try.prog 91 := ⟨by kernel_rfl⟩
-- 92 *fair.queue
instance : Sz Try.prog 92 1 := ⟨by kernel_rfl⟩
instance : Bt Try.prog 92 := ⟨by kernel_rfl⟩
instance : Zr Try.prog 92 [.pointer none] := ⟨by kernel_rfl⟩
instance : Sc Try.prog 92 := ⟨by kernel_rfl⟩
instance : PtrT Try.prog 92 89 := ⟨by kernel_rfl⟩
-- 93 func([]string) []string
instance : Sz Try.prog 93 1 := ⟨by kernel_rfl⟩
instance : Bt Try.prog 93 := ⟨by kernel_rfl⟩
instance : Zr Try.prog 93 [.nilFunc] := ⟨by kernel_rfl⟩
instance : Sc Try.prog 93 := ⟨by kernel_rfl⟩
-- 94 func(int) int
instance : Sz Try.prog 94 1 := ⟨by kernel_rfl⟩
instance : Bt Try.prog 94 := ⟨by kernel_rfl⟩
instance : Zr Try.prog 94 [.nilFunc] := ⟨by kernel_rfl⟩
instance : Sc Try.prog 94 := ⟨by kernel_rfl⟩
-- 96 func(int) (uint32, api.Errno)
instance : Sz Try.prog 96 1 := ⟨by kernel_rfl⟩
instance : Bt Try.prog 96 := ⟨by kernel_rfl⟩
instance : Zr Try.prog 96 [.nilFunc] := ⟨by kernel_rfl⟩
instance : Sc Try.prog 96 := ⟨by kernel_rfl⟩
-- 97 func([]fair.queue, func(fair.queue) bool) int
instance : Sz Try.prog 97 1 := ⟨by kernel_rfl⟩
instance : Bt Try.prog 97 := ⟨by kernel_rfl⟩
instance : Zr Try.prog 97 [.nilFunc] := ⟨by kernel_rfl⟩
instance : Sc Try.prog 97 := ⟨by kernel_rfl⟩
-- 98 func() string
instance : Sz Try.prog 98 1 := ⟨by kernel_rfl⟩
instance : Bt Try.prog 98 := ⟨by kernel_rfl⟩
instance : Zr Try.prog 98 [.nilFunc] := ⟨by kernel_rfl⟩
instance : Sc Try.prog 98 := ⟨by kernel_rfl⟩
-- 99 struct { _interface *abi.Type; concrete *abi.Type; asserted *abi.Type; missingMethod string }
instance : Sz Try.prog 99 4 := ⟨by kernel_rfl⟩
instance : Bt Try.prog 99 := ⟨by kernel_rfl⟩
instance : Zr Try.prog 99 [.pointer none, .pointer none, .pointer none, .string ⟨#[]⟩] := ⟨by kernel_rfl⟩
instance : Ag Try.prog 99 := ⟨by kernel_rfl⟩
instance : Fo Try.prog 99 0 0 := ⟨by kernel_rfl⟩
instance : Fo Try.prog 99 1 1 := ⟨by kernel_rfl⟩
instance : Fo Try.prog 99 2 2 := ⟨by kernel_rfl⟩
instance : Fo Try.prog 99 3 3 := ⟨by kernel_rfl⟩
instance : Pl Try.prog 99 [(0, 1), (1, 1), (2, 1), (3, 1)] := ⟨by kernel_rfl⟩
-- 104 func() int
instance : Sz Try.prog 104 1 := ⟨by kernel_rfl⟩
instance : Bt Try.prog 104 := ⟨by kernel_rfl⟩
instance : Zr Try.prog 104 [.nilFunc] := ⟨by kernel_rfl⟩
instance : Sc Try.prog 104 := ⟨by kernel_rfl⟩
-- 108 *uint8
instance : Sz Try.prog 108 1 := ⟨by kernel_rfl⟩
instance : Bt Try.prog 108 := ⟨by kernel_rfl⟩
instance : Zr Try.prog 108 [.pointer none] := ⟨by kernel_rfl⟩
instance : Sc Try.prog 108 := ⟨by kernel_rfl⟩
instance : PtrT Try.prog 108 5 := ⟨by kernel_rfl⟩
instance : Cal Try.prog 3 := cal_of Try.func3 (by kernel_rfl) rfl   -- patchbay/patchbaylaw3.BucketSays
instance : Cal Try.prog 4 := cal_of Try.func4 (by kernel_rfl) rfl   -- patchbay/patchbaylaw3.RuleSays
instance : Cal Try.prog 5 := cal_of Try.func5 (by kernel_rfl) rfl   -- patchbay/patchbaylaw3.BucketShapes
instance : Cal Try.prog 6 := cal_of Try.func6 (by kernel_rfl) rfl   -- patchbay/patchbaylaw3.FairPlays
instance : Cal Try.prog 7 := cal_of Try.func7 (by kernel_rfl) rfl   -- patchbay/patchbaytop.TopFairness
instance : Cal Try.prog 8 := cal_of Try.func8 (by kernel_rfl) rfl   -- patchbay/patchbaylaw3.bucketFact
instance : Cal Try.prog 9 := cal_of Try.func9 (by kernel_rfl) rfl   -- patchbay/bucket.Full
instance : Cal Try.prog 10 := cal_of Try.func10 (by kernel_rfl) rfl   -- patchbay/patchbayref3.BucketFault
instance : Cal Try.prog 11 := cal_of Try.func11 (by kernel_rfl) rfl   -- patchbay/bucket.Check
instance : Cal Try.prog 12 := cal_of Try.func12 (by kernel_rfl) rfl   -- patchbay/patchbayref3.In
instance : Cal Try.prog 13 := cal_of Try.func13 (by kernel_rfl) rfl   -- patchbay/bucket.Take
instance : Cal Try.prog 14 := cal_of Try.func14 (by kernel_rfl) rfl   -- patchbay/bucket.Wait
instance : Cal Try.prog 15 := cal_of Try.func15 (by kernel_rfl) rfl   -- patchbay/patchbayref3.BucketPass
instance : Cal Try.prog 16 := cal_of Try.func16 (by kernel_rfl) rfl   -- patchbay/patchbayref3.BucketWait
instance : Cal Try.prog 17 := cal_of Try.func17 (by kernel_rfl) rfl   -- patchbay/patchbaylaw3.ruleFact
instance : Cal Try.prog 18 := cal_of Try.func18 (by kernel_rfl) rfl   -- patchbay/patchbayref3.RuleFault
instance : Cal Try.prog 19 := cal_of Try.func19 (by kernel_rfl) rfl   -- patchbay/pkt.Check
instance : Cal Try.prog 20 := cal_of Try.func20 (by kernel_rfl) rfl   -- patchbay/patchbayref3.Decides
instance : Cal Try.prog 21 := cal_of Try.func21 (by kernel_rfl) rfl   -- patchbay/rule.Judge
instance : Cal Try.prog 22 := cal_of Try.func22 (by kernel_rfl) rfl   -- patchbay/rule.Match
instance : Cal Try.prog 23 := cal_of Try.func23 (by kernel_rfl) rfl   -- patchbay/patchbayref3.Applies
instance : Cal Try.prog 24 := cal_of Try.func24 (by kernel_rfl) rfl   -- patchbay/rule.Ports
instance : Cal Try.prog 25 := cal_of Try.func25 (by kernel_rfl) rfl   -- patchbay/patchbayref3.Ports
instance : Cal Try.prog 26 := cal_of Try.func26 (by kernel_rfl) rfl   -- patchbay/rule.Check
instance : Cal Try.prog 27 := cal_of Try.func27 (by kernel_rfl) rfl   -- patchbay/bucket.Shape
instance : Cal Try.prog 28 := cal_of Try.func28 (by kernel_rfl) rfl   -- patchbay/patchbayref3.Ints
instance : Cal Try.prog 29 := cal_of Try.func29 (by kernel_rfl) rfl   -- patchbay/patchbaylaw3.fairFact
instance : Cal Try.prog 30 := cal_of Try.func30 (by kernel_rfl) rfl   -- patchbay/fair.New
instance : Cal Try.prog 31 := cal_of Try.func31 (by kernel_rfl) rfl   -- patchbay/patchbayref3.NewFair
instance : Cal Try.prog 32 := cal_of Try.func32 (by kernel_rfl) rfl   -- (*patchbay/fair.Queues).Take
instance : Cal Try.prog 33 := cal_of Try.func33 (by kernel_rfl) rfl   -- (patchbay/patchbayref3.Fair).Take
instance : Cal Try.prog 34 := cal_of Try.func34 (by kernel_rfl) rfl   -- (patchbay/patchbayref3.Fair).Put
instance : Cal Try.prog 35 := cal_of Try.func35 (by kernel_rfl) rfl   -- (*patchbay/fair.Queues).Put
instance : Cal Try.prog 36 := cal_of Try.func36 (by kernel_rfl) rfl   -- (*patchbay/fair.Queues).Waiting
instance : Cal Try.prog 37 := cal_of Try.func37 (by kernel_rfl) rfl   -- patchbay/patchbaytop.shownFair
instance : Cal Try.prog 38 := cal_of Try.func38 (by kernel_rfl) rfl   -- patchbay/patchbaytop.shownRest
instance : Cal Try.prog 39 := cal_of Try.func39 (by kernel_rfl) rfl   -- patchbay/bucket.in
instance : Cal Try.prog 40 := cal_of Try.func40 (by kernel_rfl) rfl   -- patchbay/bucket.begin
instance : Cal Try.prog 41 := cal_of Try.func41 (by kernel_rfl) rfl   -- patchbay/bucket.pass
instance : Cal Try.prog 42 := cal_of Try.func42 (by kernel_rfl) rfl   -- patchbay/patchbaylaw3.everything
instance : Cal Try.prog 43 := cal_of Try.func43 (by kernel_rfl) rfl   -- patchbay/patchbayref3.PrefixFault
instance : Cal Try.prog 44 := cal_of Try.func44 (by kernel_rfl) rfl   -- patchbay/addr.Has
instance : Cal Try.prog 45 := cal_of Try.func45 (by kernel_rfl) rfl   -- patchbay/rule.in
instance : Cal Try.prog 46 := cal_of Try.func46 (by kernel_rfl) rfl   -- patchbay/patchbayref3.Has
instance : Cal Try.prog 47 := cal_of Try.func47 (by kernel_rfl) rfl   -- patchbay/patchbayref3.Read
instance : Cal Try.prog 48 := cal_of Try.func48 (by kernel_rfl) rfl   -- patchbay/addr.Check
instance : Cal Try.prog 49 := cal_of Try.func49 (by kernel_rfl) rfl   -- patchbay/rule.badRange
instance : Cal Try.prog 50 := cal_of Try.func50 (by kernel_rfl) rfl   -- slices.ContainsFunc[[]patchbay/fair.queue,patchbay/fair.queue]
instance : Cal Try.prog 51 := cal_of Try.func51 (by kernel_rfl) rfl   -- (*patchbay/fair.Queues).Take$1
instance : Cal Try.prog 52 := cal_of Try.func52 (by kernel_rfl) rfl   -- (*patchbay/fair.Queues).leave
instance : Cal Try.prog 53 := cal_of Try.func53 (by kernel_rfl) rfl   -- slices.Clone[[]string,string]
instance : Cal Try.prog 54 := cal_of Try.func54 (by kernel_rfl) rfl   -- patchbay/patchbayref3.Mask
instance : Cal Try.prog 55 := cal_of Try.func55 (by kernel_rfl) rfl   -- patchbay/addr.Mask
instance : Cal Try.prog 56 := cal_of Try.func56 (by kernel_rfl) rfl   -- slices.IndexFunc[[]patchbay/fair.queue,patchbay/fair.queue]
end Go.Proofs.Ytipjhbkjgidljaa.E
