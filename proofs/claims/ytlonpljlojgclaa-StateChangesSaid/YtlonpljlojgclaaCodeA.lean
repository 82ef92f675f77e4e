import Derived.Test.YtlonpljlojgclaaAvUnroll
import Derived.Test.YtlonpljlojgclaaProg
import Derived.KernelRfl
set_option linter.unusedSimpArgs false
set_option linter.unusedVariables false
namespace Go.Proofs.Ytlonpljlojgclaa
open Go Go.Av

-- type 2: int64
@[simp] theorem cells2 : Try.prog.cellsOf 2 = 1 := by kernel_rfl
attribute [simp] Try.underlying2
-- type 3: int
@[simp] theorem cells3 : Try.prog.cellsOf 3 = 1 := by kernel_rfl
attribute [simp] Try.underlying3
-- type 4: bool
@[simp] theorem cells4 : Try.prog.cellsOf 4 = 1 := by kernel_rfl
attribute [simp] Try.underlying4
-- type 5: uint8
@[simp] theorem cells5 : Try.prog.cellsOf 5 = 1 := by kernel_rfl
attribute [simp] Try.underlying5
-- type 6: abi.BoundsErrorCode
@[simp] theorem cells6 : Try.prog.cellsOf 6 = 1 := by kernel_rfl
attribute [simp] Try.underlying6
-- type 9: string
@[simp] theorem cells9 : Try.prog.cellsOf 9 = 1 := by kernel_rfl
attribute [simp] Try.underlying9
-- type 21: int32
@[simp] theorem cells21 : Try.prog.cellsOf 21 = 1 := by kernel_rfl
attribute [simp] Try.underlying21
-- type 22: uint64
@[simp] theorem cells22 : Try.prog.cellsOf 22 = 1 := by kernel_rfl
attribute [simp] Try.underlying22
-- type 24: api.Tnum
@[simp] theorem cells24 : Try.prog.cellsOf 24 = 2 := by kernel_rfl
attribute [simp] Try.underlying24
-- type 26: api.Scalar
@[simp] theorem cells26 : Try.prog.cellsOf 26 = 4 := by kernel_rfl
attribute [simp] Try.underlying26
-- type 33: []int
@[simp] theorem cells33 : Try.prog.cellsOf 33 = 1 := by kernel_rfl
attribute [simp] Try.underlying33
-- type 42: [2]api.Scalar
@[simp] theorem cells42 : Try.prog.cellsOf 42 = 8 := by kernel_rfl
attribute [simp] Try.underlying42
-- type 50: []uint64
@[simp] theorem cells50 : Try.prog.cellsOf 50 = 1 := by kernel_rfl
attribute [simp] Try.underlying50
-- type 80: map[int]int
@[simp] theorem cells80 : Try.prog.cellsOf 80 = 1 := by kernel_rfl
attribute [simp] Try.underlying80
-- type 93: uint
@[simp] theorem cells93 : Try.prog.cellsOf 93 = 1 := by kernel_rfl
attribute [simp] Try.underlying93
-- type 99: [2]int
@[simp] theorem cells99 : Try.prog.cellsOf 99 = 2 := by kernel_rfl
attribute [simp] Try.underlying99
-- type 100: [][2]int
@[simp] theorem cells100 : Try.prog.cellsOf 100 = 1 := by kernel_rfl
attribute [simp] Try.underlying100
def ztab : List (TypeId × AV) := [(3, .int .i64 0), (22, .int .u64 0), (24, .ag [.int .u64 0, .int .u64 0]), (26, .ag [.ag [.int .u64 0, .int .u64 0], .int .u64 0, .int .u64 0]), (99, .ag (List.replicate 2 (.int .i64 0)))]
theorem hZ : ZOK Try.prog (zget ztab) := zget_ok _ (by kernel_rfl)
theorem hD : DrawOK Try.prog := draw_ok (by kernel_rfl)
@[simp] theorem z3 : zget ztab 3 = some (.int .i64 0) := rfl
@[simp] theorem z22 : zget ztab 22 = some (u64 0#64) := rfl
@[simp] theorem z24 : zget ztab 24 = some (.ag [u64 0#64, u64 0#64]) := rfl
@[simp] theorem z26 : zget ztab 26 = some (.ag [.ag [u64 0#64, u64 0#64], u64 0#64, u64 0#64]) := rfl
@[simp] theorem z99 : zget ztab 99 = some (.ag (List.replicate 2 (.int .i64 0))) := rfl
@[simp] theorem eq26 {l m : List AV} : agEq Try.prog 26 l m = if wt Try.prog (.ag l) 26 && wt Try.prog (.ag m) 26 then eqL l m else none := agEq_of (by kernel_rfl) (by kernel_rfl)

def bytes_0 : ByteArray := ⟨#[0, 1, 2, 2, 3, 3, 3, 3, 4, 4, 4, 4, 4, 4, 4, 4, 5, 5, 5, 5, 5, 5, 5, 5, 5, 5, 5, 5, 5, 5, 5, 5, 6, 6, 6, 6, 6, 6, 6, 6, 6, 6, 6, 6, 6, 6, 6, 6, 6, 6, 6, 6, 6, 6, 6, 6, 6, 6, 6, 6, 6, 6, 6, 6, 7, 7, 7, 7, 7, 7, 7, 7, 7, 7, 7, 7, 7, 7, 7, 7, 7, 7, 7, 7, 7, 7, 7, 7, 7, 7, 7, 7, 7, 7, 7, 7, 7, 7, 7, 7, 7, 7, 7, 7, 7, 7, 7, 7, 7, 7, 7, 7, 7, 7, 7, 7, 7, 7, 7, 7, 7, 7, 7, 7, 7, 7, 7, 7, 8, 8, 8, 8, 8, 8, 8, 8, 8, 8, 8, 8, 8, 8, 8, 8, 8, 8, 8, 8, 8, 8, 8, 8, 8, 8, 8, 8, 8, 8, 8, 8, 8, 8, 8, 8, 8, 8, 8, 8, 8, 8, 8, 8, 8, 8, 8, 8, 8, 8, 8, 8, 8, 8, 8, 8, 8, 8, 8, 8, 8, 8, 8, 8, 8, 8, 8, 8, 8, 8, 8, 8, 8, 8, 8, 8, 8, 8, 8, 8, 8, 8, 8, 8, 8, 8, 8, 8, 8, 8, 8, 8, 8, 8, 8, 8, 8, 8, 8, 8, 8, 8, 8, 8, 8, 8, 8, 8, 8, 8, 8, 8, 8, 8, 8, 8, 8, 8, 8, 8, 8, 8, 8, 8, 8, 8, 8, 8]⟩

-- function 107: portcullis/portcullisref15.May
def C107 : Cfg := ⟨9, [1], zget ztab⟩
@[simp] theorem L107 : C107.L = [1] := rfl
@[simp] theorem Z107 : C107.Z = zget ztab := rfl
abbrev s107_0 : SC := .region [⟨(some 1), .box 24 (.tmp 0), none⟩, ⟨(some 2), .assign (.const (.bool false)), none⟩]
abbrev s107_1 : SC := .region [⟨(some 3), .fieldAddr 24 (.tmp 1) 0, none⟩, ⟨(some 4), .load 22 (.tmp 3), none⟩, ⟨(some 5), .fieldAddr 24 (.tmp 1) 1, none⟩, ⟨(some 6), .load 22 (.tmp 5), none⟩, ⟨(some 7), .binOp .and 22 (.tmp 4) (.tmp 6) 22, none⟩, ⟨(some 8), .binOp .eql 22 (.tmp 7) (.const (.int .u64 0)) 22, none⟩, ⟨(some 2), .assign (.tmp 8), none⟩]
abbrev s107_2 : SC := .seq s107_1 .ret
abbrev s107_3 : SC := .seq s107_0 s107_2
noncomputable def c107 : Code := match Try.f107.body with | some c => c | none => .skip
theorem b107 : Try.f107.body = some c107 := by kernel_rfl
theorem sc107 : toSC C107 c107 = some s107_3 := by kernel_rfl
set_option maxRecDepth 100000 in
theorem run107 {args : List AV} {H : Heap} {R : Out → Heap → Prop} (hl : args.length ≤ 9) (h : SWp Try.prog C107 s107_3 (finK [.tmp 2] R) ⟨argSlots 0 args, [], H⟩) : ∃ out H', CallRuns Try.prog 107 args H out H' ∧ R out H' :=
  callRuns_of (C := C107) (by kernel_rfl) hD hZ Try.func107 b107 Try.ntmps107 Try.call107 sc107 (by kernel_rfl) hl h

-- function 108: portcullis/portcullisref15.Of
def C108 : Cfg := ⟨22, [4], zget ztab⟩
@[simp] theorem L108 : C108.L = [4] := rfl
@[simp] theorem Z108 : C108.Z = zget ztab := rfl
abbrev s108_0 : SC := .region [⟨(some 4), .alloc 24, none⟩]
abbrev s108_1 : SC := .region [⟨(some 7), .move (.tmp 0), none⟩, ⟨(some 8), .move (.tmp 1), none⟩, ⟨(some 9), .binOp .xor 22 (.tmp 7) (.tmp 8) 22, none⟩, ⟨(some 5), .assign (.tmp 9), none⟩]
abbrev s108_2 : SC := .region [⟨(some 6), .assign (.const (.int .u64 0)), none⟩]
abbrev s108_3 : SC := .region [⟨(some 10), .move (.tmp 5), none⟩, ⟨(some 11), .binOp .neq 22 (.tmp 10) (.const (.int .u64 0)) 22, none⟩]
abbrev s108_4 : SC := .cond (.tmp 11) .skip (.exit 0)
abbrev s108_5 : SC := .seq s108_3 s108_4
abbrev s108_6 : SC := .region [⟨(some 12), .move (.tmp 6), none⟩, ⟨(some 13), .binOp .shl 22 (.tmp 12) (.const (.int .u64 1)) 93, none⟩, ⟨(some 14), .binOp .or 22 (.tmp 13) (.const (.int .u64 1)) 22, none⟩, ⟨(some 6), .assign (.tmp 14), none⟩]
abbrev s108_7 : SC := .region [⟨(some 15), .move (.tmp 5), none⟩, ⟨(some 16), .binOp .shr 22 (.tmp 15) (.const (.int .u64 1)) 93, none⟩, ⟨(some 5), .assign (.tmp 16), none⟩]
abbrev s108_8 : SC := .seq s108_6 s108_7
abbrev s108_9 : SC := .block 1 s108_8
abbrev s108_10 : SC := .seq s108_5 s108_9
abbrev s108_11 : SC := .loop s108_10
abbrev s108_12 : SC := .block 0 s108_11
abbrev s108_13 : SC := .region [⟨(some 17), .move (.tmp 0), none⟩, ⟨(some 18), .move (.tmp 6), none⟩, ⟨(some 19), .binOp .andNot 22 (.tmp 17) (.tmp 18) 22, none⟩, ⟨(some 20), .move (.tmp 6), none⟩, ⟨(some 21), .build 24 #[(0, .tmp 19), (1, .tmp 20)], none⟩, ⟨none, .store 24 (.tmp 4) (.tmp 21), none⟩]
abbrev s108_14 : SC := .seq s108_13 .ret
abbrev s108_15 : SC := .seq s108_12 s108_14
abbrev s108_16 : SC := .seq s108_2 s108_15
abbrev s108_17 : SC := .seq s108_1 s108_16
abbrev s108_18 : SC := .seq s108_0 s108_17
noncomputable def c108 : Code := match Try.f108.body with | some c => c | none => .skip
theorem b108 : Try.f108.body = some c108 := by kernel_rfl
theorem sc108 : toSC C108 c108 = some s108_18 := by kernel_rfl
set_option maxRecDepth 100000 in
theorem run108 {args : List AV} {H : Heap} {R : Out → Heap → Prop} (hl : args.length ≤ 22) (h : SWp Try.prog C108 s108_18 (finK [.cell 4 24] R) ⟨argSlots 0 args, [], H⟩) : ∃ out H', CallRuns Try.prog 108 args H out H' ∧ R out H' :=
  callRuns_of (C := C108) (by kernel_rfl) hD hZ Try.func108 b108 Try.ntmps108 Try.call108 sc108 (by kernel_rfl) hl h

-- function 71: portcullis/portcullisref15.Meet
def C71 : Cfg := ⟨34, [2, 3, 4], zget ztab⟩
@[simp] theorem L71 : C71.L = [2, 3, 4] := rfl
@[simp] theorem Z71 : C71.Z = zget ztab := rfl
abbrev s71_0 : SC := .region [⟨(some 2), .box 24 (.tmp 0), none⟩, ⟨(some 3), .box 24 (.tmp 1), none⟩, ⟨(some 4), .alloc 24, none⟩, ⟨(some 5), .assign (.const (.bool false)), none⟩]
abbrev s71_1 : SC := .region [⟨(some 7), .fieldAddr 24 (.tmp 2) 0, none⟩, ⟨(some 8), .load 22 (.tmp 7), none⟩, ⟨(some 9), .fieldAddr 24 (.tmp 3) 0, none⟩, ⟨(some 10), .load 22 (.tmp 9), none⟩, ⟨(some 11), .binOp .xor 22 (.tmp 8) (.tmp 10) 22, none⟩, ⟨(some 12), .fieldAddr 24 (.tmp 2) 1, none⟩, ⟨(some 13), .load 22 (.tmp 12), none⟩, ⟨(some 14), .binOp .andNot 22 (.tmp 11) (.tmp 13) 22, none⟩, ⟨(some 15), .fieldAddr 24 (.tmp 3) 1, none⟩, ⟨(some 16), .load 22 (.tmp 15), none⟩, ⟨(some 17), .binOp .andNot 22 (.tmp 14) (.tmp 16) 22, none⟩, ⟨(some 18), .binOp .neq 22 (.tmp 17) (.const (.int .u64 0)) 22, none⟩]
abbrev s71_2 : SC := .region [⟨(some 19), .build 24 #[], none⟩, ⟨none, .store 24 (.tmp 4) (.tmp 19), none⟩, ⟨(some 5), .assign (.const (.bool false)), none⟩]
abbrev s71_3 : SC := .seq s71_2 .ret
abbrev s71_4 : SC := .cond (.tmp 18) s71_3 .skip
abbrev s71_5 : SC := .seq s71_1 s71_4
abbrev s71_6 : SC := .region [⟨(some 20), .fieldAddr 24 (.tmp 2) 1, none⟩, ⟨(some 21), .load 22 (.tmp 20), none⟩, ⟨(some 22), .fieldAddr 24 (.tmp 3) 1, none⟩, ⟨(some 23), .load 22 (.tmp 22), none⟩, ⟨(some 24), .binOp .and 22 (.tmp 21) (.tmp 23) 22, none⟩, ⟨(some 6), .assign (.tmp 24), none⟩]
abbrev s71_7 : SC := .region [⟨(some 25), .fieldAddr 24 (.tmp 2) 0, none⟩, ⟨(some 26), .load 22 (.tmp 25), none⟩, ⟨(some 27), .fieldAddr 24 (.tmp 3) 0, none⟩, ⟨(some 28), .load 22 (.tmp 27), none⟩, ⟨(some 29), .binOp .or 22 (.tmp 26) (.tmp 28) 22, none⟩, ⟨(some 30), .move (.tmp 6), none⟩, ⟨(some 31), .binOp .andNot 22 (.tmp 29) (.tmp 30) 22, none⟩, ⟨(some 32), .move (.tmp 6), none⟩, ⟨(some 33), .build 24 #[(0, .tmp 31), (1, .tmp 32)], none⟩, ⟨none, .store 24 (.tmp 4) (.tmp 33), none⟩, ⟨(some 5), .assign (.const (.bool true)), none⟩]
abbrev s71_8 : SC := .seq s71_7 .ret
abbrev s71_9 : SC := .seq s71_6 s71_8
abbrev s71_10 : SC := .seq s71_5 s71_9
abbrev s71_11 : SC := .seq s71_0 s71_10
noncomputable def c71 : Code := match Try.f71.body with | some c => c | none => .skip
theorem b71 : Try.f71.body = some c71 := by kernel_rfl
theorem sc71 : toSC C71 c71 = some s71_11 := by kernel_rfl
set_option maxRecDepth 100000 in
theorem run71 {args : List AV} {H : Heap} {R : Out → Heap → Prop} (hl : args.length ≤ 34) (h : SWp Try.prog C71 s71_11 (finK [.cell 4 24, .tmp 5] R) ⟨argSlots 0 args, [], H⟩) : ∃ out H', CallRuns Try.prog 71 args H out H' ∧ R out H' :=
  callRuns_of (C := C71) (by kernel_rfl) hD hZ Try.func71 b71 Try.ntmps71 Try.call71 sc71 (by kernel_rfl) hl h

-- function 64: portcullis/portcullisref16.Tight
def C64 : Cfg := ⟨57, [1, 2, 5], zget ztab⟩
@[simp] theorem L64 : C64.L = [1, 2, 5] := rfl
@[simp] theorem Z64 : C64.Z = zget ztab := rfl
abbrev s64_0 : SC := .region [⟨(some 1), .box 26 (.tmp 0), none⟩, ⟨(some 2), .alloc 26, none⟩, ⟨(some 3), .assign (.const (.bool false)), none⟩]
abbrev s64_1 : SC := .region [⟨(some 7), .fieldAddr 26 (.tmp 1) 0, none⟩, ⟨(some 8), .load 24 (.tmp 7), none⟩, ⟨(some 9), .call ⟨.value (.func 107), #[.tmp 8], #[24]⟩, none⟩, ⟨(some 10), .unOp .not 4 (.tmp 9), none⟩]
abbrev s64_2 : SC := .region [⟨(some 11), .build 26 #[], none⟩, ⟨none, .store 26 (.tmp 2) (.tmp 11), none⟩, ⟨(some 3), .assign (.const (.bool false)), none⟩]
abbrev s64_3 : SC := .seq s64_2 .ret
abbrev s64_4 : SC := .cond (.tmp 10) s64_3 .skip
abbrev s64_5 : SC := .seq s64_1 s64_4
abbrev s64_6 : SC := .region [⟨(some 4), .assign (.const (.int .i64 0)), none⟩]
abbrev s64_7 : SC := .region [⟨(some 12), .move (.tmp 4), none⟩, ⟨(some 13), .binOp .lss 3 (.tmp 12) (.const (.int .i64 3)) 3, none⟩]
abbrev s64_8 : SC := .cond (.tmp 13) .skip (.exit 0)
abbrev s64_9 : SC := .seq s64_7 s64_8
abbrev s64_10 : SC := .region [⟨(some 16), .fieldAddr 26 (.tmp 1) 1, none⟩, ⟨(some 17), .load 22 (.tmp 16), none⟩, ⟨(some 18), .fieldAddr 26 (.tmp 1) 0, none⟩, ⟨(some 19), .fieldAddr 24 (.tmp 18) 0, none⟩, ⟨(some 20), .load 22 (.tmp 19), none⟩, ⟨(some 21), .call ⟨.builtin .max, #[.tmp 17, .tmp 20], #[22, 22]⟩, none⟩, ⟨(some 22), .fieldAddr 26 (.tmp 1) 1, none⟩, ⟨none, .store 22 (.tmp 22) (.tmp 21), none⟩]
abbrev s64_11 : SC := .region [⟨(some 23), .fieldAddr 26 (.tmp 1) 2, none⟩, ⟨(some 24), .load 22 (.tmp 23), none⟩, ⟨(some 25), .fieldAddr 26 (.tmp 1) 0, none⟩, ⟨(some 26), .fieldAddr 24 (.tmp 25) 0, none⟩, ⟨(some 27), .load 22 (.tmp 26), none⟩, ⟨(some 28), .fieldAddr 26 (.tmp 1) 0, none⟩, ⟨(some 29), .fieldAddr 24 (.tmp 28) 1, none⟩, ⟨(some 30), .load 22 (.tmp 29), none⟩, ⟨(some 31), .binOp .or 22 (.tmp 27) (.tmp 30) 22, none⟩, ⟨(some 32), .call ⟨.builtin .min, #[.tmp 24, .tmp 31], #[22, 22]⟩, none⟩, ⟨(some 33), .fieldAddr 26 (.tmp 1) 2, none⟩, ⟨none, .store 22 (.tmp 33) (.tmp 32), none⟩]
abbrev s64_12 : SC := .region [⟨(some 34), .fieldAddr 26 (.tmp 1) 1, none⟩, ⟨(some 35), .load 22 (.tmp 34), none⟩, ⟨(some 36), .fieldAddr 26 (.tmp 1) 2, none⟩, ⟨(some 37), .load 22 (.tmp 36), none⟩, ⟨(some 38), .binOp .gtr 22 (.tmp 35) (.tmp 37) 22, none⟩]
abbrev s64_13 : SC := .region [⟨(some 39), .build 26 #[], none⟩, ⟨none, .store 26 (.tmp 2) (.tmp 39), none⟩, ⟨(some 3), .assign (.const (.bool false)), none⟩]
abbrev s64_14 : SC := .seq s64_13 .ret
abbrev s64_15 : SC := .cond (.tmp 38) s64_14 .skip
abbrev s64_16 : SC := .seq s64_12 s64_15
abbrev s64_17 : SC := .draw [(⟨(some 41), .fieldAddr 26 (.tmp 1) 0, none⟩, ⟨[], [], false, false⟩), (⟨(some 42), .load 24 (.tmp 41), none⟩, ⟨[1], [], false, false⟩), (⟨(some 43), .fieldAddr 26 (.tmp 1) 1, none⟩, ⟨[], [], false, false⟩), (⟨(some 44), .load 22 (.tmp 43), none⟩, ⟨[1], [], false, false⟩), (⟨(some 45), .fieldAddr 26 (.tmp 1) 2, none⟩, ⟨[], [], false, false⟩), (⟨(some 46), .load 22 (.tmp 45), none⟩, ⟨[1], [], false, false⟩), (⟨(some 47), .call ⟨.value (.func 108), #[.tmp 44, .tmp 46], #[22, 22]⟩, none⟩, ⟨[], [], true, true⟩), (⟨(some 48), .call ⟨.value (.func 71), #[.tmp 42, .tmp 47], #[24, 24]⟩, none⟩, ⟨[], [], true, true⟩), (⟨(some 40), .move (.tmp 48), none⟩, ⟨[], [], false, false⟩), (⟨(some 49), .extract (.tmp 40) 0, none⟩, ⟨[], [], false, false⟩), (⟨(some 50), .extract (.tmp 40) 1, none⟩, ⟨[], [], false, false⟩), (⟨(some 5), .alloc 24, none⟩, ⟨[], [5], false, false⟩), (⟨none, .store 24 (.tmp 5) (.tmp 49), none⟩, ⟨[], [5], false, false⟩), (⟨(some 6), .assign (.tmp 50), none⟩, ⟨[], [], false, false⟩)]
abbrev s64_18 : SC := .region [⟨(some 51), .move (.tmp 6), none⟩, ⟨(some 52), .unOp .not 4 (.tmp 51), none⟩]
abbrev s64_19 : SC := .region [⟨(some 53), .build 26 #[], none⟩, ⟨none, .store 26 (.tmp 2) (.tmp 53), none⟩, ⟨(some 3), .assign (.const (.bool false)), none⟩]
abbrev s64_20 : SC := .seq s64_19 .ret
abbrev s64_21 : SC := .cond (.tmp 52) s64_20 .skip
abbrev s64_22 : SC := .seq s64_18 s64_21
abbrev s64_23 : SC := .region [⟨(some 54), .load 24 (.tmp 5), none⟩, ⟨(some 55), .fieldAddr 26 (.tmp 1) 0, none⟩, ⟨none, .store 24 (.tmp 55) (.tmp 54), none⟩]
abbrev s64_24 : SC := .seq s64_22 s64_23
abbrev s64_25 : SC := .seq s64_17 s64_24
abbrev s64_26 : SC := .seq s64_16 s64_25
abbrev s64_27 : SC := .seq s64_11 s64_26
abbrev s64_28 : SC := .seq s64_10 s64_27
abbrev s64_29 : SC := .block 1 s64_28
abbrev s64_30 : SC := .region [⟨(some 14), .move (.tmp 4), none⟩, ⟨(some 15), .binOp .add 3 (.tmp 14) (.const (.int .i64 1)) 3, none⟩, ⟨(some 4), .assign (.tmp 15), none⟩]
abbrev s64_31 : SC := .seq s64_29 s64_30
abbrev s64_32 : SC := .seq s64_9 s64_31
abbrev s64_33 : SC := .loop s64_32
abbrev s64_34 : SC := .block 0 s64_33
abbrev s64_35 : SC := .seq s64_6 s64_34
abbrev s64_36 : SC := .region [⟨(some 56), .load 26 (.tmp 1), none⟩, ⟨none, .store 26 (.tmp 2) (.tmp 56), none⟩, ⟨(some 3), .assign (.const (.bool true)), none⟩]
abbrev s64_37 : SC := .seq s64_36 .ret
abbrev s64_38 : SC := .seq s64_35 s64_37
abbrev s64_39 : SC := .seq s64_5 s64_38
abbrev s64_40 : SC := .seq s64_0 s64_39
noncomputable def c64 : Code := match Try.f64.body with | some c => c | none => .skip
theorem b64 : Try.f64.body = some c64 := by kernel_rfl
theorem sc64 : toSC C64 c64 = some s64_40 := by kernel_rfl
set_option maxRecDepth 100000 in
theorem run64 {args : List AV} {H : Heap} {R : Out → Heap → Prop} (hl : args.length ≤ 57) (h : SWp Try.prog C64 s64_40 (finK [.cell 2 26, .tmp 3] R) ⟨argSlots 0 args, [], H⟩) : ∃ out H', CallRuns Try.prog 64 args H out H' ∧ R out H' :=
  callRuns_of (C := C64) (by kernel_rfl) hD hZ Try.func64 b64 Try.ntmps64 Try.call64 sc64 (by kernel_rfl) hl h

-- function 65: portcullis/portcullisref16.Check
def C65 : Cfg := ⟨16, [1, 3], zget ztab⟩
@[simp] theorem L65 : C65.L = [1, 3] := rfl
@[simp] theorem Z65 : C65.Z = zget ztab := rfl
abbrev s65_0 : SC := .region [⟨(some 1), .box 26 (.tmp 0), none⟩, ⟨(some 2), .assign (.const (.bool false)), none⟩]
abbrev s65_1 : SC := .region [⟨(some 6), .load 26 (.tmp 1), none⟩, ⟨(some 7), .call ⟨.value (.func 64), #[.tmp 6], #[26]⟩, none⟩, ⟨(some 5), .move (.tmp 7), none⟩, ⟨(some 8), .extract (.tmp 5) 0, none⟩, ⟨(some 9), .extract (.tmp 5) 1, none⟩, ⟨(some 3), .alloc 26, none⟩, ⟨none, .store 26 (.tmp 3) (.tmp 8), none⟩, ⟨(some 4), .assign (.tmp 9), none⟩]
abbrev s65_2 : SC := .region [⟨(some 10), .move (.tmp 4), none⟩, ⟨(some 11), .move (.tmp 10), none⟩, ⟨(some 12), .load 26 (.tmp 3), (some (11, true))⟩, ⟨(some 13), .load 26 (.tmp 1), (some (11, true))⟩, ⟨(some 14), .binOp .eql 26 (.tmp 12) (.tmp 13) 26, (some (11, true))⟩, ⟨(some 15), .pick (.tmp 11) (.tmp 14) (.const (.bool false)), none⟩, ⟨(some 2), .assign (.tmp 15), none⟩]
abbrev s65_3 : SC := .seq s65_2 .ret
abbrev s65_4 : SC := .seq s65_1 s65_3
abbrev s65_5 : SC := .seq s65_0 s65_4
noncomputable def c65 : Code := match Try.f65.body with | some c => c | none => .skip
theorem b65 : Try.f65.body = some c65 := by kernel_rfl
theorem sc65 : toSC C65 c65 = some s65_5 := by kernel_rfl
set_option maxRecDepth 100000 in
theorem run65 {args : List AV} {H : Heap} {R : Out → Heap → Prop} (hl : args.length ≤ 16) (h : SWp Try.prog C65 s65_5 (finK [.tmp 2] R) ⟨argSlots 0 args, [], H⟩) : ∃ out H', CallRuns Try.prog 65 args H out H' ∧ R out H' :=
  callRuns_of (C := C65) (by kernel_rfl) hD hZ Try.func65 b65 Try.ntmps65 Try.call65 sc65 (by kernel_rfl) hl h

-- function 54: portcullis/portcullisref16.Const
def C54 : Cfg := ⟨8, [2], zget ztab⟩
@[simp] theorem L54 : C54.L = [2] := rfl
@[simp] theorem Z54 : C54.Z = zget ztab := rfl
abbrev s54_0 : SC := .region [⟨(some 2), .alloc 26, none⟩]
abbrev s54_1 : SC := .region [⟨(some 3), .move (.tmp 0), none⟩, ⟨(some 4), .build 24 #[(0, .tmp 3)], none⟩, ⟨(some 5), .move (.tmp 0), none⟩, ⟨(some 6), .move (.tmp 0), none⟩, ⟨(some 7), .build 26 #[(0, .tmp 4), (1, .tmp 5), (2, .tmp 6)], none⟩, ⟨none, .store 26 (.tmp 2) (.tmp 7), none⟩]
abbrev s54_2 : SC := .seq s54_1 .ret
abbrev s54_3 : SC := .seq s54_0 s54_2
noncomputable def c54 : Code := match Try.f54.body with | some c => c | none => .skip
theorem b54 : Try.f54.body = some c54 := by kernel_rfl
theorem sc54 : toSC C54 c54 = some s54_3 := by kernel_rfl
set_option maxRecDepth 100000 in
theorem run54 {args : List AV} {H : Heap} {R : Out → Heap → Prop} (hl : args.length ≤ 8) (h : SWp Try.prog C54 s54_3 (finK [.cell 2 26] R) ⟨argSlots 0 args, [], H⟩) : ∃ out H', CallRuns Try.prog 54 args H out H' ∧ R out H' :=
  callRuns_of (C := C54) (by kernel_rfl) hD hZ Try.func54 b54 Try.ntmps54 Try.call54 sc54 (by kernel_rfl) hl h

-- function 21: portcullis/portcullislaw16.Wide
def C21 : Cfg := ⟨40, [1, 2, 3], zget ztab⟩
@[simp] theorem L21 : C21.L = [1, 2, 3] := rfl
@[simp] theorem Z21 : C21.Z = zget ztab := rfl
abbrev s21_0 : SC := .region [⟨(some 1), .box 26 (.tmp 0), none⟩, ⟨(some 2), .alloc 26, none⟩]
abbrev s21_1 : SC := .region [⟨(some 5), .fieldAddr 26 (.tmp 1) 0, none⟩, ⟨(some 6), .fieldAddr 24 (.tmp 5) 0, none⟩, ⟨(some 7), .load 22 (.tmp 6), none⟩, ⟨(some 8), .fieldAddr 26 (.tmp 1) 0, none⟩, ⟨(some 9), .fieldAddr 24 (.tmp 8) 1, none⟩, ⟨(some 10), .load 22 (.tmp 9), none⟩, ⟨(some 11), .binOp .andNot 22 (.tmp 7) (.tmp 10) 22, none⟩, ⟨(some 12), .fieldAddr 26 (.tmp 1) 0, none⟩, ⟨(some 13), .fieldAddr 24 (.tmp 12) 0, none⟩, ⟨none, .store 22 (.tmp 13) (.tmp 11), none⟩]
abbrev s21_2 : SC := .region [⟨(some 14), .fieldAddr 26 (.tmp 1) 1, none⟩, ⟨(some 15), .load 22 (.tmp 14), none⟩, ⟨(some 16), .fieldAddr 26 (.tmp 1) 2, none⟩, ⟨(some 17), .load 22 (.tmp 16), none⟩, ⟨(some 18), .binOp .gtr 22 (.tmp 15) (.tmp 17) 22, none⟩]
abbrev s21_3 : SC := .region [⟨(some 19), .fieldAddr 26 (.tmp 1) 2, none⟩, ⟨(some 20), .load 22 (.tmp 19), none⟩, ⟨(some 21), .fieldAddr 26 (.tmp 1) 1, none⟩, ⟨(some 22), .load 22 (.tmp 21), none⟩, ⟨(some 23), .fieldAddr 26 (.tmp 1) 1, none⟩, ⟨none, .store 22 (.tmp 23) (.tmp 20), none⟩, ⟨(some 24), .fieldAddr 26 (.tmp 1) 2, none⟩, ⟨none, .store 22 (.tmp 24) (.tmp 22), none⟩]
abbrev s21_4 : SC := .cond (.tmp 18) s21_3 .skip
abbrev s21_5 : SC := .seq s21_2 s21_4
abbrev s21_6 : SC := .region [⟨(some 26), .load 26 (.tmp 1), none⟩, ⟨(some 27), .call ⟨.value (.func 64), #[.tmp 26], #[26]⟩, none⟩, ⟨(some 25), .move (.tmp 27), none⟩, ⟨(some 28), .extract (.tmp 25) 0, none⟩, ⟨(some 29), .extract (.tmp 25) 1, none⟩, ⟨(some 3), .alloc 26, none⟩, ⟨none, .store 26 (.tmp 3) (.tmp 28), none⟩, ⟨(some 4), .assign (.tmp 29), none⟩]
abbrev s21_7 : SC := .region [⟨(some 30), .move (.tmp 4), none⟩, ⟨(some 31), .move (.tmp 30), none⟩, ⟨(some 32), .load 26 (.tmp 3), (some (31, true))⟩, ⟨(some 33), .call ⟨.value (.func 65), #[.tmp 32], #[26]⟩, (some (31, true))⟩, ⟨(some 34), .pick (.tmp 31) (.tmp 33) (.const (.bool false)), none⟩]
abbrev s21_8 : SC := .region [⟨(some 35), .load 26 (.tmp 3), none⟩, ⟨none, .store 26 (.tmp 2) (.tmp 35), none⟩]
abbrev s21_9 : SC := .seq s21_8 .ret
abbrev s21_10 : SC := .cond (.tmp 34) s21_9 .skip
abbrev s21_11 : SC := .seq s21_7 s21_10
abbrev s21_12 : SC := .seq s21_6 s21_11
abbrev s21_13 : SC := .region [⟨(some 36), .fieldAddr 26 (.tmp 1) 0, none⟩, ⟨(some 37), .fieldAddr 24 (.tmp 36) 0, none⟩, ⟨(some 38), .load 22 (.tmp 37), none⟩, ⟨(some 39), .call ⟨.value (.func 54), #[.tmp 38], #[22]⟩, none⟩, ⟨none, .store 26 (.tmp 2) (.tmp 39), none⟩]
abbrev s21_14 : SC := .seq s21_13 .ret
abbrev s21_15 : SC := .seq s21_12 s21_14
abbrev s21_16 : SC := .seq s21_5 s21_15
abbrev s21_17 : SC := .seq s21_1 s21_16
abbrev s21_18 : SC := .seq s21_0 s21_17
noncomputable def c21 : Code := match Try.f21.body with | some c => c | none => .skip
theorem b21 : Try.f21.body = some c21 := by kernel_rfl
theorem sc21 : toSC C21 c21 = some s21_18 := by kernel_rfl
set_option maxRecDepth 100000 in
theorem run21 {args : List AV} {H : Heap} {R : Out → Heap → Prop} (hl : args.length ≤ 40) (h : SWp Try.prog C21 s21_18 (finK [.cell 2 26] R) ⟨argSlots 0 args, [], H⟩) : ∃ out H', CallRuns Try.prog 21 args H out H' ∧ R out H' :=
  callRuns_of (C := C21) (by kernel_rfl) hD hZ Try.func21 b21 Try.ntmps21 Try.call21 sc21 (by kernel_rfl) hl h

-- function 26: portcullis/branch.Not
def C26 : Cfg := ⟨31, [4, 11], zget ztab⟩
@[simp] theorem L26 : C26.L = [4, 11] := rfl
@[simp] theorem Z26 : C26.Z = zget ztab := rfl
abbrev s26_0 : SC := .region [⟨(some 2), .assign (.const (.int .i64 0)), none⟩]
abbrev s26_1 : SC := .region [⟨(some 5), .build 99 #[(0, .const (.int .i64 16)), (1, .const (.int .i64 80))], none⟩, ⟨(some 6), .build 99 #[(0, .const (.int .i64 32)), (1, .const (.int .i64 176))], none⟩, ⟨(some 7), .build 99 #[(0, .const (.int .i64 48)), (1, .const (.int .i64 160))], none⟩, ⟨(some 8), .build 99 #[(0, .const (.int .i64 64)), (1, .const (.int .i64 68))], none⟩, ⟨(some 9), .build 99 #[(0, .const (.int .i64 96)), (1, .const (.int .i64 208))], none⟩, ⟨(some 10), .build 99 #[(0, .const (.int .i64 112)), (1, .const (.int .i64 192))], none⟩, ⟨(some 11), .buildSlice 100 6 #[(0, .tmp 5), (1, .tmp 6), (2, .tmp 7), (3, .tmp 8), (4, .tmp 9), (5, .tmp 10)], none⟩, ⟨(some 12), .call ⟨.builtin .len, #[.tmp 11], #[100]⟩, none⟩, ⟨(some 13), .move (.const (.int .i64 0)), none⟩]
abbrev s26_2 : SC := .region [⟨(some 14), .binOp .lss 3 (.tmp 13) (.tmp 12) 3, none⟩]
abbrev s26_3 : SC := .cond (.tmp 14) .skip (.exit 0)
abbrev s26_4 : SC := .region [⟨(some 15), .indexAddr 100 (.tmp 11) (.tmp 13), none⟩, ⟨(some 16), .load 99 (.tmp 15), none⟩, ⟨(some 4), .alloc 99, none⟩, ⟨none, .store 99 (.tmp 4) (.tmp 16), none⟩]
abbrev s26_5 : SC := .region [⟨(some 17), .move (.tmp 0), none⟩]
abbrev s26_6 : SC := .region [⟨(some 19), .indexAddr 99 (.tmp 4) (.const (.int .i64 0)), none⟩, ⟨(some 20), .load 3 (.tmp 19), none⟩, ⟨(some 21), .binOp .eql 3 (.tmp 17) (.tmp 20) 3, none⟩, ⟨(some 18), .assign (.tmp 21), none⟩]
abbrev s26_7 : SC := .region [⟨(some 22), .indexAddr 99 (.tmp 4) (.const (.int .i64 1)), none⟩, ⟨(some 23), .load 3 (.tmp 22), none⟩, ⟨(some 2), .assign (.tmp 23), none⟩]
abbrev s26_8 : SC := .seq s26_7 .ret
abbrev s26_9 : SC := .region [⟨(some 25), .indexAddr 99 (.tmp 4) (.const (.int .i64 1)), none⟩, ⟨(some 26), .load 3 (.tmp 25), none⟩, ⟨(some 27), .binOp .eql 3 (.tmp 17) (.tmp 26) 3, none⟩, ⟨(some 24), .assign (.tmp 27), none⟩]
abbrev s26_10 : SC := .region [⟨(some 28), .indexAddr 99 (.tmp 4) (.const (.int .i64 0)), none⟩, ⟨(some 29), .load 3 (.tmp 28), none⟩, ⟨(some 2), .assign (.tmp 29), none⟩]
abbrev s26_11 : SC := .seq s26_10 .ret
abbrev s26_12 : SC := .cond (.tmp 24) s26_11 .skip
abbrev s26_13 : SC := .seq s26_9 s26_12
abbrev s26_14 : SC := .cond (.tmp 18) s26_8 s26_13
abbrev s26_15 : SC := .seq s26_6 s26_14
abbrev s26_16 : SC := .block 2 s26_15
abbrev s26_17 : SC := .seq s26_5 s26_16
abbrev s26_18 : SC := .seq s26_4 s26_17
abbrev s26_19 : SC := .block 1 s26_18
abbrev s26_20 : SC := .region [⟨(some 30), .binOp .add 3 (.tmp 13) (.const (.int .i64 1)) 3, none⟩, ⟨(some 13), .move (.tmp 30), none⟩]
abbrev s26_21 : SC := .seq s26_19 s26_20
abbrev s26_22 : SC := .seq s26_3 s26_21
abbrev s26_23 : SC := .seq s26_2 s26_22
abbrev s26_24 : SC := .loop s26_23
abbrev s26_25 : SC := .block 0 s26_24
abbrev s26_26 : SC := .seq s26_1 s26_25
abbrev s26_27 : SC := .region [⟨(some 2), .assign (.const (.int .i64 (-1))), none⟩]
abbrev s26_28 : SC := .seq s26_27 .ret
abbrev s26_29 : SC := .seq s26_26 s26_28
abbrev s26_30 : SC := .seq s26_0 s26_29
noncomputable def c26 : Code := match Try.f26.body with | some c => c | none => .skip
theorem b26 : Try.f26.body = some c26 := by kernel_rfl
theorem sc26 : toSC C26 c26 = some s26_30 := by kernel_rfl
set_option maxRecDepth 100000 in
theorem run26 {args : List AV} {H : Heap} {R : Out → Heap → Prop} (hl : args.length ≤ 31) (h : SWp Try.prog C26 s26_30 (finK [.tmp 2] R) ⟨argSlots 0 args, [], H⟩) : ∃ out H', CallRuns Try.prog 26 args H out H' ∧ R out H' :=
  callRuns_of (C := C26) (by kernel_rfl) hD hZ Try.func26 b26 Try.ntmps26 Try.call26 sc26 (by kernel_rfl) hl h

-- function 66: portcullis/branch.plain
def C66 : Cfg := ⟨13, [], zget ztab⟩
@[simp] theorem L66 : C66.L = [] := rfl
@[simp] theorem Z66 : C66.Z = zget ztab := rfl
abbrev s66_0 : SC := .region [⟨(some 2), .assign (.const (.int .i64 0)), none⟩]
abbrev s66_1 : SC := .region [⟨(some 3), .move (.tmp 0), none⟩]
abbrev s66_2 : SC := .region [⟨(some 5), .binOp .eql 3 (.tmp 3) (.const (.int .i64 96)) 3, none⟩, ⟨(some 4), .assign (.tmp 5), none⟩]
abbrev s66_3 : SC := .region [⟨(some 2), .assign (.const (.int .i64 32)), none⟩]
abbrev s66_4 : SC := .seq s66_3 .ret
abbrev s66_5 : SC := .region [⟨(some 7), .binOp .eql 3 (.tmp 3) (.const (.int .i64 112)) 3, none⟩, ⟨(some 6), .assign (.tmp 7), none⟩]
abbrev s66_6 : SC := .region [⟨(some 2), .assign (.const (.int .i64 48)), none⟩]
abbrev s66_7 : SC := .seq s66_6 .ret
abbrev s66_8 : SC := .region [⟨(some 9), .binOp .eql 3 (.tmp 3) (.const (.int .i64 192)) 3, none⟩, ⟨(some 8), .assign (.tmp 9), none⟩]
abbrev s66_9 : SC := .region [⟨(some 2), .assign (.const (.int .i64 160)), none⟩]
abbrev s66_10 : SC := .seq s66_9 .ret
abbrev s66_11 : SC := .region [⟨(some 11), .binOp .eql 3 (.tmp 3) (.const (.int .i64 208)) 3, none⟩, ⟨(some 10), .assign (.tmp 11), none⟩]
abbrev s66_12 : SC := .region [⟨(some 2), .assign (.const (.int .i64 176)), none⟩]
abbrev s66_13 : SC := .seq s66_12 .ret
abbrev s66_14 : SC := .cond (.tmp 10) s66_13 .skip
abbrev s66_15 : SC := .seq s66_11 s66_14
abbrev s66_16 : SC := .cond (.tmp 8) s66_10 s66_15
abbrev s66_17 : SC := .seq s66_8 s66_16
abbrev s66_18 : SC := .cond (.tmp 6) s66_7 s66_17
abbrev s66_19 : SC := .seq s66_5 s66_18
abbrev s66_20 : SC := .cond (.tmp 4) s66_4 s66_19
abbrev s66_21 : SC := .seq s66_2 s66_20
abbrev s66_22 : SC := .block 0 s66_21
abbrev s66_23 : SC := .seq s66_1 s66_22
abbrev s66_24 : SC := .region [⟨(some 12), .move (.tmp 0), none⟩, ⟨(some 2), .assign (.tmp 12), none⟩]
abbrev s66_25 : SC := .seq s66_24 .ret
abbrev s66_26 : SC := .seq s66_23 s66_25
abbrev s66_27 : SC := .seq s66_0 s66_26
noncomputable def c66 : Code := match Try.f66.body with | some c => c | none => .skip
theorem b66 : Try.f66.body = some c66 := by kernel_rfl
theorem sc66 : toSC C66 c66 = some s66_27 := by kernel_rfl
set_option maxRecDepth 100000 in
theorem run66 {args : List AV} {H : Heap} {R : Out → Heap → Prop} (hl : args.length ≤ 13) (h : SWp Try.prog C66 s66_27 (finK [.tmp 2] R) ⟨argSlots 0 args, [], H⟩) : ∃ out H', CallRuns Try.prog 66 args H out H' ∧ R out H' :=
  callRuns_of (C := C66) (by kernel_rfl) hD hZ Try.func66 b66 Try.ntmps66 Try.call66 sc66 (by kernel_rfl) hl h

-- function 67: portcullis/scalar.Only
def C67 : Cfg := ⟨11, [1], zget ztab⟩
@[simp] theorem L67 : C67.L = [1] := rfl
@[simp] theorem Z67 : C67.Z = zget ztab := rfl
abbrev s67_0 : SC := .region [⟨(some 1), .box 26 (.tmp 0), none⟩, ⟨(some 2), .assign (.const (.int .u64 0)), none⟩, ⟨(some 3), .assign (.const (.bool false)), none⟩]
abbrev s67_1 : SC := .region [⟨(some 4), .fieldAddr 26 (.tmp 1) 0, none⟩, ⟨(some 5), .fieldAddr 24 (.tmp 4) 1, none⟩, ⟨(some 6), .load 22 (.tmp 5), none⟩, ⟨(some 7), .binOp .eql 22 (.tmp 6) (.const (.int .u64 0)) 22, none⟩]
abbrev s67_2 : SC := .region [⟨(some 8), .fieldAddr 26 (.tmp 1) 0, none⟩, ⟨(some 9), .fieldAddr 24 (.tmp 8) 0, none⟩, ⟨(some 10), .load 22 (.tmp 9), none⟩, ⟨(some 2), .assign (.tmp 10), none⟩, ⟨(some 3), .assign (.const (.bool true)), none⟩]
abbrev s67_3 : SC := .seq s67_2 .ret
abbrev s67_4 : SC := .cond (.tmp 7) s67_3 .skip
abbrev s67_5 : SC := .seq s67_1 s67_4
abbrev s67_6 : SC := .region [⟨(some 2), .assign (.const (.int .u64 0)), none⟩, ⟨(some 3), .assign (.const (.bool false)), none⟩]
abbrev s67_7 : SC := .seq s67_6 .ret
abbrev s67_8 : SC := .seq s67_5 s67_7
abbrev s67_9 : SC := .seq s67_0 s67_8
noncomputable def c67 : Code := match Try.f67.body with | some c => c | none => .skip
theorem b67 : Try.f67.body = some c67 := by kernel_rfl
theorem sc67 : toSC C67 c67 = some s67_9 := by kernel_rfl
set_option maxRecDepth 100000 in
theorem run67 {args : List AV} {H : Heap} {R : Out → Heap → Prop} (hl : args.length ≤ 11) (h : SWp Try.prog C67 s67_9 (finK [.tmp 2, .tmp 3] R) ⟨argSlots 0 args, [], H⟩) : ∃ out H', CallRuns Try.prog 67 args H out H' ∧ R out H' :=
  callRuns_of (C := C67) (by kernel_rfl) hD hZ Try.func67 b67 Try.ntmps67 Try.call67 sc67 (by kernel_rfl) hl h

-- function 109: portcullis/tnum.known
def C109 : Cfg := ⟨10, [4], zget ztab⟩
@[simp] theorem L109 : C109.L = [4] := rfl
@[simp] theorem Z109 : C109.Z = zget ztab := rfl
abbrev s109_0 : SC := .region [⟨(some 4), .alloc 24, none⟩]
abbrev s109_1 : SC := .region [⟨(some 5), .move (.tmp 0), none⟩, ⟨(some 6), .move (.tmp 1), none⟩, ⟨(some 7), .binOp .andNot 22 (.tmp 5) (.tmp 6) 22, none⟩, ⟨(some 8), .move (.tmp 1), none⟩, ⟨(some 9), .build 24 #[(0, .tmp 7), (1, .tmp 8)], none⟩, ⟨none, .store 24 (.tmp 4) (.tmp 9), none⟩]
abbrev s109_2 : SC := .seq s109_1 .ret
abbrev s109_3 : SC := .seq s109_0 s109_2
noncomputable def c109 : Code := match Try.f109.body with | some c => c | none => .skip
theorem b109 : Try.f109.body = some c109 := by kernel_rfl
theorem sc109 : toSC C109 c109 = some s109_3 := by kernel_rfl
set_option maxRecDepth 100000 in
theorem run109 {args : List AV} {H : Heap} {R : Out → Heap → Prop} (hl : args.length ≤ 10) (h : SWp Try.prog C109 s109_3 (finK [.cell 4 24] R) ⟨argSlots 0 args, [], H⟩) : ∃ out H', CallRuns Try.prog 109 args H out H' ∧ R out H' :=
  callRuns_of (C := C109) (by kernel_rfl) hD hZ Try.func109 b109 Try.ntmps109 Try.call109 sc109 (by kernel_rfl) hl h

-- function 68: portcullis/tnum.Meet
def C68 : Cfg := ⟨30, [2, 3, 4], zget ztab⟩
@[simp] theorem L68 : C68.L = [2, 3, 4] := rfl
@[simp] theorem Z68 : C68.Z = zget ztab := rfl
abbrev s68_0 : SC := .region [⟨(some 2), .box 24 (.tmp 0), none⟩, ⟨(some 3), .box 24 (.tmp 1), none⟩, ⟨(some 4), .alloc 24, none⟩, ⟨(some 5), .assign (.const (.bool false)), none⟩]
abbrev s68_1 : SC := .region [⟨(some 6), .fieldAddr 24 (.tmp 2) 0, none⟩, ⟨(some 7), .load 22 (.tmp 6), none⟩, ⟨(some 8), .fieldAddr 24 (.tmp 3) 0, none⟩, ⟨(some 9), .load 22 (.tmp 8), none⟩, ⟨(some 10), .binOp .xor 22 (.tmp 7) (.tmp 9) 22, none⟩, ⟨(some 11), .fieldAddr 24 (.tmp 2) 1, none⟩, ⟨(some 12), .load 22 (.tmp 11), none⟩, ⟨(some 13), .fieldAddr 24 (.tmp 3) 1, none⟩, ⟨(some 14), .load 22 (.tmp 13), none⟩, ⟨(some 15), .binOp .or 22 (.tmp 12) (.tmp 14) 22, none⟩, ⟨(some 16), .binOp .andNot 22 (.tmp 10) (.tmp 15) 22, none⟩, ⟨(some 17), .binOp .neq 22 (.tmp 16) (.const (.int .u64 0)) 22, none⟩]
abbrev s68_2 : SC := .region [⟨(some 18), .build 24 #[], none⟩, ⟨none, .store 24 (.tmp 4) (.tmp 18), none⟩, ⟨(some 5), .assign (.const (.bool false)), none⟩]
abbrev s68_3 : SC := .seq s68_2 .ret
abbrev s68_4 : SC := .cond (.tmp 17) s68_3 .skip
abbrev s68_5 : SC := .seq s68_1 s68_4
abbrev s68_6 : SC := .region [⟨(some 19), .fieldAddr 24 (.tmp 2) 0, none⟩, ⟨(some 20), .load 22 (.tmp 19), none⟩, ⟨(some 21), .fieldAddr 24 (.tmp 3) 0, none⟩, ⟨(some 22), .load 22 (.tmp 21), none⟩, ⟨(some 23), .binOp .or 22 (.tmp 20) (.tmp 22) 22, none⟩, ⟨(some 24), .fieldAddr 24 (.tmp 2) 1, none⟩, ⟨(some 25), .load 22 (.tmp 24), none⟩, ⟨(some 26), .fieldAddr 24 (.tmp 3) 1, none⟩, ⟨(some 27), .load 22 (.tmp 26), none⟩, ⟨(some 28), .binOp .and 22 (.tmp 25) (.tmp 27) 22, none⟩, ⟨(some 29), .call ⟨.value (.func 109), #[.tmp 23, .tmp 28], #[22, 22]⟩, none⟩, ⟨none, .store 24 (.tmp 4) (.tmp 29), none⟩, ⟨(some 5), .assign (.const (.bool true)), none⟩]
abbrev s68_7 : SC := .seq s68_6 .ret
abbrev s68_8 : SC := .seq s68_5 s68_7
abbrev s68_9 : SC := .seq s68_0 s68_8
noncomputable def c68 : Code := match Try.f68.body with | some c => c | none => .skip
theorem b68 : Try.f68.body = some c68 := by kernel_rfl
theorem sc68 : toSC C68 c68 = some s68_9 := by kernel_rfl
set_option maxRecDepth 100000 in
theorem run68 {args : List AV} {H : Heap} {R : Out → Heap → Prop} (hl : args.length ≤ 30) (h : SWp Try.prog C68 s68_9 (finK [.cell 4 24, .tmp 5] R) ⟨argSlots 0 args, [], H⟩) : ∃ out H', CallRuns Try.prog 68 args H out H' ∧ R out H' :=
  callRuns_of (C := C68) (by kernel_rfl) hD hZ Try.func68 b68 Try.ntmps68 Try.call68 sc68 (by kernel_rfl) hl h

-- function 134: math/bits.Len64
def C134 : Cfg := ⟨25, [], zget ztab⟩
@[simp] theorem L134 : C134.L = [] := rfl
@[simp] theorem Z134 : C134.Z = zget ztab := rfl
abbrev s134_0 : SC := .region [⟨(some 2), .assign (.const (.int .i64 0)), none⟩]
abbrev s134_1 : SC := .region [⟨(some 3), .move (.tmp 0), none⟩, ⟨(some 4), .binOp .geq 22 (.tmp 3) (.const (.int .u64 4294967296)) 22, none⟩]
abbrev s134_2 : SC := .region [⟨(some 5), .move (.tmp 0), none⟩, ⟨(some 6), .binOp .shr 22 (.tmp 5) (.const (.int .u64 32)) 93, none⟩, ⟨(some 0), .assign (.tmp 6), none⟩]
abbrev s134_3 : SC := .region [⟨(some 2), .assign (.const (.int .i64 32)), none⟩]
abbrev s134_4 : SC := .seq s134_2 s134_3
abbrev s134_5 : SC := .cond (.tmp 4) s134_4 .skip
abbrev s134_6 : SC := .seq s134_1 s134_5
abbrev s134_7 : SC := .region [⟨(some 7), .move (.tmp 0), none⟩, ⟨(some 8), .binOp .geq 22 (.tmp 7) (.const (.int .u64 65536)) 22, none⟩]
abbrev s134_8 : SC := .region [⟨(some 9), .move (.tmp 0), none⟩, ⟨(some 10), .binOp .shr 22 (.tmp 9) (.const (.int .u64 16)) 93, none⟩, ⟨(some 0), .assign (.tmp 10), none⟩]
abbrev s134_9 : SC := .region [⟨(some 11), .move (.tmp 2), none⟩, ⟨(some 12), .binOp .add 3 (.tmp 11) (.const (.int .i64 16)) 3, none⟩, ⟨(some 2), .assign (.tmp 12), none⟩]
abbrev s134_10 : SC := .seq s134_8 s134_9
abbrev s134_11 : SC := .cond (.tmp 8) s134_10 .skip
abbrev s134_12 : SC := .seq s134_7 s134_11
abbrev s134_13 : SC := .region [⟨(some 13), .move (.tmp 0), none⟩, ⟨(some 14), .binOp .geq 22 (.tmp 13) (.const (.int .u64 256)) 22, none⟩]
abbrev s134_14 : SC := .region [⟨(some 15), .move (.tmp 0), none⟩, ⟨(some 16), .binOp .shr 22 (.tmp 15) (.const (.int .u64 8)) 93, none⟩, ⟨(some 0), .assign (.tmp 16), none⟩]
abbrev s134_15 : SC := .region [⟨(some 17), .move (.tmp 2), none⟩, ⟨(some 18), .binOp .add 3 (.tmp 17) (.const (.int .i64 8)) 3, none⟩, ⟨(some 2), .assign (.tmp 18), none⟩]
abbrev s134_16 : SC := .seq s134_14 s134_15
abbrev s134_17 : SC := .cond (.tmp 14) s134_16 .skip
abbrev s134_18 : SC := .seq s134_13 s134_17
abbrev s134_19 : SC := .region [⟨(some 19), .move (.tmp 2), none⟩, ⟨(some 20), .move (.tmp 0), none⟩, ⟨(some 21), .convert 22 5 (.tmp 20), none⟩, ⟨(some 22), .index 9 (.const (.string bytes_0)) (.tmp 21), none⟩, ⟨(some 23), .convert 5 3 (.tmp 22), none⟩, ⟨(some 24), .binOp .add 3 (.tmp 19) (.tmp 23) 3, none⟩, ⟨(some 2), .assign (.tmp 24), none⟩]
abbrev s134_20 : SC := .seq s134_19 .ret
abbrev s134_21 : SC := .seq s134_18 s134_20
abbrev s134_22 : SC := .seq s134_12 s134_21
abbrev s134_23 : SC := .seq s134_6 s134_22
abbrev s134_24 : SC := .seq s134_0 s134_23
noncomputable def c134 : Code := match Try.f134.body with | some c => c | none => .skip
theorem b134 : Try.f134.body = some c134 := by kernel_rfl
theorem sc134 : toSC C134 c134 = some s134_24 := by kernel_rfl
set_option maxRecDepth 100000 in
theorem run134 {args : List AV} {H : Heap} {R : Out → Heap → Prop} (hl : args.length ≤ 25) (h : SWp Try.prog C134 s134_24 (finK [.tmp 2] R) ⟨argSlots 0 args, [], H⟩) : ∃ out H', CallRuns Try.prog 134 args H out H' ∧ R out H' :=
  callRuns_of (C := C134) (by kernel_rfl) hD hZ Try.func134 b134 Try.ntmps134 Try.call134 sc134 (by kernel_rfl) hl h

-- function 124: portcullis/tnum.Of
def C124 : Cfg := ⟨13, [4], zget ztab⟩
@[simp] theorem L124 : C124.L = [4] := rfl
@[simp] theorem Z124 : C124.Z = zget ztab := rfl
abbrev s124_0 : SC := .region [⟨(some 4), .alloc 24, none⟩]
abbrev s124_1 : SC := .region [⟨(some 5), .move (.tmp 0), none⟩, ⟨(some 6), .move (.tmp 0), none⟩, ⟨(some 7), .move (.tmp 1), none⟩, ⟨(some 8), .binOp .xor 22 (.tmp 6) (.tmp 7) 22, none⟩, ⟨(some 9), .call ⟨.value (.func 134), #[.tmp 8], #[22]⟩, none⟩, ⟨(some 10), .binOp .shl 22 (.const (.int .u64 1)) (.tmp 9) 3, none⟩, ⟨(some 11), .binOp .sub 22 (.tmp 10) (.const (.int .u64 1)) 22, none⟩, ⟨(some 12), .call ⟨.value (.func 109), #[.tmp 5, .tmp 11], #[22, 22]⟩, none⟩, ⟨none, .store 24 (.tmp 4) (.tmp 12), none⟩]
abbrev s124_2 : SC := .seq s124_1 .ret
abbrev s124_3 : SC := .seq s124_0 s124_2
noncomputable def c124 : Code := match Try.f124.body with | some c => c | none => .skip
theorem b124 : Try.f124.body = some c124 := by kernel_rfl
theorem sc124 : toSC C124 c124 = some s124_3 := by kernel_rfl
set_option maxRecDepth 100000 in
theorem run124 {args : List AV} {H : Heap} {R : Out → Heap → Prop} (hl : args.length ≤ 13) (h : SWp Try.prog C124 s124_3 (finK [.cell 4 24] R) ⟨argSlots 0 args, [], H⟩) : ∃ out H', CallRuns Try.prog 124 args H out H' ∧ R out H' :=
  callRuns_of (C := C124) (by kernel_rfl) hD hZ Try.func124 b124 Try.ntmps124 Try.call124 sc124 (by kernel_rfl) hl h

-- function 110: portcullis/scalar.Tight
def C110 : Cfg := ⟨59, [1, 2], zget ztab⟩
@[simp] theorem L110 : C110.L = [1, 2] := rfl
@[simp] theorem Z110 : C110.Z = zget ztab := rfl
abbrev s110_0 : SC := .region [⟨(some 1), .box 26 (.tmp 0), none⟩, ⟨(some 2), .alloc 26, none⟩, ⟨(some 3), .assign (.const (.bool false)), none⟩]
abbrev s110_1 : SC := .region [⟨(some 5), .fieldAddr 26 (.tmp 1) 0, none⟩, ⟨(some 6), .fieldAddr 24 (.tmp 5) 0, none⟩, ⟨(some 7), .load 22 (.tmp 6), none⟩, ⟨(some 8), .fieldAddr 26 (.tmp 1) 0, none⟩, ⟨(some 9), .fieldAddr 24 (.tmp 8) 1, none⟩, ⟨(some 10), .load 22 (.tmp 9), none⟩, ⟨(some 11), .binOp .and 22 (.tmp 7) (.tmp 10) 22, none⟩, ⟨(some 12), .binOp .eql 22 (.tmp 11) (.const (.int .u64 0)) 22, none⟩, ⟨(some 4), .assign (.tmp 12), none⟩]
abbrev s110_2 : SC := .region [⟨(some 13), .move (.const (.int .i64 0)), none⟩]
abbrev s110_3 : SC := .region [⟨(some 14), .binOp .lss 3 (.tmp 13) (.const (.int .i64 3)) 3, none⟩]
abbrev s110_4 : SC := .cond (.tmp 14) .skip (.exit 0)
abbrev s110_5 : SC := .region [⟨(some 15), .fieldAddr 26 (.tmp 1) 1, none⟩, ⟨(some 16), .load 22 (.tmp 15), none⟩, ⟨(some 17), .fieldAddr 26 (.tmp 1) 0, none⟩, ⟨(some 18), .fieldAddr 24 (.tmp 17) 0, none⟩, ⟨(some 19), .load 22 (.tmp 18), none⟩, ⟨(some 20), .call ⟨.builtin .max, #[.tmp 16, .tmp 19], #[22, 22]⟩, none⟩, ⟨(some 21), .fieldAddr 26 (.tmp 1) 2, none⟩, ⟨(some 22), .load 22 (.tmp 21), none⟩, ⟨(some 23), .fieldAddr 26 (.tmp 1) 0, none⟩, ⟨(some 24), .fieldAddr 24 (.tmp 23) 0, none⟩, ⟨(some 25), .load 22 (.tmp 24), none⟩, ⟨(some 26), .fieldAddr 26 (.tmp 1) 0, none⟩, ⟨(some 27), .fieldAddr 24 (.tmp 26) 1, none⟩, ⟨(some 28), .load 22 (.tmp 27), none⟩, ⟨(some 29), .binOp .or 22 (.tmp 25) (.tmp 28) 22, none⟩, ⟨(some 30), .call ⟨.builtin .min, #[.tmp 22, .tmp 29], #[22, 22]⟩, none⟩, ⟨(some 31), .fieldAddr 26 (.tmp 1) 1, none⟩, ⟨none, .store 22 (.tmp 31) (.tmp 20), none⟩, ⟨(some 32), .fieldAddr 26 (.tmp 1) 2, none⟩, ⟨none, .store 22 (.tmp 32) (.tmp 30), none⟩]
abbrev s110_6 : SC := .region [⟨(some 33), .move (.tmp 4), none⟩, ⟨(some 34), .move (.tmp 33), none⟩, ⟨(some 35), .fieldAddr 26 (.tmp 1) 1, (some (34, true))⟩, ⟨(some 36), .load 22 (.tmp 35), (some (34, true))⟩, ⟨(some 37), .fieldAddr 26 (.tmp 1) 2, (some (34, true))⟩, ⟨(some 38), .load 22 (.tmp 37), (some (34, true))⟩, ⟨(some 39), .binOp .leq 22 (.tmp 36) (.tmp 38) 22, (some (34, true))⟩, ⟨(some 40), .pick (.tmp 34) (.tmp 39) (.const (.bool false)), none⟩, ⟨(some 4), .assign (.tmp 40), none⟩]
abbrev s110_7 : SC := .region [⟨(some 41), .move (.tmp 4), none⟩]
abbrev s110_8 : SC := .draw [(⟨(some 43), .fieldAddr 26 (.tmp 1) 0, none⟩, ⟨[], [], false, false⟩), (⟨(some 44), .load 24 (.tmp 43), none⟩, ⟨[1], [], false, false⟩), (⟨(some 45), .fieldAddr 26 (.tmp 1) 1, none⟩, ⟨[], [], false, false⟩), (⟨(some 46), .load 22 (.tmp 45), none⟩, ⟨[1], [], false, false⟩), (⟨(some 47), .fieldAddr 26 (.tmp 1) 2, none⟩, ⟨[], [], false, false⟩), (⟨(some 48), .load 22 (.tmp 47), none⟩, ⟨[1], [], false, false⟩), (⟨(some 49), .call ⟨.value (.func 124), #[.tmp 46, .tmp 48], #[22, 22]⟩, none⟩, ⟨[], [], true, true⟩), (⟨(some 50), .call ⟨.value (.func 68), #[.tmp 44, .tmp 49], #[24, 24]⟩, none⟩, ⟨[], [], true, true⟩), (⟨(some 42), .move (.tmp 50), none⟩, ⟨[], [], false, false⟩), (⟨(some 51), .extract (.tmp 42) 0, none⟩, ⟨[], [], false, false⟩), (⟨(some 52), .extract (.tmp 42) 1, none⟩, ⟨[], [], false, false⟩), (⟨(some 53), .fieldAddr 26 (.tmp 1) 0, none⟩, ⟨[], [], false, false⟩), (⟨none, .store 24 (.tmp 53) (.tmp 51), none⟩, ⟨[], [1], false, false⟩), (⟨(some 4), .assign (.tmp 52), none⟩, ⟨[], [], false, false⟩)]
abbrev s110_9 : SC := .cond (.tmp 41) s110_8 .skip
abbrev s110_10 : SC := .seq s110_7 s110_9
abbrev s110_11 : SC := .seq s110_6 s110_10
abbrev s110_12 : SC := .seq s110_5 s110_11
abbrev s110_13 : SC := .block 1 s110_12
abbrev s110_14 : SC := .region [⟨(some 54), .binOp .add 3 (.tmp 13) (.const (.int .i64 1)) 3, none⟩, ⟨(some 13), .move (.tmp 54), none⟩]
abbrev s110_15 : SC := .seq s110_13 s110_14
abbrev s110_16 : SC := .seq s110_4 s110_15
abbrev s110_17 : SC := .seq s110_3 s110_16
abbrev s110_18 : SC := .loop s110_17
abbrev s110_19 : SC := .block 0 s110_18
abbrev s110_20 : SC := .seq s110_2 s110_19
abbrev s110_21 : SC := .region [⟨(some 55), .move (.tmp 4), none⟩, ⟨(some 56), .unOp .not 4 (.tmp 55), none⟩]
abbrev s110_22 : SC := .region [⟨(some 57), .build 26 #[], none⟩, ⟨none, .store 26 (.tmp 2) (.tmp 57), none⟩, ⟨(some 3), .assign (.const (.bool false)), none⟩]
abbrev s110_23 : SC := .seq s110_22 .ret
abbrev s110_24 : SC := .cond (.tmp 56) s110_23 .skip
abbrev s110_25 : SC := .seq s110_21 s110_24
abbrev s110_26 : SC := .region [⟨(some 58), .load 26 (.tmp 1), none⟩, ⟨none, .store 26 (.tmp 2) (.tmp 58), none⟩, ⟨(some 3), .assign (.const (.bool true)), none⟩]
abbrev s110_27 : SC := .seq s110_26 .ret
abbrev s110_28 : SC := .seq s110_25 s110_27
abbrev s110_29 : SC := .seq s110_20 s110_28
abbrev s110_30 : SC := .seq s110_1 s110_29
abbrev s110_31 : SC := .seq s110_0 s110_30
noncomputable def c110 : Code := match Try.f110.body with | some c => c | none => .skip
theorem b110 : Try.f110.body = some c110 := by kernel_rfl
theorem sc110 : toSC C110 c110 = some s110_31 := by kernel_rfl
set_option maxRecDepth 100000 in
theorem run110 {args : List AV} {H : Heap} {R : Out → Heap → Prop} (hl : args.length ≤ 59) (h : SWp Try.prog C110 s110_31 (finK [.cell 2 26, .tmp 3] R) ⟨argSlots 0 args, [], H⟩) : ∃ out H', CallRuns Try.prog 110 args H out H' ∧ R out H' :=
  callRuns_of (C := C110) (by kernel_rfl) hD hZ Try.func110 b110 Try.ntmps110 Try.call110 sc110 (by kernel_rfl) hl h

-- function 69: portcullis/branch.known
def C69 : Cfg := ⟨37, [3, 4, 6, 7, 9, 11], zget ztab⟩
@[simp] theorem L69 : C69.L = [3, 4, 6, 7, 9, 11] := rfl
@[simp] theorem Z69 : C69.Z = zget ztab := rfl
abbrev s69_0 : SC := .region [⟨(some 3), .box 26 (.tmp 0), none⟩, ⟨(some 4), .box 26 (.tmp 1), none⟩, ⟨(some 6), .alloc 26, none⟩, ⟨(some 7), .alloc 26, none⟩, ⟨(some 8), .assign (.const (.bool false)), none⟩]
abbrev s69_1 : SC := .region [⟨(some 14), .load 26 (.tmp 3), none⟩, ⟨(some 15), .call ⟨.value (.func 110), #[.tmp 14], #[26]⟩, none⟩, ⟨(some 13), .move (.tmp 15), none⟩, ⟨(some 16), .extract (.tmp 13) 0, none⟩, ⟨(some 17), .extract (.tmp 13) 1, none⟩, ⟨(some 9), .alloc 26, none⟩, ⟨none, .store 26 (.tmp 9) (.tmp 16), none⟩, ⟨(some 10), .assign (.tmp 17), none⟩]
abbrev s69_2 : SC := .region [⟨(some 19), .load 26 (.tmp 4), none⟩, ⟨(some 20), .call ⟨.value (.func 110), #[.tmp 19], #[26]⟩, none⟩, ⟨(some 18), .move (.tmp 20), none⟩, ⟨(some 21), .extract (.tmp 18) 0, none⟩, ⟨(some 22), .extract (.tmp 18) 1, none⟩, ⟨(some 11), .alloc 26, none⟩, ⟨none, .store 26 (.tmp 11) (.tmp 21), none⟩, ⟨(some 12), .assign (.tmp 22), none⟩]
abbrev s69_3 : SC := .region [⟨(some 23), .move (.tmp 2), none⟩, ⟨(some 24), .unOp .not 4 (.tmp 23), none⟩, ⟨(some 25), .move (.tmp 24), none⟩, ⟨(some 26), .move (.tmp 10), (some (25, false))⟩, ⟨(some 27), .unOp .not 4 (.tmp 26), (some (25, false))⟩, ⟨(some 28), .pick (.tmp 25) (.const (.bool true)) (.tmp 27), none⟩, ⟨(some 29), .move (.tmp 28), none⟩, ⟨(some 30), .move (.tmp 12), (some (29, false))⟩, ⟨(some 31), .unOp .not 4 (.tmp 30), (some (29, false))⟩, ⟨(some 32), .pick (.tmp 29) (.const (.bool true)) (.tmp 31), none⟩]
abbrev s69_4 : SC := .region [⟨(some 33), .build 26 #[], none⟩, ⟨(some 34), .build 26 #[], none⟩, ⟨none, .store 26 (.tmp 6) (.tmp 33), none⟩, ⟨none, .store 26 (.tmp 7) (.tmp 34), none⟩, ⟨(some 8), .assign (.const (.bool false)), none⟩]
abbrev s69_5 : SC := .seq s69_4 .ret
abbrev s69_6 : SC := .cond (.tmp 32) s69_5 .skip
abbrev s69_7 : SC := .seq s69_3 s69_6
abbrev s69_8 : SC := .draw [(⟨(some 35), .load 26 (.tmp 9), none⟩, ⟨[9], [], false, false⟩), (⟨(some 36), .load 26 (.tmp 11), none⟩, ⟨[11], [], false, false⟩), (⟨none, .store 26 (.tmp 6) (.tmp 35), none⟩, ⟨[], [6], false, false⟩), (⟨none, .store 26 (.tmp 7) (.tmp 36), none⟩, ⟨[], [7], false, false⟩), (⟨(some 8), .assign (.const (.bool true)), none⟩, ⟨[], [], false, false⟩)]
abbrev s69_9 : SC := .seq s69_8 .ret
abbrev s69_10 : SC := .seq s69_7 s69_9
abbrev s69_11 : SC := .seq s69_2 s69_10
abbrev s69_12 : SC := .seq s69_1 s69_11
abbrev s69_13 : SC := .seq s69_0 s69_12
noncomputable def c69 : Code := match Try.f69.body with | some c => c | none => .skip
theorem b69 : Try.f69.body = some c69 := by kernel_rfl
theorem sc69 : toSC C69 c69 = some s69_13 := by kernel_rfl
set_option maxRecDepth 100000 in
theorem run69 {args : List AV} {H : Heap} {R : Out → Heap → Prop} (hl : args.length ≤ 37) (h : SWp Try.prog C69 s69_13 (finK [.cell 6 26, .cell 7 26, .tmp 8] R) ⟨argSlots 0 args, [], H⟩) : ∃ out H', CallRuns Try.prog 69 args H out H' ∧ R out H' :=
  callRuns_of (C := C69) (by kernel_rfl) hD hZ Try.func69 b69 Try.ntmps69 Try.call69 sc69 (by kernel_rfl) hl h

-- function 111: portcullis/branch.without
def C111 : Cfg := ⟨55, [2, 4], zget ztab⟩
@[simp] theorem L111 : C111.L = [2, 4] := rfl
@[simp] theorem Z111 : C111.Z = zget ztab := rfl
abbrev s111_0 : SC := .region [⟨(some 2), .box 26 (.tmp 0), none⟩, ⟨(some 4), .alloc 26, none⟩, ⟨(some 5), .assign (.const (.bool false)), none⟩]
abbrev s111_1 : SC := .draw [(⟨(some 8), .fieldAddr 26 (.tmp 2) 1, none⟩, ⟨[], [], false, false⟩), (⟨(some 9), .load 22 (.tmp 8), none⟩, ⟨[2], [], false, false⟩), (⟨(some 10), .move (.tmp 1), none⟩, ⟨[], [], false, false⟩), (⟨(some 11), .binOp .eql 22 (.tmp 9) (.tmp 10) 22, none⟩, ⟨[], [], false, false⟩), (⟨(some 12), .fieldAddr 26 (.tmp 2) 2, none⟩, ⟨[], [], false, false⟩), (⟨(some 13), .load 22 (.tmp 12), none⟩, ⟨[2], [], false, false⟩), (⟨(some 14), .move (.tmp 1), none⟩, ⟨[], [], false, false⟩), (⟨(some 15), .binOp .eql 22 (.tmp 13) (.tmp 14) 22, none⟩, ⟨[], [], false, false⟩), (⟨(some 6), .assign (.tmp 11), none⟩, ⟨[], [], false, false⟩), (⟨(some 7), .assign (.tmp 15), none⟩, ⟨[], [], false, false⟩)]
abbrev s111_2 : SC := .region [⟨(some 16), .move (.tmp 6), none⟩, ⟨(some 17), .move (.tmp 16), none⟩, ⟨(some 18), .move (.tmp 1), (some (17, true))⟩, ⟨(some 19), .binOp .eql 22 (.tmp 18) (.const (.int .u64 18446744073709551615)) 22, (some (17, true))⟩, ⟨(some 20), .pick (.tmp 17) (.tmp 19) (.const (.bool false)), none⟩, ⟨(some 21), .move (.tmp 20), none⟩, ⟨(some 22), .move (.tmp 7), (some (21, false))⟩, ⟨(some 23), .move (.tmp 22), (some (21, false))⟩, ⟨(some 24), .move (.tmp 1), (some (23, true))⟩, ⟨(some 25), .binOp .eql 22 (.tmp 24) (.const (.int .u64 0)) 22, (some (23, true))⟩, ⟨(some 26), .pick (.tmp 23) (.tmp 25) (.const (.bool false)), (some (21, false))⟩, ⟨(some 27), .move (.tmp 26), (some (21, false))⟩, ⟨(some 28), .move (.tmp 6), (some (27, true))⟩, ⟨(some 29), .unOp .not 4 (.tmp 28), (some (27, true))⟩, ⟨(some 30), .pick (.tmp 27) (.tmp 29) (.const (.bool false)), (some (21, false))⟩, ⟨(some 31), .pick (.tmp 21) (.const (.bool true)) (.tmp 30), none⟩]
abbrev s111_3 : SC := .region [⟨(some 32), .load 26 (.tmp 2), none⟩, ⟨none, .store 26 (.tmp 4) (.tmp 32), none⟩, ⟨(some 5), .assign (.const (.bool false)), none⟩]
abbrev s111_4 : SC := .seq s111_3 .ret
abbrev s111_5 : SC := .cond (.tmp 31) s111_4 .skip
abbrev s111_6 : SC := .seq s111_2 s111_5
abbrev s111_7 : SC := .region [⟨(some 33), .move (.tmp 6), none⟩]
abbrev s111_8 : SC := .region [⟨(some 34), .fieldAddr 26 (.tmp 2) 1, none⟩, ⟨(some 35), .load 22 (.tmp 34), none⟩, ⟨(some 36), .binOp .add 22 (.tmp 35) (.const (.int .u64 1)) 22, none⟩, ⟨(some 37), .fieldAddr 26 (.tmp 2) 1, none⟩, ⟨none, .store 22 (.tmp 37) (.tmp 36), none⟩]
abbrev s111_9 : SC := .cond (.tmp 33) s111_8 .skip
abbrev s111_10 : SC := .seq s111_7 s111_9
abbrev s111_11 : SC := .region [⟨(some 38), .fieldAddr 26 (.tmp 2) 2, none⟩, ⟨(some 39), .load 22 (.tmp 38), none⟩, ⟨(some 40), .move (.tmp 1), none⟩, ⟨(some 41), .binOp .eql 22 (.tmp 39) (.tmp 40) 22, none⟩]
abbrev s111_12 : SC := .region [⟨(some 42), .move (.tmp 1), none⟩, ⟨(some 43), .binOp .eql 22 (.tmp 42) (.const (.int .u64 0)) 22, none⟩]
abbrev s111_13 : SC := .region [⟨(some 44), .load 26 (.tmp 2), none⟩, ⟨none, .store 26 (.tmp 4) (.tmp 44), none⟩, ⟨(some 5), .assign (.const (.bool false)), none⟩]
abbrev s111_14 : SC := .seq s111_13 .ret
abbrev s111_15 : SC := .cond (.tmp 43) s111_14 .skip
abbrev s111_16 : SC := .seq s111_12 s111_15
abbrev s111_17 : SC := .region [⟨(some 45), .fieldAddr 26 (.tmp 2) 2, none⟩, ⟨(some 46), .load 22 (.tmp 45), none⟩, ⟨(some 47), .binOp .sub 22 (.tmp 46) (.const (.int .u64 1)) 22, none⟩, ⟨(some 48), .fieldAddr 26 (.tmp 2) 2, none⟩, ⟨none, .store 22 (.tmp 48) (.tmp 47), none⟩]
abbrev s111_18 : SC := .seq s111_16 s111_17
abbrev s111_19 : SC := .cond (.tmp 41) s111_18 .skip
abbrev s111_20 : SC := .seq s111_11 s111_19
abbrev s111_21 : SC := .draw [(⟨(some 49), .load 26 (.tmp 2), none⟩, ⟨[2], [], false, false⟩), (⟨(some 50), .fieldAddr 26 (.tmp 2) 1, none⟩, ⟨[], [], false, false⟩), (⟨(some 51), .load 22 (.tmp 50), none⟩, ⟨[2], [], false, false⟩), (⟨(some 52), .fieldAddr 26 (.tmp 2) 2, none⟩, ⟨[], [], false, false⟩), (⟨(some 53), .load 22 (.tmp 52), none⟩, ⟨[2], [], false, false⟩), (⟨(some 54), .binOp .leq 22 (.tmp 51) (.tmp 53) 22, none⟩, ⟨[], [], false, false⟩), (⟨none, .store 26 (.tmp 4) (.tmp 49), none⟩, ⟨[], [4], false, false⟩), (⟨(some 5), .assign (.tmp 54), none⟩, ⟨[], [], false, false⟩)]
abbrev s111_22 : SC := .seq s111_21 .ret
abbrev s111_23 : SC := .seq s111_20 s111_22
abbrev s111_24 : SC := .seq s111_10 s111_23
abbrev s111_25 : SC := .seq s111_6 s111_24
abbrev s111_26 : SC := .seq s111_1 s111_25
abbrev s111_27 : SC := .seq s111_0 s111_26
noncomputable def c111 : Code := match Try.f111.body with | some c => c | none => .skip
theorem b111 : Try.f111.body = some c111 := by kernel_rfl
theorem sc111 : toSC C111 c111 = some s111_27 := by kernel_rfl
set_option maxRecDepth 100000 in
theorem run111 {args : List AV} {H : Heap} {R : Out → Heap → Prop} (hl : args.length ≤ 55) (h : SWp Try.prog C111 s111_27 (finK [.cell 4 26, .tmp 5] R) ⟨argSlots 0 args, [], H⟩) : ∃ out H', CallRuns Try.prog 111 args H out H' ∧ R out H' :=
  callRuns_of (C := C111) (by kernel_rfl) hD hZ Try.func111 b111 Try.ntmps111 Try.call111 sc111 (by kernel_rfl) hl h

-- function 70: portcullis/branch.differ
def C70 : Cfg := ⟨63, [2, 3, 4, 5], zget ztab⟩
@[simp] theorem L70 : C70.L = [2, 3, 4, 5] := rfl
@[simp] theorem Z70 : C70.Z = zget ztab := rfl
abbrev s70_0 : SC := .region [⟨(some 2), .box 26 (.tmp 0), none⟩, ⟨(some 3), .box 26 (.tmp 1), none⟩, ⟨(some 4), .alloc 26, none⟩, ⟨(some 5), .alloc 26, none⟩, ⟨(some 6), .assign (.const (.bool false)), none⟩]
abbrev s70_1 : SC := .region [⟨(some 14), .load 26 (.tmp 2), none⟩, ⟨(some 15), .call ⟨.value (.func 67), #[.tmp 14], #[26]⟩, none⟩, ⟨(some 13), .move (.tmp 15), none⟩, ⟨(some 16), .extract (.tmp 13) 0, none⟩, ⟨(some 17), .extract (.tmp 13) 1, none⟩, ⟨(some 7), .assign (.tmp 16), none⟩, ⟨(some 8), .assign (.tmp 17), none⟩]
abbrev s70_2 : SC := .region [⟨(some 19), .load 26 (.tmp 3), none⟩, ⟨(some 20), .call ⟨.value (.func 67), #[.tmp 19], #[26]⟩, none⟩, ⟨(some 18), .move (.tmp 20), none⟩, ⟨(some 21), .extract (.tmp 18) 0, none⟩, ⟨(some 22), .extract (.tmp 18) 1, none⟩, ⟨(some 9), .assign (.tmp 21), none⟩, ⟨(some 10), .assign (.tmp 22), none⟩]
abbrev s70_3 : SC := .region [⟨(some 23), .move (.tmp 8), none⟩, ⟨(some 24), .move (.tmp 23), none⟩, ⟨(some 25), .move (.tmp 10), (some (24, true))⟩, ⟨(some 26), .pick (.tmp 24) (.tmp 25) (.const (.bool false)), none⟩, ⟨(some 27), .move (.tmp 26), none⟩, ⟨(some 28), .move (.tmp 7), (some (27, true))⟩, ⟨(some 29), .move (.tmp 9), (some (27, true))⟩, ⟨(some 30), .binOp .eql 22 (.tmp 28) (.tmp 29) 22, (some (27, true))⟩, ⟨(some 31), .pick (.tmp 27) (.tmp 30) (.const (.bool false)), none⟩, ⟨(some 32), .unOp .not 4 (.tmp 31), none⟩, ⟨(some 11), .assign (.tmp 32), none⟩, ⟨(some 12), .assign (.const (.bool true)), none⟩]
abbrev s70_4 : SC := .region [⟨(some 33), .move (.tmp 10), none⟩, ⟨(some 34), .move (.tmp 33), none⟩, ⟨(some 35), .move (.tmp 11), (some (34, true))⟩, ⟨(some 36), .pick (.tmp 34) (.tmp 35) (.const (.bool false)), none⟩]
abbrev s70_5 : SC := .region [⟨(some 38), .load 26 (.tmp 2), none⟩, ⟨(some 39), .move (.tmp 9), none⟩, ⟨(some 40), .call ⟨.value (.func 111), #[.tmp 38, .tmp 39], #[26, 22]⟩, none⟩, ⟨(some 37), .move (.tmp 40), none⟩, ⟨(some 41), .extract (.tmp 37) 0, none⟩, ⟨(some 42), .extract (.tmp 37) 1, none⟩, ⟨none, .store 26 (.tmp 2) (.tmp 41), none⟩, ⟨(some 11), .assign (.tmp 42), none⟩]
abbrev s70_6 : SC := .cond (.tmp 36) s70_5 .skip
abbrev s70_7 : SC := .seq s70_4 s70_6
abbrev s70_8 : SC := .region [⟨(some 43), .move (.tmp 8), none⟩, ⟨(some 44), .move (.tmp 43), none⟩, ⟨(some 45), .move (.tmp 11), (some (44, true))⟩, ⟨(some 46), .pick (.tmp 44) (.tmp 45) (.const (.bool false)), none⟩]
abbrev s70_9 : SC := .region [⟨(some 48), .load 26 (.tmp 3), none⟩, ⟨(some 49), .move (.tmp 7), none⟩, ⟨(some 50), .call ⟨.value (.func 111), #[.tmp 48, .tmp 49], #[26, 22]⟩, none⟩, ⟨(some 47), .move (.tmp 50), none⟩, ⟨(some 51), .extract (.tmp 47) 0, none⟩, ⟨(some 52), .extract (.tmp 47) 1, none⟩, ⟨none, .store 26 (.tmp 3) (.tmp 51), none⟩, ⟨(some 12), .assign (.tmp 52), none⟩]
abbrev s70_10 : SC := .cond (.tmp 46) s70_9 .skip
abbrev s70_11 : SC := .seq s70_8 s70_10
abbrev s70_12 : SC := .region [⟨(some 53), .load 26 (.tmp 2), none⟩, ⟨(some 54), .load 26 (.tmp 3), none⟩, ⟨(some 55), .move (.tmp 11), none⟩, ⟨(some 56), .move (.tmp 55), none⟩, ⟨(some 57), .move (.tmp 12), (some (56, true))⟩, ⟨(some 58), .pick (.tmp 56) (.tmp 57) (.const (.bool false)), none⟩, ⟨(some 59), .call ⟨.value (.func 69), #[.tmp 53, .tmp 54, .tmp 58], #[26, 26, 4]⟩, none⟩, ⟨(some 60), .extract (.tmp 59) 0, none⟩, ⟨(some 61), .extract (.tmp 59) 1, none⟩, ⟨(some 62), .extract (.tmp 59) 2, none⟩, ⟨none, .store 26 (.tmp 4) (.tmp 60), none⟩, ⟨none, .store 26 (.tmp 5) (.tmp 61), none⟩, ⟨(some 6), .assign (.tmp 62), none⟩]
abbrev s70_13 : SC := .seq s70_12 .ret
abbrev s70_14 : SC := .seq s70_11 s70_13
abbrev s70_15 : SC := .seq s70_7 s70_14
abbrev s70_16 : SC := .seq s70_3 s70_15
abbrev s70_17 : SC := .seq s70_2 s70_16
abbrev s70_18 : SC := .seq s70_1 s70_17
abbrev s70_19 : SC := .seq s70_0 s70_18
noncomputable def c70 : Code := match Try.f70.body with | some c => c | none => .skip
theorem b70 : Try.f70.body = some c70 := by kernel_rfl
theorem sc70 : toSC C70 c70 = some s70_19 := by kernel_rfl
set_option maxRecDepth 100000 in
theorem run70 {args : List AV} {H : Heap} {R : Out → Heap → Prop} (hl : args.length ≤ 63) (h : SWp Try.prog C70 s70_19 (finK [.cell 4 26, .cell 5 26, .tmp 6] R) ⟨argSlots 0 args, [], H⟩) : ∃ out H', CallRuns Try.prog 70 args H out H' ∧ R out H' :=
  callRuns_of (C := C70) (by kernel_rfl) hD hZ Try.func70 b70 Try.ntmps70 Try.call70 sc70 (by kernel_rfl) hl h

-- function 22: portcullis/branch.Refine
def C22 : Cfg := ⟨220, [6, 7, 8, 9, 15, 16, 18], zget ztab⟩
@[simp] theorem L22 : C22.L = [6, 7, 8, 9, 15, 16, 18] := rfl
@[simp] theorem Z22 : C22.Z = zget ztab := rfl
abbrev s22_0 : SC := .region [⟨(some 6), .box 26 (.tmp 2), none⟩, ⟨(some 7), .box 26 (.tmp 3), none⟩, ⟨(some 8), .alloc 26, none⟩, ⟨(some 9), .alloc 26, none⟩, ⟨(some 10), .assign (.const (.bool false)), none⟩]
abbrev s22_1 : SC := .region [⟨(some 11), .assign (.const (.int .u64 9223372036854775808)), none⟩]
abbrev s22_2 : SC := .region [⟨(some 21), .move (.tmp 1), none⟩, ⟨(some 22), .unOp .not 4 (.tmp 21), none⟩]
abbrev s22_3 : SC := .region [⟨(some 11), .assign (.const (.int .u64 2147483648)), none⟩]
abbrev s22_4 : SC := .region [⟨(some 23), .fieldAddr 26 (.tmp 6) 2, none⟩, ⟨(some 24), .load 22 (.tmp 23), none⟩, ⟨(some 25), .fieldAddr 26 (.tmp 7) 2, none⟩, ⟨(some 26), .load 22 (.tmp 25), none⟩, ⟨(some 27), .binOp .or 22 (.tmp 24) (.tmp 26) 22, none⟩, ⟨(some 28), .binOp .shr 22 (.tmp 27) (.const (.int .u64 32)) 93, none⟩, ⟨(some 29), .binOp .neq 22 (.tmp 28) (.const (.int .u64 0)) 22, none⟩]
abbrev s22_5 : SC := .draw [(⟨(some 30), .load 26 (.tmp 6), none⟩, ⟨[6], [], false, false⟩), (⟨(some 31), .load 26 (.tmp 7), none⟩, ⟨[7], [], false, false⟩), (⟨none, .store 26 (.tmp 8) (.tmp 30), none⟩, ⟨[], [8], false, false⟩), (⟨none, .store 26 (.tmp 9) (.tmp 31), none⟩, ⟨[], [9], false, false⟩), (⟨(some 10), .assign (.const (.bool true)), none⟩, ⟨[], [], false, false⟩)]
abbrev s22_6 : SC := .seq s22_5 .ret
abbrev s22_7 : SC := .cond (.tmp 29) s22_6 .skip
abbrev s22_8 : SC := .seq s22_4 s22_7
abbrev s22_9 : SC := .seq s22_3 s22_8
abbrev s22_10 : SC := .cond (.tmp 22) s22_9 .skip
abbrev s22_11 : SC := .seq s22_2 s22_10
abbrev s22_12 : SC := .region [⟨(some 32), .move (.tmp 0), none⟩, ⟨(some 33), .call ⟨.value (.func 26), #[.tmp 32], #[3]⟩, none⟩, ⟨(some 34), .binOp .lss 3 (.tmp 33) (.const (.int .i64 0)) 3, none⟩, ⟨(some 35), .move (.tmp 34), none⟩, ⟨(some 36), .move (.tmp 0), (some (35, false))⟩, ⟨(some 37), .call ⟨.value (.func 66), #[.tmp 36], #[3]⟩, (some (35, false))⟩, ⟨(some 38), .move (.tmp 0), (some (35, false))⟩, ⟨(some 39), .binOp .neq 3 (.tmp 37) (.tmp 38) 3, (some (35, false))⟩, ⟨(some 40), .move (.tmp 39), (some (35, false))⟩, ⟨(some 41), .fieldAddr 26 (.tmp 6) 2, (some (40, true))⟩, ⟨(some 42), .load 22 (.tmp 41), (some (40, true))⟩, ⟨(some 43), .move (.tmp 11), (some (40, true))⟩, ⟨(some 44), .binOp .geq 22 (.tmp 42) (.tmp 43) 22, (some (40, true))⟩, ⟨(some 45), .move (.tmp 44), (some (40, true))⟩, ⟨(some 46), .fieldAddr 26 (.tmp 7) 2, (some (45, false))⟩, ⟨(some 47), .load 22 (.tmp 46), (some (45, false))⟩, ⟨(some 48), .move (.tmp 11), (some (45, false))⟩, ⟨(some 49), .binOp .geq 22 (.tmp 47) (.tmp 48) 22, (some (45, false))⟩, ⟨(some 50), .pick (.tmp 45) (.const (.bool true)) (.tmp 49), (some (40, true))⟩, ⟨(some 51), .pick (.tmp 40) (.tmp 50) (.const (.bool false)), (some (35, false))⟩, ⟨(some 52), .pick (.tmp 35) (.const (.bool true)) (.tmp 51), none⟩]
abbrev s22_13 : SC := .draw [(⟨(some 53), .load 26 (.tmp 6), none⟩, ⟨[6], [], false, false⟩), (⟨(some 54), .load 26 (.tmp 7), none⟩, ⟨[7], [], false, false⟩), (⟨none, .store 26 (.tmp 8) (.tmp 53), none⟩, ⟨[], [8], false, false⟩), (⟨none, .store 26 (.tmp 9) (.tmp 54), none⟩, ⟨[], [9], false, false⟩), (⟨(some 10), .assign (.const (.bool true)), none⟩, ⟨[], [], false, false⟩)]
abbrev s22_14 : SC := .seq s22_13 .ret
abbrev s22_15 : SC := .cond (.tmp 52) s22_14 .skip
abbrev s22_16 : SC := .seq s22_12 s22_15
abbrev s22_17 : SC := .region [⟨(some 12), .assign (.const (.bool false)), none⟩]
abbrev s22_18 : SC := .region [⟨(some 55), .move (.tmp 0), none⟩, ⟨(some 56), .call ⟨.value (.func 66), #[.tmp 55], #[3]⟩, none⟩, ⟨(some 0), .assign (.tmp 56), none⟩]
abbrev s22_19 : SC := .region [⟨(some 58), .load 26 (.tmp 7), none⟩, ⟨(some 59), .call ⟨.value (.func 67), #[.tmp 58], #[26]⟩, none⟩, ⟨(some 57), .move (.tmp 59), none⟩, ⟨(some 60), .extract (.tmp 57) 0, none⟩, ⟨(some 61), .extract (.tmp 57) 1, none⟩, ⟨(some 13), .assign (.tmp 60), none⟩, ⟨(some 14), .assign (.tmp 61), none⟩]
abbrev s22_20 : SC := .region [⟨(some 62), .fieldAddr 26 (.tmp 6) 0, none⟩, ⟨(some 63), .load 24 (.tmp 62), none⟩, ⟨(some 15), .alloc 24, none⟩, ⟨none, .store 24 (.tmp 15) (.tmp 63), none⟩]
abbrev s22_21 : SC := .region [⟨(some 64), .move (.tmp 0), none⟩]
abbrev s22_22 : SC := .region [⟨(some 66), .binOp .eql 3 (.tmp 64) (.const (.int .i64 160)) 3, none⟩, ⟨(some 65), .assign (.tmp 66), none⟩]
abbrev s22_23 : SC := .region [⟨(some 67), .binOp .eql 3 (.tmp 64) (.const (.int .i64 176)) 3, none⟩, ⟨(some 65), .assign (.tmp 67), none⟩]
abbrev s22_24 : SC := .cond (.tmp 65) .skip s22_23
abbrev s22_25 : SC := .seq s22_22 s22_24
abbrev s22_26 : SC := .region [⟨(some 68), .load 26 (.tmp 7), none⟩, ⟨(some 69), .load 26 (.tmp 6), none⟩, ⟨none, .store 26 (.tmp 6) (.tmp 68), none⟩, ⟨none, .store 26 (.tmp 7) (.tmp 69), none⟩, ⟨(some 12), .assign (.const (.bool true)), none⟩]
abbrev s22_27 : SC := .region [⟨(some 70), .makeMap 80 none, none⟩, ⟨none, .insert 80 (.tmp 70) (.const (.int .i64 160)) (.const (.int .i64 32)), none⟩, ⟨none, .insert 80 (.tmp 70) (.const (.int .i64 176)) (.const (.int .i64 48)), none⟩, ⟨(some 71), .move (.tmp 70), none⟩, ⟨(some 72), .move (.tmp 0), none⟩, ⟨(some 73), .lookup 80 (.tmp 71) (.tmp 72) false, none⟩, ⟨(some 0), .assign (.tmp 73), none⟩]
abbrev s22_28 : SC := .seq s22_27 (.goto 0)
abbrev s22_29 : SC := .seq s22_26 s22_28
abbrev s22_30 : SC := .region [⟨(some 75), .binOp .eql 3 (.tmp 64) (.const (.int .i64 16)) 3, none⟩, ⟨(some 74), .assign (.tmp 75), none⟩]
abbrev s22_31 : SC := .region [⟨(some 77), .fieldAddr 26 (.tmp 6) 0, none⟩, ⟨(some 78), .load 24 (.tmp 77), none⟩, ⟨(some 79), .fieldAddr 26 (.tmp 7) 0, none⟩, ⟨(some 80), .load 24 (.tmp 79), none⟩, ⟨(some 81), .call ⟨.value (.func 68), #[.tmp 78, .tmp 80], #[24, 24]⟩, none⟩, ⟨(some 76), .move (.tmp 81), none⟩, ⟨(some 82), .extract (.tmp 76) 0, none⟩, ⟨(some 83), .extract (.tmp 76) 1, none⟩, ⟨(some 16), .alloc 24, none⟩, ⟨none, .store 24 (.tmp 16) (.tmp 82), none⟩, ⟨(some 17), .assign (.tmp 83), none⟩]
abbrev s22_32 : SC := .region [⟨(some 84), .load 24 (.tmp 16), none⟩, ⟨(some 85), .fieldAddr 26 (.tmp 6) 1, none⟩, ⟨(some 86), .load 22 (.tmp 85), none⟩, ⟨(some 87), .fieldAddr 26 (.tmp 7) 1, none⟩, ⟨(some 88), .load 22 (.tmp 87), none⟩, ⟨(some 89), .call ⟨.builtin .max, #[.tmp 86, .tmp 88], #[22, 22]⟩, none⟩, ⟨(some 90), .fieldAddr 26 (.tmp 6) 2, none⟩, ⟨(some 91), .load 22 (.tmp 90), none⟩, ⟨(some 92), .fieldAddr 26 (.tmp 7) 2, none⟩, ⟨(some 93), .load 22 (.tmp 92), none⟩, ⟨(some 94), .call ⟨.builtin .min, #[.tmp 91, .tmp 93], #[22, 22]⟩, none⟩, ⟨(some 95), .build 26 #[(0, .tmp 84), (1, .tmp 89), (2, .tmp 94)], none⟩, ⟨(some 18), .alloc 26, none⟩, ⟨none, .store 26 (.tmp 18) (.tmp 95), none⟩]
abbrev s22_33 : SC := .region [⟨(some 96), .load 26 (.tmp 18), none⟩, ⟨(some 97), .load 26 (.tmp 18), none⟩, ⟨(some 98), .move (.tmp 17), none⟩, ⟨(some 99), .call ⟨.value (.func 69), #[.tmp 96, .tmp 97, .tmp 98], #[26, 26, 4]⟩, none⟩, ⟨(some 100), .extract (.tmp 99) 0, none⟩, ⟨(some 101), .extract (.tmp 99) 1, none⟩, ⟨(some 102), .extract (.tmp 99) 2, none⟩, ⟨none, .store 26 (.tmp 8) (.tmp 100), none⟩, ⟨none, .store 26 (.tmp 9) (.tmp 101), none⟩, ⟨(some 10), .assign (.tmp 102), none⟩]
abbrev s22_34 : SC := .seq s22_33 .ret
abbrev s22_35 : SC := .seq s22_32 s22_34
abbrev s22_36 : SC := .seq s22_31 s22_35
abbrev s22_37 : SC := .region [⟨(some 104), .binOp .eql 3 (.tmp 64) (.const (.int .i64 80)) 3, none⟩, ⟨(some 103), .assign (.tmp 104), none⟩]
abbrev s22_38 : SC := .region [⟨(some 105), .load 26 (.tmp 6), none⟩, ⟨(some 106), .load 26 (.tmp 7), none⟩, ⟨(some 107), .call ⟨.value (.func 70), #[.tmp 105, .tmp 106], #[26, 26]⟩, none⟩, ⟨(some 108), .extract (.tmp 107) 0, none⟩, ⟨(some 109), .extract (.tmp 107) 1, none⟩, ⟨(some 110), .extract (.tmp 107) 2, none⟩, ⟨none, .store 26 (.tmp 8) (.tmp 108), none⟩, ⟨none, .store 26 (.tmp 9) (.tmp 109), none⟩, ⟨(some 10), .assign (.tmp 110), none⟩]
abbrev s22_39 : SC := .seq s22_38 .ret
abbrev s22_40 : SC := .region [⟨(some 112), .binOp .eql 3 (.tmp 64) (.const (.int .i64 32)) 3, none⟩, ⟨(some 111), .assign (.tmp 112), none⟩]
abbrev s22_41 : SC := .region [⟨(some 113), .binOp .eql 3 (.tmp 64) (.const (.int .i64 48)) 3, none⟩, ⟨(some 111), .assign (.tmp 113), none⟩]
abbrev s22_42 : SC := .cond (.tmp 111) .skip s22_41
abbrev s22_43 : SC := .seq s22_40 s22_42
abbrev s22_44 : SC := .region [⟨(some 114), .move (.tmp 0), none⟩, ⟨(some 115), .binOp .eql 3 (.tmp 114) (.const (.int .i64 48)) 3, none⟩, ⟨(some 116), .move (.tmp 115), none⟩, ⟨(some 117), .fieldAddr 26 (.tmp 7) 1, (some (116, false))⟩, ⟨(some 118), .load 22 (.tmp 117), (some (116, false))⟩, ⟨(some 119), .binOp .neq 22 (.tmp 118) (.const (.int .u64 18446744073709551615)) 22, (some (116, false))⟩, ⟨(some 120), .move (.tmp 119), (some (116, false))⟩, ⟨(some 121), .fieldAddr 26 (.tmp 6) 2, (some (120, true))⟩, ⟨(some 122), .load 22 (.tmp 121), (some (120, true))⟩, ⟨(some 123), .binOp .neq 22 (.tmp 122) (.const (.int .u64 0)) 22, (some (120, true))⟩, ⟨(some 124), .pick (.tmp 120) (.tmp 123) (.const (.bool false)), (some (116, false))⟩, ⟨(some 125), .pick (.tmp 116) (.const (.bool true)) (.tmp 124), none⟩, ⟨(some 19), .assign (.tmp 125), none⟩]
abbrev s22_45 : SC := .region [⟨(some 126), .move (.tmp 19), none⟩]
abbrev s22_46 : SC := .region [⟨(some 20), .assign (.const (.int .u64 0)), none⟩]
abbrev s22_47 : SC := .region [⟨(some 127), .move (.tmp 0), none⟩, ⟨(some 128), .binOp .eql 3 (.tmp 127) (.const (.int .i64 32)) 3, none⟩]
abbrev s22_48 : SC := .region [⟨(some 20), .assign (.const (.int .u64 1)), none⟩]
abbrev s22_49 : SC := .cond (.tmp 128) s22_48 .skip
abbrev s22_50 : SC := .seq s22_47 s22_49
abbrev s22_51 : SC := .draw [(⟨(some 129), .fieldAddr 26 (.tmp 6) 1, none⟩, ⟨[], [], false, false⟩), (⟨(some 130), .load 22 (.tmp 129), none⟩, ⟨[6], [], false, false⟩), (⟨(some 131), .fieldAddr 26 (.tmp 7) 1, none⟩, ⟨[], [], false, false⟩), (⟨(some 132), .load 22 (.tmp 131), none⟩, ⟨[7], [], false, false⟩), (⟨(some 133), .move (.tmp 20), none⟩, ⟨[], [], false, false⟩), (⟨(some 134), .binOp .add 22 (.tmp 132) (.tmp 133) 22, none⟩, ⟨[], [], false, false⟩), (⟨(some 135), .call ⟨.builtin .max, #[.tmp 130, .tmp 134], #[22, 22]⟩, none⟩, ⟨[], [], false, false⟩), (⟨(some 136), .fieldAddr 26 (.tmp 7) 2, none⟩, ⟨[], [], false, false⟩), (⟨(some 137), .load 22 (.tmp 136), none⟩, ⟨[7], [], false, false⟩), (⟨(some 138), .fieldAddr 26 (.tmp 6) 2, none⟩, ⟨[], [], false, false⟩), (⟨(some 139), .load 22 (.tmp 138), none⟩, ⟨[6], [], false, false⟩), (⟨(some 140), .move (.tmp 20), none⟩, ⟨[], [], false, false⟩), (⟨(some 141), .binOp .sub 22 (.tmp 139) (.tmp 140) 22, none⟩, ⟨[], [], false, false⟩), (⟨(some 142), .call ⟨.builtin .min, #[.tmp 137, .tmp 141], #[22, 22]⟩, none⟩, ⟨[], [], false, false⟩), (⟨(some 143), .fieldAddr 26 (.tmp 6) 1, none⟩, ⟨[], [], false, false⟩), (⟨none, .store 22 (.tmp 143) (.tmp 135), none⟩, ⟨[], [6], false, false⟩), (⟨(some 144), .fieldAddr 26 (.tmp 7) 2, none⟩, ⟨[], [], false, false⟩), (⟨none, .store 22 (.tmp 144) (.tmp 142), none⟩, ⟨[], [7], false, false⟩)]
abbrev s22_52 : SC := .seq s22_50 s22_51
abbrev s22_53 : SC := .seq s22_46 s22_52
abbrev s22_54 : SC := .cond (.tmp 126) s22_53 .skip
abbrev s22_55 : SC := .seq s22_45 s22_54
abbrev s22_56 : SC := .region [⟨(some 145), .move (.tmp 12), none⟩]
abbrev s22_57 : SC := .region [⟨(some 146), .load 26 (.tmp 7), none⟩, ⟨(some 147), .load 26 (.tmp 6), none⟩, ⟨none, .store 26 (.tmp 6) (.tmp 146), none⟩, ⟨none, .store 26 (.tmp 7) (.tmp 147), none⟩]
abbrev s22_58 : SC := .cond (.tmp 145) s22_57 .skip
abbrev s22_59 : SC := .seq s22_56 s22_58
abbrev s22_60 : SC := .region [⟨(some 148), .load 26 (.tmp 6), none⟩, ⟨(some 149), .load 26 (.tmp 7), none⟩, ⟨(some 150), .move (.tmp 19), none⟩, ⟨(some 151), .call ⟨.value (.func 69), #[.tmp 148, .tmp 149, .tmp 150], #[26, 26, 4]⟩, none⟩, ⟨(some 152), .extract (.tmp 151) 0, none⟩, ⟨(some 153), .extract (.tmp 151) 1, none⟩, ⟨(some 154), .extract (.tmp 151) 2, none⟩, ⟨none, .store 26 (.tmp 8) (.tmp 152), none⟩, ⟨none, .store 26 (.tmp 9) (.tmp 153), none⟩, ⟨(some 10), .assign (.tmp 154), none⟩]
abbrev s22_61 : SC := .seq s22_60 .ret
abbrev s22_62 : SC := .seq s22_59 s22_61
abbrev s22_63 : SC := .seq s22_55 s22_62
abbrev s22_64 : SC := .seq s22_44 s22_63
abbrev s22_65 : SC := .region [⟨(some 156), .binOp .eql 3 (.tmp 64) (.const (.int .i64 64)) 3, none⟩, ⟨(some 155), .assign (.tmp 156), none⟩]
abbrev s22_66 : SC := .region [⟨(some 157), .move (.tmp 14), none⟩, ⟨(some 158), .move (.tmp 157), none⟩, ⟨(some 159), .move (.tmp 13), (some (158, true))⟩, ⟨(some 160), .binOp .neq 22 (.tmp 159) (.const (.int .u64 0)) 22, (some (158, true))⟩, ⟨(some 161), .pick (.tmp 158) (.tmp 160) (.const (.bool false)), none⟩, ⟨(some 162), .move (.tmp 161), none⟩, ⟨(some 163), .move (.tmp 13), (some (162, true))⟩, ⟨(some 164), .move (.tmp 13), (some (162, true))⟩, ⟨(some 165), .binOp .sub 22 (.tmp 164) (.const (.int .u64 1)) 22, (some (162, true))⟩, ⟨(some 166), .binOp .and 22 (.tmp 163) (.tmp 165) 22, (some (162, true))⟩, ⟨(some 167), .binOp .eql 22 (.tmp 166) (.const (.int .u64 0)) 22, (some (162, true))⟩, ⟨(some 168), .pick (.tmp 162) (.tmp 167) (.const (.bool false)), none⟩]
abbrev s22_67 : SC := .region [⟨(some 169), .fieldAddr 24 (.tmp 15) 0, none⟩, ⟨(some 170), .load 22 (.tmp 169), none⟩, ⟨(some 171), .move (.tmp 13), none⟩, ⟨(some 172), .binOp .or 22 (.tmp 170) (.tmp 171) 22, none⟩, ⟨(some 173), .fieldAddr 24 (.tmp 15) 1, none⟩, ⟨(some 174), .load 22 (.tmp 173), none⟩, ⟨(some 175), .move (.tmp 13), none⟩, ⟨(some 176), .binOp .andNot 22 (.tmp 174) (.tmp 175) 22, none⟩, ⟨(some 177), .build 24 #[(0, .tmp 172), (1, .tmp 176)], none⟩, ⟨(some 178), .fieldAddr 26 (.tmp 6) 0, none⟩, ⟨none, .store 24 (.tmp 178) (.tmp 177), none⟩]
abbrev s22_68 : SC := .cond (.tmp 168) s22_67 .skip
abbrev s22_69 : SC := .seq s22_66 s22_68
abbrev s22_70 : SC := .region [⟨(some 179), .load 26 (.tmp 6), none⟩, ⟨(some 180), .load 26 (.tmp 7), none⟩, ⟨(some 181), .fieldAddr 24 (.tmp 15) 0, none⟩, ⟨(some 182), .load 22 (.tmp 181), none⟩, ⟨(some 183), .fieldAddr 24 (.tmp 15) 1, none⟩, ⟨(some 184), .load 22 (.tmp 183), none⟩, ⟨(some 185), .binOp .or 22 (.tmp 182) (.tmp 184) 22, none⟩, ⟨(some 186), .fieldAddr 26 (.tmp 7) 0, none⟩, ⟨(some 187), .fieldAddr 24 (.tmp 186) 0, none⟩, ⟨(some 188), .load 22 (.tmp 187), none⟩, ⟨(some 189), .fieldAddr 26 (.tmp 7) 0, none⟩, ⟨(some 190), .fieldAddr 24 (.tmp 189) 1, none⟩, ⟨(some 191), .load 22 (.tmp 190), none⟩, ⟨(some 192), .binOp .or 22 (.tmp 188) (.tmp 191) 22, none⟩, ⟨(some 193), .binOp .and 22 (.tmp 185) (.tmp 192) 22, none⟩, ⟨(some 194), .binOp .neq 22 (.tmp 193) (.const (.int .u64 0)) 22, none⟩, ⟨(some 195), .call ⟨.value (.func 69), #[.tmp 179, .tmp 180, .tmp 194], #[26, 26, 4]⟩, none⟩, ⟨(some 196), .extract (.tmp 195) 0, none⟩, ⟨(some 197), .extract (.tmp 195) 1, none⟩, ⟨(some 198), .extract (.tmp 195) 2, none⟩, ⟨none, .store 26 (.tmp 8) (.tmp 196), none⟩, ⟨none, .store 26 (.tmp 9) (.tmp 197), none⟩, ⟨(some 10), .assign (.tmp 198), none⟩]
abbrev s22_71 : SC := .seq s22_70 .ret
abbrev s22_72 : SC := .seq s22_69 s22_71
abbrev s22_73 : SC := .cond (.tmp 155) s22_72 .skip
abbrev s22_74 : SC := .seq s22_65 s22_73
abbrev s22_75 : SC := .cond (.tmp 111) s22_64 s22_74
abbrev s22_76 : SC := .seq s22_43 s22_75
abbrev s22_77 : SC := .cond (.tmp 103) s22_39 s22_76
abbrev s22_78 : SC := .seq s22_37 s22_77
abbrev s22_79 : SC := .cond (.tmp 74) s22_36 s22_78
abbrev s22_80 : SC := .seq s22_30 s22_79
abbrev s22_81 : SC := .cond (.tmp 65) s22_29 s22_80
abbrev s22_82 : SC := .seq s22_25 s22_81
abbrev s22_83 : SC := .block 0 s22_82
abbrev s22_84 : SC := .seq s22_21 s22_83
abbrev s22_85 : SC := .region [⟨(some 199), .move (.tmp 14), none⟩]
abbrev s22_86 : SC := .region [⟨(some 200), .fieldAddr 26 (.tmp 6) 0, none⟩, ⟨(some 201), .fieldAddr 24 (.tmp 200) 1, none⟩, ⟨(some 202), .load 22 (.tmp 201), none⟩, ⟨(some 203), .move (.tmp 13), none⟩, ⟨(some 204), .binOp .andNot 22 (.tmp 202) (.tmp 203) 22, none⟩, ⟨(some 205), .fieldAddr 26 (.tmp 6) 0, none⟩, ⟨(some 206), .fieldAddr 24 (.tmp 205) 1, none⟩, ⟨none, .store 22 (.tmp 206) (.tmp 204), none⟩]
abbrev s22_87 : SC := .cond (.tmp 199) s22_86 .skip
abbrev s22_88 : SC := .seq s22_85 s22_87
abbrev s22_89 : SC := .region [⟨(some 207), .load 26 (.tmp 6), none⟩, ⟨(some 208), .load 26 (.tmp 7), none⟩, ⟨(some 209), .fieldAddr 24 (.tmp 15) 0, none⟩, ⟨(some 210), .load 22 (.tmp 209), none⟩, ⟨(some 211), .fieldAddr 26 (.tmp 7) 0, none⟩, ⟨(some 212), .fieldAddr 24 (.tmp 211) 0, none⟩, ⟨(some 213), .load 22 (.tmp 212), none⟩, ⟨(some 214), .binOp .and 22 (.tmp 210) (.tmp 213) 22, none⟩, ⟨(some 215), .binOp .eql 22 (.tmp 214) (.const (.int .u64 0)) 22, none⟩, ⟨(some 216), .call ⟨.value (.func 69), #[.tmp 207, .tmp 208, .tmp 215], #[26, 26, 4]⟩, none⟩, ⟨(some 217), .extract (.tmp 216) 0, none⟩, ⟨(some 218), .extract (.tmp 216) 1, none⟩, ⟨(some 219), .extract (.tmp 216) 2, none⟩, ⟨none, .store 26 (.tmp 8) (.tmp 217), none⟩, ⟨none, .store 26 (.tmp 9) (.tmp 218), none⟩, ⟨(some 10), .assign (.tmp 219), none⟩]
abbrev s22_90 : SC := .seq s22_89 .ret
abbrev s22_91 : SC := .seq s22_88 s22_90
abbrev s22_92 : SC := .seq s22_84 s22_91
abbrev s22_93 : SC := .seq s22_20 s22_92
abbrev s22_94 : SC := .seq s22_19 s22_93
abbrev s22_95 : SC := .seq (.label 0) s22_94
abbrev s22_96 : SC := .seq s22_18 s22_95
abbrev s22_97 : SC := .seq s22_17 s22_96
abbrev s22_98 : SC := .seq s22_16 s22_97
abbrev s22_99 : SC := .seq s22_11 s22_98
abbrev s22_100 : SC := .seq s22_1 s22_99
abbrev s22_101 : SC := .scope s22_100
abbrev s22_102 : SC := .seq s22_0 s22_101
noncomputable def c22 : Code := match Try.f22.body with | some c => c | none => .skip
theorem b22 : Try.f22.body = some c22 := by kernel_rfl
theorem sc22 : toSC C22 c22 = some s22_102 := by kernel_rfl
set_option maxRecDepth 100000 in
theorem run22 {args : List AV} {H : Heap} {R : Out → Heap → Prop} (hl : args.length ≤ 220) (h : SWp Try.prog C22 s22_102 (finK [.cell 8 26, .cell 9 26, .tmp 10] R) ⟨argSlots 0 args, [], H⟩) : ∃ out H', CallRuns Try.prog 22 args H out H' ∧ R out H' :=
  callRuns_of (C := C22) (by kernel_rfl) hD hZ Try.func22 b22 Try.ntmps22 Try.call22 sc22 (by kernel_rfl) hl h

-- function 20: portcullis/portcullisref16.Unknown
def C20 : Cfg := ⟨3, [0], zget ztab⟩
@[simp] theorem L20 : C20.L = [0] := rfl
@[simp] theorem Z20 : C20.Z = zget ztab := rfl
abbrev s20_0 : SC := .region [⟨(some 0), .alloc 26, none⟩]
abbrev s20_1 : SC := .region [⟨(some 1), .build 24 #[(1, .const (.int .u64 18446744073709551615))], none⟩, ⟨(some 2), .build 26 #[(0, .tmp 1), (2, .const (.int .u64 18446744073709551615))], none⟩, ⟨none, .store 26 (.tmp 0) (.tmp 2), none⟩]
abbrev s20_2 : SC := .seq s20_1 .ret
abbrev s20_3 : SC := .seq s20_0 s20_2
noncomputable def c20 : Code := match Try.f20.body with | some c => c | none => .skip
theorem b20 : Try.f20.body = some c20 := by kernel_rfl
theorem sc20 : toSC C20 c20 = some s20_3 := by kernel_rfl
set_option maxRecDepth 100000 in
theorem run20 {args : List AV} {H : Heap} {R : Out → Heap → Prop} (hl : args.length ≤ 3) (h : SWp Try.prog C20 s20_3 (finK [.cell 0 26] R) ⟨argSlots 0 args, [], H⟩) : ∃ out H', CallRuns Try.prog 20 args H out H' ∧ R out H' :=
  callRuns_of (C := C20) (by kernel_rfl) hD hZ Try.func20 b20 Try.ntmps20 Try.call20 sc20 (by kernel_rfl) hl h

-- function 103: portcullis/portcullisref15.Cast
def C103 : Cfg := ⟨30, [2, 4], zget ztab⟩
@[simp] theorem L103 : C103.L = [2, 4] := rfl
@[simp] theorem Z103 : C103.Z = zget ztab := rfl
abbrev s103_0 : SC := .region [⟨(some 2), .box 24 (.tmp 0), none⟩, ⟨(some 4), .alloc 24, none⟩]
abbrev s103_1 : SC := .region [⟨(some 6), .move (.tmp 1), none⟩, ⟨(some 7), .binOp .neq 3 (.tmp 6) (.const (.int .i64 8)) 3, none⟩, ⟨(some 8), .move (.tmp 7), none⟩, ⟨(some 9), .move (.tmp 1), (some (8, true))⟩, ⟨(some 10), .binOp .neq 3 (.tmp 9) (.const (.int .i64 16)) 3, (some (8, true))⟩, ⟨(some 11), .pick (.tmp 8) (.tmp 10) (.const (.bool false)), none⟩, ⟨(some 12), .move (.tmp 11), none⟩, ⟨(some 13), .move (.tmp 1), (some (12, true))⟩, ⟨(some 14), .binOp .neq 3 (.tmp 13) (.const (.int .i64 32)) 3, (some (12, true))⟩, ⟨(some 15), .pick (.tmp 12) (.tmp 14) (.const (.bool false)), none⟩]
abbrev s103_2 : SC := .region [⟨(some 16), .load 24 (.tmp 2), none⟩, ⟨none, .store 24 (.tmp 4) (.tmp 16), none⟩]
abbrev s103_3 : SC := .seq s103_2 .ret
abbrev s103_4 : SC := .cond (.tmp 15) s103_3 .skip
abbrev s103_5 : SC := .seq s103_1 s103_4
abbrev s103_6 : SC := .region [⟨(some 17), .move (.tmp 1), none⟩, ⟨(some 18), .convert 3 93 (.tmp 17), none⟩, ⟨(some 19), .binOp .shl 22 (.const (.int .u64 1)) (.tmp 18) 93, none⟩, ⟨(some 20), .binOp .sub 22 (.tmp 19) (.const (.int .u64 1)) 22, none⟩, ⟨(some 5), .assign (.tmp 20), none⟩]
abbrev s103_7 : SC := .region [⟨(some 21), .fieldAddr 24 (.tmp 2) 0, none⟩, ⟨(some 22), .load 22 (.tmp 21), none⟩, ⟨(some 23), .move (.tmp 5), none⟩, ⟨(some 24), .binOp .and 22 (.tmp 22) (.tmp 23) 22, none⟩, ⟨(some 25), .fieldAddr 24 (.tmp 2) 1, none⟩, ⟨(some 26), .load 22 (.tmp 25), none⟩, ⟨(some 27), .move (.tmp 5), none⟩, ⟨(some 28), .binOp .and 22 (.tmp 26) (.tmp 27) 22, none⟩, ⟨(some 29), .build 24 #[(0, .tmp 24), (1, .tmp 28)], none⟩, ⟨none, .store 24 (.tmp 4) (.tmp 29), none⟩]
abbrev s103_8 : SC := .seq s103_7 .ret
abbrev s103_9 : SC := .seq s103_6 s103_8
abbrev s103_10 : SC := .seq s103_5 s103_9
abbrev s103_11 : SC := .seq s103_0 s103_10
noncomputable def c103 : Code := match Try.f103.body with | some c => c | none => .skip
theorem b103 : Try.f103.body = some c103 := by kernel_rfl
theorem sc103 : toSC C103 c103 = some s103_11 := by kernel_rfl
set_option maxRecDepth 100000 in
theorem run103 {args : List AV} {H : Heap} {R : Out → Heap → Prop} (hl : args.length ≤ 30) (h : SWp Try.prog C103 s103_11 (finK [.cell 4 24] R) ⟨argSlots 0 args, [], H⟩) : ∃ out H', CallRuns Try.prog 103 args H out H' ∧ R out H' :=
  callRuns_of (C := C103) (by kernel_rfl) hD hZ Try.func103 b103 Try.ntmps103 Try.call103 sc103 (by kernel_rfl) hl h

-- function 104: portcullis/portcullisref16.tight
def C104 : Cfg := ⟨11, [1, 2, 3], zget ztab⟩
@[simp] theorem L104 : C104.L = [1, 2, 3] := rfl
@[simp] theorem Z104 : C104.Z = zget ztab := rfl
abbrev s104_0 : SC := .region [⟨(some 1), .box 26 (.tmp 0), none⟩, ⟨(some 2), .alloc 26, none⟩]
abbrev s104_1 : SC := .region [⟨(some 6), .load 26 (.tmp 1), none⟩, ⟨(some 7), .call ⟨.value (.func 64), #[.tmp 6], #[26]⟩, none⟩, ⟨(some 5), .move (.tmp 7), none⟩, ⟨(some 8), .extract (.tmp 5) 0, none⟩, ⟨(some 9), .extract (.tmp 5) 1, none⟩, ⟨(some 3), .alloc 26, none⟩, ⟨none, .store 26 (.tmp 3) (.tmp 8), none⟩, ⟨(some 4), .assign (.tmp 9), none⟩]
abbrev s104_2 : SC := .region [⟨(some 10), .load 26 (.tmp 3), none⟩, ⟨none, .store 26 (.tmp 2) (.tmp 10), none⟩]
abbrev s104_3 : SC := .seq s104_2 .ret
abbrev s104_4 : SC := .seq s104_1 s104_3
abbrev s104_5 : SC := .seq s104_0 s104_4
noncomputable def c104 : Code := match Try.f104.body with | some c => c | none => .skip
theorem b104 : Try.f104.body = some c104 := by kernel_rfl
theorem sc104 : toSC C104 c104 = some s104_5 := by kernel_rfl
set_option maxRecDepth 100000 in
theorem run104 {args : List AV} {H : Heap} {R : Out → Heap → Prop} (hl : args.length ≤ 11) (h : SWp Try.prog C104 s104_5 (finK [.cell 2 26] R) ⟨argSlots 0 args, [], H⟩) : ∃ out H', CallRuns Try.prog 104 args H out H' ∧ R out H' :=
  callRuns_of (C := C104) (by kernel_rfl) hD hZ Try.func104 b104 Try.ntmps104 Try.call104 sc104 (by kernel_rfl) hl h

-- function 53: portcullis/portcullisref16.Cast
def C53 : Cfg := ⟨35, [2, 4], zget ztab⟩
@[simp] theorem L53 : C53.L = [2, 4] := rfl
@[simp] theorem Z53 : C53.Z = zget ztab := rfl
abbrev s53_0 : SC := .region [⟨(some 2), .box 26 (.tmp 0), none⟩, ⟨(some 4), .alloc 26, none⟩]
abbrev s53_1 : SC := .region [⟨(some 6), .move (.tmp 1), none⟩, ⟨(some 7), .binOp .neq 3 (.tmp 6) (.const (.int .i64 8)) 3, none⟩, ⟨(some 8), .move (.tmp 7), none⟩, ⟨(some 9), .move (.tmp 1), (some (8, true))⟩, ⟨(some 10), .binOp .neq 3 (.tmp 9) (.const (.int .i64 16)) 3, (some (8, true))⟩, ⟨(some 11), .pick (.tmp 8) (.tmp 10) (.const (.bool false)), none⟩, ⟨(some 12), .move (.tmp 11), none⟩, ⟨(some 13), .move (.tmp 1), (some (12, true))⟩, ⟨(some 14), .binOp .neq 3 (.tmp 13) (.const (.int .i64 32)) 3, (some (12, true))⟩, ⟨(some 15), .pick (.tmp 12) (.tmp 14) (.const (.bool false)), none⟩]
abbrev s53_2 : SC := .region [⟨(some 16), .load 26 (.tmp 2), none⟩, ⟨none, .store 26 (.tmp 4) (.tmp 16), none⟩]
abbrev s53_3 : SC := .seq s53_2 .ret
abbrev s53_4 : SC := .cond (.tmp 15) s53_3 .skip
abbrev s53_5 : SC := .seq s53_1 s53_4
abbrev s53_6 : SC := .region [⟨(some 17), .move (.tmp 1), none⟩, ⟨(some 18), .convert 3 93 (.tmp 17), none⟩, ⟨(some 19), .binOp .shl 22 (.const (.int .u64 1)) (.tmp 18) 93, none⟩, ⟨(some 20), .binOp .sub 22 (.tmp 19) (.const (.int .u64 1)) 22, none⟩, ⟨(some 5), .assign (.tmp 20), none⟩]
abbrev s53_7 : SC := .region [⟨(some 21), .fieldAddr 26 (.tmp 2) 2, none⟩, ⟨(some 22), .load 22 (.tmp 21), none⟩, ⟨(some 23), .move (.tmp 5), none⟩, ⟨(some 24), .binOp .gtr 22 (.tmp 22) (.tmp 23) 22, none⟩]
abbrev s53_8 : SC := .region [⟨(some 25), .move (.tmp 5), none⟩, ⟨(some 26), .fieldAddr 26 (.tmp 2) 1, none⟩, ⟨none, .store 22 (.tmp 26) (.const (.int .u64 0)), none⟩, ⟨(some 27), .fieldAddr 26 (.tmp 2) 2, none⟩, ⟨none, .store 22 (.tmp 27) (.tmp 25), none⟩]
abbrev s53_9 : SC := .cond (.tmp 24) s53_8 .skip
abbrev s53_10 : SC := .seq s53_7 s53_9
abbrev s53_11 : SC := .region [⟨(some 28), .fieldAddr 26 (.tmp 2) 0, none⟩, ⟨(some 29), .load 24 (.tmp 28), none⟩, ⟨(some 30), .move (.tmp 1), none⟩, ⟨(some 31), .call ⟨.value (.func 103), #[.tmp 29, .tmp 30], #[24, 3]⟩, none⟩, ⟨(some 32), .fieldAddr 26 (.tmp 2) 0, none⟩, ⟨none, .store 24 (.tmp 32) (.tmp 31), none⟩]
abbrev s53_12 : SC := .region [⟨(some 33), .load 26 (.tmp 2), none⟩, ⟨(some 34), .call ⟨.value (.func 104), #[.tmp 33], #[26]⟩, none⟩, ⟨none, .store 26 (.tmp 4) (.tmp 34), none⟩]
abbrev s53_13 : SC := .seq s53_12 .ret
abbrev s53_14 : SC := .seq s53_11 s53_13
abbrev s53_15 : SC := .seq s53_10 s53_14
abbrev s53_16 : SC := .seq s53_6 s53_15
abbrev s53_17 : SC := .seq s53_5 s53_16
abbrev s53_18 : SC := .seq s53_0 s53_17
noncomputable def c53 : Code := match Try.f53.body with | some c => c | none => .skip
theorem b53 : Try.f53.body = some c53 := by kernel_rfl
theorem sc53 : toSC C53 c53 = some s53_18 := by kernel_rfl
set_option maxRecDepth 100000 in
theorem run53 {args : List AV} {H : Heap} {R : Out → Heap → Prop} (hl : args.length ≤ 35) (h : SWp Try.prog C53 s53_18 (finK [.cell 4 26] R) ⟨argSlots 0 args, [], H⟩) : ∃ out H', CallRuns Try.prog 53 args H out H' ∧ R out H' :=
  callRuns_of (C := C53) (by kernel_rfl) hD hZ Try.func53 b53 Try.ntmps53 Try.call53 sc53 (by kernel_rfl) hl h

-- function 24: portcullis/branch.Always
def C24 : Cfg := ⟨43, [6, 7, 11, 12, 14, 15], zget ztab⟩
@[simp] theorem L24 : C24.L = [6, 7, 11, 12, 14, 15] := rfl
@[simp] theorem Z24 : C24.Z = zget ztab := rfl
abbrev s24_0 : SC := .region [⟨(some 6), .box 26 (.tmp 2), none⟩, ⟨(some 7), .box 26 (.tmp 3), none⟩, ⟨(some 8), .assign (.const (.bool false)), none⟩, ⟨(some 9), .assign (.const (.bool false)), none⟩]
abbrev s24_1 : SC := .region [⟨(some 17), .move (.tmp 0), none⟩, ⟨(some 18), .call ⟨.value (.func 26), #[.tmp 17], #[3]⟩, none⟩, ⟨(some 10), .assign (.tmp 18), none⟩]
abbrev s24_2 : SC := .region [⟨(some 19), .move (.tmp 10), none⟩, ⟨(some 20), .binOp .lss 3 (.tmp 19) (.const (.int .i64 0)) 3, none⟩]
abbrev s24_3 : SC := .region [⟨(some 8), .assign (.const (.bool false)), none⟩, ⟨(some 9), .assign (.const (.bool false)), none⟩]
abbrev s24_4 : SC := .seq s24_3 .ret
abbrev s24_5 : SC := .cond (.tmp 20) s24_4 .skip
abbrev s24_6 : SC := .seq s24_2 s24_5
abbrev s24_7 : SC := .region [⟨(some 22), .move (.tmp 0), none⟩, ⟨(some 23), .move (.tmp 1), none⟩, ⟨(some 24), .load 26 (.tmp 6), none⟩, ⟨(some 25), .load 26 (.tmp 7), none⟩, ⟨(some 26), .call ⟨.value (.func 22), #[.tmp 22, .tmp 23, .tmp 24, .tmp 25], #[3, 4, 26, 26]⟩, none⟩, ⟨(some 21), .move (.tmp 26), none⟩, ⟨(some 27), .extract (.tmp 21) 0, none⟩, ⟨(some 28), .extract (.tmp 21) 1, none⟩, ⟨(some 29), .extract (.tmp 21) 2, none⟩, ⟨(some 11), .alloc 26, none⟩, ⟨(some 12), .alloc 26, none⟩, ⟨none, .store 26 (.tmp 11) (.tmp 27), none⟩, ⟨none, .store 26 (.tmp 12) (.tmp 28), none⟩, ⟨(some 13), .assign (.tmp 29), none⟩]
abbrev s24_8 : SC := .region [⟨(some 30), .move (.tmp 13), none⟩, ⟨(some 31), .unOp .not 4 (.tmp 30), none⟩]
abbrev s24_9 : SC := .region [⟨(some 8), .assign (.const (.bool false)), none⟩, ⟨(some 9), .assign (.const (.bool true)), none⟩]
abbrev s24_10 : SC := .seq s24_9 .ret
abbrev s24_11 : SC := .cond (.tmp 31) s24_10 .skip
abbrev s24_12 : SC := .seq s24_8 s24_11
abbrev s24_13 : SC := .seq s24_7 s24_12
abbrev s24_14 : SC := .region [⟨(some 33), .move (.tmp 10), none⟩, ⟨(some 34), .move (.tmp 1), none⟩, ⟨(some 35), .load 26 (.tmp 6), none⟩, ⟨(some 36), .load 26 (.tmp 7), none⟩, ⟨(some 37), .call ⟨.value (.func 22), #[.tmp 33, .tmp 34, .tmp 35, .tmp 36], #[3, 4, 26, 26]⟩, none⟩, ⟨(some 32), .move (.tmp 37), none⟩, ⟨(some 38), .extract (.tmp 32) 0, none⟩, ⟨(some 39), .extract (.tmp 32) 1, none⟩, ⟨(some 40), .extract (.tmp 32) 2, none⟩, ⟨(some 14), .alloc 26, none⟩, ⟨(some 15), .alloc 26, none⟩, ⟨none, .store 26 (.tmp 14) (.tmp 38), none⟩, ⟨none, .store 26 (.tmp 15) (.tmp 39), none⟩, ⟨(some 16), .assign (.tmp 40), none⟩]
abbrev s24_15 : SC := .region [⟨(some 41), .move (.tmp 16), none⟩, ⟨(some 42), .unOp .not 4 (.tmp 41), none⟩]
abbrev s24_16 : SC := .region [⟨(some 8), .assign (.const (.bool true)), none⟩, ⟨(some 9), .assign (.const (.bool true)), none⟩]
abbrev s24_17 : SC := .seq s24_16 .ret
abbrev s24_18 : SC := .cond (.tmp 42) s24_17 .skip
abbrev s24_19 : SC := .seq s24_15 s24_18
abbrev s24_20 : SC := .seq s24_14 s24_19
abbrev s24_21 : SC := .region [⟨(some 8), .assign (.const (.bool false)), none⟩, ⟨(some 9), .assign (.const (.bool false)), none⟩]
abbrev s24_22 : SC := .seq s24_21 .ret
abbrev s24_23 : SC := .seq s24_20 s24_22
abbrev s24_24 : SC := .seq s24_13 s24_23
abbrev s24_25 : SC := .seq s24_6 s24_24
abbrev s24_26 : SC := .seq s24_1 s24_25
abbrev s24_27 : SC := .seq s24_0 s24_26
noncomputable def c24 : Code := match Try.f24.body with | some c => c | none => .skip
theorem b24 : Try.f24.body = some c24 := by kernel_rfl
theorem sc24 : toSC C24 c24 = some s24_27 := by kernel_rfl
set_option maxRecDepth 100000 in
theorem run24 {args : List AV} {H : Heap} {R : Out → Heap → Prop} (hl : args.length ≤ 43) (h : SWp Try.prog C24 s24_27 (finK [.tmp 8, .tmp 9] R) ⟨argSlots 0 args, [], H⟩) : ∃ out H', CallRuns Try.prog 24 args H out H' ∧ R out H' :=
  callRuns_of (C := C24) (by kernel_rfl) hD hZ Try.func24 b24 Try.ntmps24 Try.call24 sc24 (by kernel_rfl) hl h

-- function 28: portcullis/portcullislaw17.awake
def C28 : Cfg := ⟨88, [1, 2, 3, 5, 6, 8, 9], zget ztab⟩
@[simp] theorem L28 : C28.L = [1, 2, 3, 5, 6, 8, 9] := rfl
@[simp] theorem Z28 : C28.Z = zget ztab := rfl
abbrev s28_0 : SC := .region [⟨(some 0), .assign (.const (.bool false)), none⟩]
abbrev s28_1 : SC := .region [⟨(some 13), .call ⟨.value (.func 20), #[], #[]⟩, none⟩, ⟨(some 14), .call ⟨.value (.func 53), #[.tmp 13, .const (.int .i64 8)], #[26, 3]⟩, none⟩, ⟨(some 1), .alloc 26, none⟩, ⟨none, .store 26 (.tmp 1) (.tmp 14), none⟩]
abbrev s28_2 : SC := .draw [(⟨(some 16), .load 26 (.tmp 1), none⟩, ⟨[1], [], false, false⟩), (⟨(some 17), .call ⟨.value (.func 54), #[.const (.int .u64 7)], #[22]⟩, none⟩, ⟨[], [], true, true⟩), (⟨(some 18), .call ⟨.value (.func 22), #[.const (.int .i64 32), .const (.bool true), .tmp 16, .tmp 17], #[3, 4, 26, 26]⟩, none⟩, ⟨[], [], true, true⟩), (⟨(some 15), .move (.tmp 18), none⟩, ⟨[], [], false, false⟩), (⟨(some 19), .extract (.tmp 15) 0, none⟩, ⟨[], [], false, false⟩), (⟨(some 20), .extract (.tmp 15) 1, none⟩, ⟨[], [], false, false⟩), (⟨(some 21), .extract (.tmp 15) 2, none⟩, ⟨[], [], false, false⟩), (⟨(some 2), .alloc 26, none⟩, ⟨[], [2], false, false⟩), (⟨(some 3), .alloc 26, none⟩, ⟨[], [3], false, false⟩), (⟨none, .store 26 (.tmp 2) (.tmp 19), none⟩, ⟨[], [2], false, false⟩), (⟨none, .store 26 (.tmp 3) (.tmp 20), none⟩, ⟨[], [3], false, false⟩), (⟨(some 4), .assign (.tmp 21), none⟩, ⟨[], [], false, false⟩)]
abbrev s28_3 : SC := .draw [(⟨(some 23), .load 26 (.tmp 1), none⟩, ⟨[1], [], false, false⟩), (⟨(some 24), .call ⟨.value (.func 54), #[.const (.int .u64 3)], #[22]⟩, none⟩, ⟨[], [], true, true⟩), (⟨(some 25), .call ⟨.value (.func 22), #[.const (.int .i64 16), .const (.bool true), .tmp 23, .tmp 24], #[3, 4, 26, 26]⟩, none⟩, ⟨[], [], true, true⟩), (⟨(some 22), .move (.tmp 25), none⟩, ⟨[], [], false, false⟩), (⟨(some 26), .extract (.tmp 22) 0, none⟩, ⟨[], [], false, false⟩), (⟨(some 27), .extract (.tmp 22) 1, none⟩, ⟨[], [], false, false⟩), (⟨(some 28), .extract (.tmp 22) 2, none⟩, ⟨[], [], false, false⟩), (⟨(some 5), .alloc 26, none⟩, ⟨[], [5], false, false⟩), (⟨(some 6), .alloc 26, none⟩, ⟨[], [6], false, false⟩), (⟨none, .store 26 (.tmp 5) (.tmp 26), none⟩, ⟨[], [5], false, false⟩), (⟨none, .store 26 (.tmp 6) (.tmp 27), none⟩, ⟨[], [6], false, false⟩), (⟨(some 7), .assign (.tmp 28), none⟩, ⟨[], [], false, false⟩)]
abbrev s28_4 : SC := .draw [(⟨(some 30), .load 26 (.tmp 1), none⟩, ⟨[1], [], false, false⟩), (⟨(some 31), .call ⟨.value (.func 54), #[.const (.int .u64 128)], #[22]⟩, none⟩, ⟨[], [], true, true⟩), (⟨(some 32), .call ⟨.value (.func 22), #[.const (.int .i64 64), .const (.bool true), .tmp 30, .tmp 31], #[3, 4, 26, 26]⟩, none⟩, ⟨[], [], true, true⟩), (⟨(some 29), .move (.tmp 32), none⟩, ⟨[], [], false, false⟩), (⟨(some 33), .extract (.tmp 29) 0, none⟩, ⟨[], [], false, false⟩), (⟨(some 34), .extract (.tmp 29) 1, none⟩, ⟨[], [], false, false⟩), (⟨(some 35), .extract (.tmp 29) 2, none⟩, ⟨[], [], false, false⟩), (⟨(some 8), .alloc 26, none⟩, ⟨[], [8], false, false⟩), (⟨(some 9), .alloc 26, none⟩, ⟨[], [9], false, false⟩), (⟨none, .store 26 (.tmp 8) (.tmp 33), none⟩, ⟨[], [8], false, false⟩), (⟨none, .store 26 (.tmp 9) (.tmp 34), none⟩, ⟨[], [9], false, false⟩), (⟨(some 10), .assign (.tmp 35), none⟩, ⟨[], [], false, false⟩)]
abbrev s28_5 : SC := .draw [(⟨(some 37), .load 26 (.tmp 1), none⟩, ⟨[1], [], false, false⟩), (⟨(some 38), .call ⟨.value (.func 54), #[.const (.int .u64 256)], #[22]⟩, none⟩, ⟨[], [], true, true⟩), (⟨(some 39), .call ⟨.value (.func 24), #[.const (.int .i64 160), .const (.bool true), .tmp 37, .tmp 38], #[3, 4, 26, 26]⟩, none⟩, ⟨[], [], true, true⟩), (⟨(some 36), .move (.tmp 39), none⟩, ⟨[], [], false, false⟩), (⟨(some 40), .extract (.tmp 36) 0, none⟩, ⟨[], [], false, false⟩), (⟨(some 41), .extract (.tmp 36) 1, none⟩, ⟨[], [], false, false⟩), (⟨(some 11), .assign (.tmp 40), none⟩, ⟨[], [], false, false⟩), (⟨(some 12), .assign (.tmp 41), none⟩, ⟨[], [], false, false⟩)]
abbrev s28_6 : SC := .draw [(⟨(some 42), .fieldAddr 26 (.tmp 2) 1, none⟩, ⟨[], [], false, false⟩), (⟨(some 43), .load 22 (.tmp 42), none⟩, ⟨[2], [], false, false⟩), (⟨(some 44), .binOp .eql 22 (.tmp 43) (.const (.int .u64 8)) 22, none⟩, ⟨[], [], false, false⟩), (⟨(some 45), .move (.tmp 44), none⟩, ⟨[], [], false, false⟩), (⟨(some 46), .fieldAddr 26 (.tmp 2) 2, (some (45, true))⟩, ⟨[], [], false, false⟩), (⟨(some 47), .load 22 (.tmp 46), (some (45, true))⟩, ⟨[2], [], false, false⟩), (⟨(some 48), .binOp .eql 22 (.tmp 47) (.const (.int .u64 255)) 22, (some (45, true))⟩, ⟨[], [], false, false⟩), (⟨(some 49), .pick (.tmp 45) (.tmp 48) (.const (.bool false)), none⟩, ⟨[], [], false, false⟩), (⟨(some 50), .move (.tmp 49), none⟩, ⟨[], [], false, false⟩), (⟨(some 51), .move (.tmp 4), (some (50, true))⟩, ⟨[], [], false, false⟩), (⟨(some 52), .pick (.tmp 50) (.tmp 51) (.const (.bool false)), none⟩, ⟨[], [], false, false⟩), (⟨(some 53), .move (.tmp 52), none⟩, ⟨[], [], false, false⟩), (⟨(some 54), .load 26 (.tmp 5), (some (53, true))⟩, ⟨[5], [], false, false⟩), (⟨(some 55), .call ⟨.value (.func 54), #[.const (.int .u64 3)], #[22]⟩, (some (53, true))⟩, ⟨[], [], true, true⟩), (⟨(some 56), .binOp .eql 26 (.tmp 54) (.tmp 55) 26, (some (53, true))⟩, ⟨[], [], false, false⟩), (⟨(some 57), .pick (.tmp 53) (.tmp 56) (.const (.bool false)), none⟩, ⟨[], [], false, false⟩), (⟨(some 58), .move (.tmp 57), none⟩, ⟨[], [], false, false⟩), (⟨(some 59), .load 26 (.tmp 6), (some (58, true))⟩, ⟨[6], [], false, false⟩), (⟨(some 60), .load 26 (.tmp 5), (some (58, true))⟩, ⟨[5], [], false, false⟩), (⟨(some 61), .binOp .eql 26 (.tmp 59) (.tmp 60) 26, (some (58, true))⟩, ⟨[], [], false, false⟩), (⟨(some 62), .pick (.tmp 58) (.tmp 61) (.const (.bool false)), none⟩, ⟨[], [], false, false⟩), (⟨(some 63), .move (.tmp 62), none⟩, ⟨[], [], false, false⟩), (⟨(some 64), .move (.tmp 7), (some (63, true))⟩, ⟨[], [], false, false⟩), (⟨(some 65), .pick (.tmp 63) (.tmp 64) (.const (.bool false)), none⟩, ⟨[], [], false, false⟩), (⟨(some 66), .move (.tmp 65), none⟩, ⟨[], [], false, false⟩), (⟨(some 67), .fieldAddr 26 (.tmp 8) 1, (some (66, true))⟩, ⟨[], [], false, false⟩), (⟨(some 68), .load 22 (.tmp 67), (some (66, true))⟩, ⟨[8], [], false, false⟩), (⟨(some 69), .binOp .eql 22 (.tmp 68) (.const (.int .u64 128)) 22, (some (66, true))⟩, ⟨[], [], false, false⟩), (⟨(some 70), .pick (.tmp 66) (.tmp 69) (.const (.bool false)), none⟩, ⟨[], [], false, false⟩), (⟨(some 71), .move (.tmp 70), none⟩, ⟨[], [], false, false⟩), (⟨(some 72), .move (.tmp 10), (some (71, true))⟩, ⟨[], [], false, false⟩), (⟨(some 73), .pick (.tmp 71) (.tmp 72) (.const (.bool false)), none⟩, ⟨[], [], false, false⟩), (⟨(some 74), .move (.tmp 73), none⟩, ⟨[], [], false, false⟩), (⟨(some 75), .move (.tmp 11), (some (74, true))⟩, ⟨[], [], false, false⟩), (⟨(some 76), .pick (.tmp 74) (.tmp 75) (.const (.bool false)), none⟩, ⟨[], [], false, false⟩), (⟨(some 77), .move (.tmp 76), none⟩, ⟨[], [], false, false⟩), (⟨(some 78), .move (.tmp 12), (some (77, true))⟩, ⟨[], [], false, false⟩), (⟨(some 79), .pick (.tmp 77) (.tmp 78) (.const (.bool false)), none⟩, ⟨[], [], false, false⟩), (⟨(some 80), .move (.tmp 79), none⟩, ⟨[], [], false, false⟩), (⟨(some 81), .call ⟨.value (.func 26), #[.const (.int .i64 64)], #[3]⟩, (some (80, true))⟩, ⟨[], [], true, true⟩), (⟨(some 82), .binOp .eql 3 (.tmp 81) (.const (.int .i64 68)) 3, (some (80, true))⟩, ⟨[], [], false, false⟩), (⟨(some 83), .pick (.tmp 80) (.tmp 82) (.const (.bool false)), none⟩, ⟨[], [], false, false⟩), (⟨(some 84), .move (.tmp 83), none⟩, ⟨[], [], false, false⟩), (⟨(some 85), .call ⟨.value (.func 26), #[.const (.int .i64 5)], #[3]⟩, (some (84, true))⟩, ⟨[], [], true, true⟩), (⟨(some 86), .binOp .eql 3 (.tmp 85) (.const (.int .i64 (-1))) 3, (some (84, true))⟩, ⟨[], [], false, false⟩), (⟨(some 87), .pick (.tmp 84) (.tmp 86) (.const (.bool false)), none⟩, ⟨[], [], false, false⟩), (⟨(some 0), .assign (.tmp 87), none⟩, ⟨[], [], false, false⟩)]
abbrev s28_7 : SC := .seq s28_6 .ret
abbrev s28_8 : SC := .seq s28_5 s28_7
abbrev s28_9 : SC := .seq s28_4 s28_8
abbrev s28_10 : SC := .seq s28_3 s28_9
abbrev s28_11 : SC := .seq s28_2 s28_10
abbrev s28_12 : SC := .seq s28_1 s28_11
abbrev s28_13 : SC := .seq s28_0 s28_12
noncomputable def c28 : Code := match Try.f28.body with | some c => c | none => .skip
theorem b28 : Try.f28.body = some c28 := by kernel_rfl
theorem sc28 : toSC C28 c28 = some s28_13 := by kernel_rfl
set_option maxRecDepth 100000 in
theorem run28 {args : List AV} {H : Heap} {R : Out → Heap → Prop} (hl : args.length ≤ 88) (h : SWp Try.prog C28 s28_13 (finK [.tmp 0] R) ⟨argSlots 0 args, [], H⟩) : ∃ out H', CallRuns Try.prog 28 args H out H' ∧ R out H' :=
  callRuns_of (C := C28) (by kernel_rfl) hD hZ Try.func28 b28 Try.ntmps28 Try.call28 sc28 (by kernel_rfl) hl h

-- function 8: portcullis/portcullislaw17.BranchNarrows
def C8 : Cfg := ⟨71, [5, 7, 8, 9, 10], zget ztab⟩
@[simp] theorem L8 : C8.L = [5, 7, 8, 9, 10] := rfl
@[simp] theorem Z8 : C8.Z = zget ztab := rfl
abbrev s8_0 : SC := .region [⟨(some 5), .box 42 (.tmp 2), none⟩, ⟨(some 6), .assign (.const (.bool false)), none⟩]
abbrev s8_1 : SC := .draw [(⟨(some 13), .indexAddr 42 (.tmp 5) (.const (.int .i64 0)), none⟩, ⟨[], [], false, false⟩), (⟨(some 14), .load 26 (.tmp 13), none⟩, ⟨[5], [], false, false⟩), (⟨(some 15), .call ⟨.value (.func 21), #[.tmp 14], #[26]⟩, none⟩, ⟨[], [], true, true⟩), (⟨(some 16), .indexAddr 42 (.tmp 5) (.const (.int .i64 1)), none⟩, ⟨[], [], false, false⟩), (⟨(some 17), .load 26 (.tmp 16), none⟩, ⟨[5], [], false, false⟩), (⟨(some 18), .call ⟨.value (.func 21), #[.tmp 17], #[26]⟩, none⟩, ⟨[], [], true, true⟩), (⟨(some 7), .alloc 26, none⟩, ⟨[], [7], false, false⟩), (⟨(some 8), .alloc 26, none⟩, ⟨[], [8], false, false⟩), (⟨none, .store 26 (.tmp 7) (.tmp 15), none⟩, ⟨[], [7], false, false⟩), (⟨none, .store 26 (.tmp 8) (.tmp 18), none⟩, ⟨[], [8], false, false⟩)]
abbrev s8_2 : SC := .region [⟨(some 20), .move (.tmp 0), none⟩, ⟨(some 21), .move (.tmp 1), none⟩, ⟨(some 22), .load 26 (.tmp 7), none⟩, ⟨(some 23), .load 26 (.tmp 8), none⟩, ⟨(some 24), .call ⟨.value (.func 22), #[.tmp 20, .tmp 21, .tmp 22, .tmp 23], #[3, 4, 26, 26]⟩, none⟩, ⟨(some 19), .move (.tmp 24), none⟩, ⟨(some 25), .extract (.tmp 19) 0, none⟩, ⟨(some 26), .extract (.tmp 19) 1, none⟩, ⟨(some 27), .extract (.tmp 19) 2, none⟩, ⟨(some 9), .alloc 26, none⟩, ⟨(some 10), .alloc 26, none⟩, ⟨none, .store 26 (.tmp 9) (.tmp 25), none⟩, ⟨none, .store 26 (.tmp 10) (.tmp 26), none⟩, ⟨(some 11), .assign (.tmp 27), none⟩]
abbrev s8_3 : SC := .region [⟨(some 28), .move (.tmp 0), none⟩, ⟨(some 29), .call ⟨.value (.func 26), #[.tmp 28], #[3]⟩, none⟩, ⟨(some 12), .assign (.tmp 29), none⟩]
abbrev s8_4 : SC := .region [⟨(some 30), .move (.tmp 12), none⟩, ⟨(some 31), .binOp .geq 3 (.tmp 30) (.const (.int .i64 0)) 3, none⟩, ⟨(some 32), .move (.tmp 31), none⟩, ⟨(some 33), .move (.tmp 12), (some (32, true))⟩, ⟨(some 34), .call ⟨.value (.func 26), #[.tmp 33], #[3]⟩, (some (32, true))⟩, ⟨(some 35), .move (.tmp 0), (some (32, true))⟩, ⟨(some 36), .binOp .neq 3 (.tmp 34) (.tmp 35) 3, (some (32, true))⟩, ⟨(some 37), .pick (.tmp 32) (.tmp 36) (.const (.bool false)), none⟩]
abbrev s8_5 : SC := .region [⟨(some 6), .assign (.const (.bool false)), none⟩]
abbrev s8_6 : SC := .seq s8_5 .ret
abbrev s8_7 : SC := .cond (.tmp 37) s8_6 .skip
abbrev s8_8 : SC := .seq s8_4 s8_7
abbrev s8_9 : SC := .region [⟨(some 38), .move (.tmp 11), none⟩, ⟨(some 39), .unOp .not 4 (.tmp 38), none⟩, ⟨(some 40), .move (.tmp 39), none⟩, ⟨(some 41), .fieldAddr 26 (.tmp 9) 1, (some (40, false))⟩, ⟨(some 42), .load 22 (.tmp 41), (some (40, false))⟩, ⟨(some 43), .fieldAddr 26 (.tmp 7) 1, (some (40, false))⟩, ⟨(some 44), .load 22 (.tmp 43), (some (40, false))⟩, ⟨(some 45), .binOp .geq 22 (.tmp 42) (.tmp 44) 22, (some (40, false))⟩, ⟨(some 46), .move (.tmp 45), (some (40, false))⟩, ⟨(some 47), .fieldAddr 26 (.tmp 9) 2, (some (46, true))⟩, ⟨(some 48), .load 22 (.tmp 47), (some (46, true))⟩, ⟨(some 49), .fieldAddr 26 (.tmp 7) 2, (some (46, true))⟩, ⟨(some 50), .load 22 (.tmp 49), (some (46, true))⟩, ⟨(some 51), .binOp .leq 22 (.tmp 48) (.tmp 50) 22, (some (46, true))⟩, ⟨(some 52), .pick (.tmp 46) (.tmp 51) (.const (.bool false)), (some (40, false))⟩, ⟨(some 53), .move (.tmp 52), (some (40, false))⟩, ⟨(some 54), .fieldAddr 26 (.tmp 10) 1, (some (53, true))⟩, ⟨(some 55), .load 22 (.tmp 54), (some (53, true))⟩, ⟨(some 56), .fieldAddr 26 (.tmp 8) 1, (some (53, true))⟩, ⟨(some 57), .load 22 (.tmp 56), (some (53, true))⟩, ⟨(some 58), .binOp .geq 22 (.tmp 55) (.tmp 57) 22, (some (53, true))⟩, ⟨(some 59), .pick (.tmp 53) (.tmp 58) (.const (.bool false)), (some (40, false))⟩, ⟨(some 60), .move (.tmp 59), (some (40, false))⟩, ⟨(some 61), .fieldAddr 26 (.tmp 10) 2, (some (60, true))⟩, ⟨(some 62), .load 22 (.tmp 61), (some (60, true))⟩, ⟨(some 63), .fieldAddr 26 (.tmp 8) 2, (some (60, true))⟩, ⟨(some 64), .load 22 (.tmp 63), (some (60, true))⟩, ⟨(some 65), .binOp .leq 22 (.tmp 62) (.tmp 64) 22, (some (60, true))⟩, ⟨(some 66), .pick (.tmp 60) (.tmp 65) (.const (.bool false)), (some (40, false))⟩, ⟨(some 67), .pick (.tmp 40) (.const (.bool true)) (.tmp 66), none⟩, ⟨(some 68), .move (.tmp 67), none⟩, ⟨(some 69), .call ⟨.value (.func 28), #[], #[]⟩, (some (68, true))⟩, ⟨(some 70), .pick (.tmp 68) (.tmp 69) (.const (.bool false)), none⟩, ⟨(some 6), .assign (.tmp 70), none⟩]
abbrev s8_10 : SC := .seq s8_9 .ret
abbrev s8_11 : SC := .seq s8_8 s8_10
abbrev s8_12 : SC := .seq s8_3 s8_11
abbrev s8_13 : SC := .seq s8_2 s8_12
abbrev s8_14 : SC := .seq s8_1 s8_13
abbrev s8_15 : SC := .seq s8_0 s8_14
noncomputable def c8 : Code := match Try.f8.body with | some c => c | none => .skip
theorem b8 : Try.f8.body = some c8 := by kernel_rfl
theorem sc8 : toSC C8 c8 = some s8_15 := by kernel_rfl
set_option maxRecDepth 100000 in
theorem run8 {args : List AV} {H : Heap} {R : Out → Heap → Prop} (hl : args.length ≤ 71) (h : SWp Try.prog C8 s8_15 (finK [.tmp 6] R) ⟨argSlots 0 args, [], H⟩) : ∃ out H', CallRuns Try.prog 8 args H out H' ∧ R out H' :=
  callRuns_of (C := C8) (by kernel_rfl) hD hZ Try.func8 b8 Try.ntmps8 Try.call8 sc8 (by kernel_rfl) hl h

-- function 27: portcullis/portcullisref17.Not
def C27 : Cfg := ⟨34, [6, 7], zget ztab⟩
@[simp] theorem L27 : C27.L = [6, 7] := rfl
@[simp] theorem Z27 : C27.Z = zget ztab := rfl
abbrev s27_0 : SC := .region [⟨(some 2), .assign (.const (.int .i64 0)), none⟩]
abbrev s27_1 : SC := .region [⟨(some 6), .buildSlice 33 6 #[(0, .const (.int .i64 16)), (1, .const (.int .i64 32)), (2, .const (.int .i64 48)), (3, .const (.int .i64 64)), (4, .const (.int .i64 96)), (5, .const (.int .i64 112))], none⟩, ⟨(some 3), .assign (.tmp 6), none⟩]
abbrev s27_2 : SC := .region [⟨(some 7), .buildSlice 33 6 #[(0, .const (.int .i64 80)), (1, .const (.int .i64 176)), (2, .const (.int .i64 160)), (3, .const (.int .i64 68)), (4, .const (.int .i64 208)), (5, .const (.int .i64 192))], none⟩, ⟨(some 4), .assign (.tmp 7), none⟩]
abbrev s27_3 : SC := .region [⟨(some 5), .assign (.const (.int .i64 0)), none⟩]
abbrev s27_4 : SC := .region [⟨(some 8), .move (.tmp 5), none⟩, ⟨(some 9), .move (.tmp 3), none⟩, ⟨(some 10), .call ⟨.builtin .len, #[.tmp 9], #[33]⟩, none⟩, ⟨(some 11), .binOp .lss 3 (.tmp 8) (.tmp 10) 3, none⟩]
abbrev s27_5 : SC := .cond (.tmp 11) .skip (.exit 0)
abbrev s27_6 : SC := .seq s27_4 s27_5
abbrev s27_7 : SC := .region [⟨(some 14), .move (.tmp 3), none⟩, ⟨(some 15), .move (.tmp 5), none⟩, ⟨(some 16), .indexAddr 33 (.tmp 14) (.tmp 15), none⟩, ⟨(some 17), .load 3 (.tmp 16), none⟩, ⟨(some 18), .move (.tmp 0), none⟩, ⟨(some 19), .binOp .eql 3 (.tmp 17) (.tmp 18) 3, none⟩]
abbrev s27_8 : SC := .region [⟨(some 20), .move (.tmp 4), none⟩, ⟨(some 21), .move (.tmp 5), none⟩, ⟨(some 22), .indexAddr 33 (.tmp 20) (.tmp 21), none⟩, ⟨(some 23), .load 3 (.tmp 22), none⟩, ⟨(some 2), .assign (.tmp 23), none⟩]
abbrev s27_9 : SC := .seq s27_8 .ret
abbrev s27_10 : SC := .cond (.tmp 19) s27_9 .skip
abbrev s27_11 : SC := .seq s27_7 s27_10
abbrev s27_12 : SC := .region [⟨(some 24), .move (.tmp 4), none⟩, ⟨(some 25), .move (.tmp 5), none⟩, ⟨(some 26), .indexAddr 33 (.tmp 24) (.tmp 25), none⟩, ⟨(some 27), .load 3 (.tmp 26), none⟩, ⟨(some 28), .move (.tmp 0), none⟩, ⟨(some 29), .binOp .eql 3 (.tmp 27) (.tmp 28) 3, none⟩]
abbrev s27_13 : SC := .region [⟨(some 30), .move (.tmp 3), none⟩, ⟨(some 31), .move (.tmp 5), none⟩, ⟨(some 32), .indexAddr 33 (.tmp 30) (.tmp 31), none⟩, ⟨(some 33), .load 3 (.tmp 32), none⟩, ⟨(some 2), .assign (.tmp 33), none⟩]
abbrev s27_14 : SC := .seq s27_13 .ret
abbrev s27_15 : SC := .cond (.tmp 29) s27_14 .skip
abbrev s27_16 : SC := .seq s27_12 s27_15
abbrev s27_17 : SC := .seq s27_11 s27_16
abbrev s27_18 : SC := .block 1 s27_17
abbrev s27_19 : SC := .region [⟨(some 12), .move (.tmp 5), none⟩, ⟨(some 13), .binOp .add 3 (.tmp 12) (.const (.int .i64 1)) 3, none⟩, ⟨(some 5), .assign (.tmp 13), none⟩]
abbrev s27_20 : SC := .seq s27_18 s27_19
abbrev s27_21 : SC := .seq s27_6 s27_20
abbrev s27_22 : SC := .loop s27_21
abbrev s27_23 : SC := .block 0 s27_22
abbrev s27_24 : SC := .seq s27_3 s27_23
abbrev s27_25 : SC := .region [⟨(some 2), .assign (.const (.int .i64 (-1))), none⟩]
abbrev s27_26 : SC := .seq s27_25 .ret
abbrev s27_27 : SC := .seq s27_24 s27_26
abbrev s27_28 : SC := .seq s27_2 s27_27
abbrev s27_29 : SC := .seq s27_1 s27_28
abbrev s27_30 : SC := .seq s27_0 s27_29
noncomputable def c27 : Code := match Try.f27.body with | some c => c | none => .skip
theorem b27 : Try.f27.body = some c27 := by kernel_rfl
theorem sc27 : toSC C27 c27 = some s27_30 := by kernel_rfl
set_option maxRecDepth 100000 in
theorem run27 {args : List AV} {H : Heap} {R : Out → Heap → Prop} (hl : args.length ≤ 34) (h : SWp Try.prog C27 s27_30 (finK [.tmp 2] R) ⟨argSlots 0 args, [], H⟩) : ∃ out H', CallRuns Try.prog 27 args H out H' ∧ R out H' :=
  callRuns_of (C := C27) (by kernel_rfl) hD hZ Try.func27 b27 Try.ntmps27 Try.call27 sc27 (by kernel_rfl) hl h

-- function 72: portcullis/portcullisref17.two
def C72 : Cfg := ⟨31, [2, 3, 4, 5, 7, 9], zget ztab⟩
@[simp] theorem L72 : C72.L = [2, 3, 4, 5, 7, 9] := rfl
@[simp] theorem Z72 : C72.Z = zget ztab := rfl
abbrev s72_0 : SC := .region [⟨(some 2), .box 26 (.tmp 0), none⟩, ⟨(some 3), .box 26 (.tmp 1), none⟩, ⟨(some 4), .alloc 26, none⟩, ⟨(some 5), .alloc 26, none⟩, ⟨(some 6), .assign (.const (.bool false)), none⟩]
abbrev s72_1 : SC := .region [⟨(some 12), .load 26 (.tmp 2), none⟩, ⟨(some 13), .call ⟨.value (.func 64), #[.tmp 12], #[26]⟩, none⟩, ⟨(some 11), .move (.tmp 13), none⟩, ⟨(some 14), .extract (.tmp 11) 0, none⟩, ⟨(some 15), .extract (.tmp 11) 1, none⟩, ⟨(some 7), .alloc 26, none⟩, ⟨none, .store 26 (.tmp 7) (.tmp 14), none⟩, ⟨(some 8), .assign (.tmp 15), none⟩]
abbrev s72_2 : SC := .region [⟨(some 17), .load 26 (.tmp 3), none⟩, ⟨(some 18), .call ⟨.value (.func 64), #[.tmp 17], #[26]⟩, none⟩, ⟨(some 16), .move (.tmp 18), none⟩, ⟨(some 19), .extract (.tmp 16) 0, none⟩, ⟨(some 20), .extract (.tmp 16) 1, none⟩, ⟨(some 9), .alloc 26, none⟩, ⟨none, .store 26 (.tmp 9) (.tmp 19), none⟩, ⟨(some 10), .assign (.tmp 20), none⟩]
abbrev s72_3 : SC := .region [⟨(some 21), .move (.tmp 8), none⟩, ⟨(some 22), .unOp .not 4 (.tmp 21), none⟩, ⟨(some 23), .move (.tmp 22), none⟩, ⟨(some 24), .move (.tmp 10), (some (23, false))⟩, ⟨(some 25), .unOp .not 4 (.tmp 24), (some (23, false))⟩, ⟨(some 26), .pick (.tmp 23) (.const (.bool true)) (.tmp 25), none⟩]
abbrev s72_4 : SC := .region [⟨(some 27), .build 26 #[], none⟩, ⟨(some 28), .build 26 #[], none⟩, ⟨none, .store 26 (.tmp 4) (.tmp 27), none⟩, ⟨none, .store 26 (.tmp 5) (.tmp 28), none⟩, ⟨(some 6), .assign (.const (.bool false)), none⟩]
abbrev s72_5 : SC := .seq s72_4 .ret
abbrev s72_6 : SC := .cond (.tmp 26) s72_5 .skip
abbrev s72_7 : SC := .seq s72_3 s72_6
abbrev s72_8 : SC := .draw [(⟨(some 29), .load 26 (.tmp 7), none⟩, ⟨[7], [], false, false⟩), (⟨(some 30), .load 26 (.tmp 9), none⟩, ⟨[9], [], false, false⟩), (⟨none, .store 26 (.tmp 4) (.tmp 29), none⟩, ⟨[], [4], false, false⟩), (⟨none, .store 26 (.tmp 5) (.tmp 30), none⟩, ⟨[], [5], false, false⟩), (⟨(some 6), .assign (.const (.bool true)), none⟩, ⟨[], [], false, false⟩)]
abbrev s72_9 : SC := .seq s72_8 .ret
abbrev s72_10 : SC := .seq s72_7 s72_9
abbrev s72_11 : SC := .seq s72_2 s72_10
abbrev s72_12 : SC := .seq s72_1 s72_11
abbrev s72_13 : SC := .seq s72_0 s72_12
noncomputable def c72 : Code := match Try.f72.body with | some c => c | none => .skip
theorem b72 : Try.f72.body = some c72 := by kernel_rfl
theorem sc72 : toSC C72 c72 = some s72_13 := by kernel_rfl
set_option maxRecDepth 100000 in
theorem run72 {args : List AV} {H : Heap} {R : Out → Heap → Prop} (hl : args.length ≤ 31) (h : SWp Try.prog C72 s72_13 (finK [.cell 4 26, .cell 5 26, .tmp 6] R) ⟨argSlots 0 args, [], H⟩) : ∃ out H', CallRuns Try.prog 72 args H out H' ∧ R out H' :=
  callRuns_of (C := C72) (by kernel_rfl) hD hZ Try.func72 b72 Try.ntmps72 Try.call72 sc72 (by kernel_rfl) hl h

-- function 112: portcullis/portcullisref16.Only
def C112 : Cfg := ⟨11, [1], zget ztab⟩
@[simp] theorem L112 : C112.L = [1] := rfl
@[simp] theorem Z112 : C112.Z = zget ztab := rfl
abbrev s112_0 : SC := .region [⟨(some 1), .box 26 (.tmp 0), none⟩, ⟨(some 2), .assign (.const (.int .u64 0)), none⟩, ⟨(some 3), .assign (.const (.bool false)), none⟩]
abbrev s112_1 : SC := .region [⟨(some 4), .fieldAddr 26 (.tmp 1) 0, none⟩, ⟨(some 5), .fieldAddr 24 (.tmp 4) 1, none⟩, ⟨(some 6), .load 22 (.tmp 5), none⟩, ⟨(some 7), .binOp .neq 22 (.tmp 6) (.const (.int .u64 0)) 22, none⟩]
abbrev s112_2 : SC := .region [⟨(some 2), .assign (.const (.int .u64 0)), none⟩, ⟨(some 3), .assign (.const (.bool false)), none⟩]
abbrev s112_3 : SC := .seq s112_2 .ret
abbrev s112_4 : SC := .cond (.tmp 7) s112_3 .skip
abbrev s112_5 : SC := .seq s112_1 s112_4
abbrev s112_6 : SC := .region [⟨(some 8), .fieldAddr 26 (.tmp 1) 0, none⟩, ⟨(some 9), .fieldAddr 24 (.tmp 8) 0, none⟩, ⟨(some 10), .load 22 (.tmp 9), none⟩, ⟨(some 2), .assign (.tmp 10), none⟩, ⟨(some 3), .assign (.const (.bool true)), none⟩]
abbrev s112_7 : SC := .seq s112_6 .ret
abbrev s112_8 : SC := .seq s112_5 s112_7
abbrev s112_9 : SC := .seq s112_0 s112_8
noncomputable def c112 : Code := match Try.f112.body with | some c => c | none => .skip
theorem b112 : Try.f112.body = some c112 := by kernel_rfl
theorem sc112 : toSC C112 c112 = some s112_9 := by kernel_rfl
set_option maxRecDepth 100000 in
theorem run112 {args : List AV} {H : Heap} {R : Out → Heap → Prop} (hl : args.length ≤ 11) (h : SWp Try.prog C112 s112_9 (finK [.tmp 2, .tmp 3] R) ⟨argSlots 0 args, [], H⟩) : ∃ out H', CallRuns Try.prog 112 args H out H' ∧ R out H' :=
  callRuns_of (C := C112) (by kernel_rfl) hD hZ Try.func112 b112 Try.ntmps112 Try.call112 sc112 (by kernel_rfl) hl h

-- function 113: portcullis/portcullisref17.edges
def C113 : Cfg := ⟨29, [2, 4], zget ztab⟩
@[simp] theorem L113 : C113.L = [2, 4] := rfl
@[simp] theorem Z113 : C113.Z = zget ztab := rfl
abbrev s113_0 : SC := .region [⟨(some 2), .box 26 (.tmp 0), none⟩, ⟨(some 4), .alloc 26, none⟩, ⟨(some 5), .assign (.const (.bool false)), none⟩]
abbrev s113_1 : SC := .region [⟨(some 6), .fieldAddr 26 (.tmp 2) 1, none⟩, ⟨(some 7), .load 22 (.tmp 6), none⟩, ⟨(some 8), .move (.tmp 1), none⟩, ⟨(some 9), .binOp .eql 22 (.tmp 7) (.tmp 8) 22, none⟩]
abbrev s113_2 : SC := .region [⟨(some 10), .move (.tmp 1), none⟩, ⟨(some 11), .binOp .eql 22 (.tmp 10) (.const (.int .u64 18446744073709551615)) 22, none⟩]
abbrev s113_3 : SC := .region [⟨(some 12), .load 26 (.tmp 2), none⟩, ⟨none, .store 26 (.tmp 4) (.tmp 12), none⟩, ⟨(some 5), .assign (.const (.bool false)), none⟩]
abbrev s113_4 : SC := .seq s113_3 .ret
abbrev s113_5 : SC := .cond (.tmp 11) s113_4 .skip
abbrev s113_6 : SC := .seq s113_2 s113_5
abbrev s113_7 : SC := .region [⟨(some 13), .fieldAddr 26 (.tmp 2) 1, none⟩, ⟨(some 14), .load 22 (.tmp 13), none⟩, ⟨(some 15), .binOp .add 22 (.tmp 14) (.const (.int .u64 1)) 22, none⟩, ⟨(some 16), .fieldAddr 26 (.tmp 2) 1, none⟩, ⟨none, .store 22 (.tmp 16) (.tmp 15), none⟩]
abbrev s113_8 : SC := .seq s113_6 s113_7
abbrev s113_9 : SC := .cond (.tmp 9) s113_8 .skip
abbrev s113_10 : SC := .seq s113_1 s113_9
abbrev s113_11 : SC := .region [⟨(some 17), .fieldAddr 26 (.tmp 2) 2, none⟩, ⟨(some 18), .load 22 (.tmp 17), none⟩, ⟨(some 19), .move (.tmp 1), none⟩, ⟨(some 20), .binOp .eql 22 (.tmp 18) (.tmp 19) 22, none⟩]
abbrev s113_12 : SC := .region [⟨(some 21), .move (.tmp 1), none⟩, ⟨(some 22), .binOp .eql 22 (.tmp 21) (.const (.int .u64 0)) 22, none⟩]
abbrev s113_13 : SC := .region [⟨(some 23), .load 26 (.tmp 2), none⟩, ⟨none, .store 26 (.tmp 4) (.tmp 23), none⟩, ⟨(some 5), .assign (.const (.bool false)), none⟩]
abbrev s113_14 : SC := .seq s113_13 .ret
abbrev s113_15 : SC := .cond (.tmp 22) s113_14 .skip
abbrev s113_16 : SC := .seq s113_12 s113_15
abbrev s113_17 : SC := .region [⟨(some 24), .fieldAddr 26 (.tmp 2) 2, none⟩, ⟨(some 25), .load 22 (.tmp 24), none⟩, ⟨(some 26), .binOp .sub 22 (.tmp 25) (.const (.int .u64 1)) 22, none⟩, ⟨(some 27), .fieldAddr 26 (.tmp 2) 2, none⟩, ⟨none, .store 22 (.tmp 27) (.tmp 26), none⟩]
abbrev s113_18 : SC := .seq s113_16 s113_17
abbrev s113_19 : SC := .cond (.tmp 20) s113_18 .skip
abbrev s113_20 : SC := .seq s113_11 s113_19
abbrev s113_21 : SC := .region [⟨(some 28), .load 26 (.tmp 2), none⟩, ⟨none, .store 26 (.tmp 4) (.tmp 28), none⟩, ⟨(some 5), .assign (.const (.bool true)), none⟩]
abbrev s113_22 : SC := .seq s113_21 .ret
abbrev s113_23 : SC := .seq s113_20 s113_22
abbrev s113_24 : SC := .seq s113_10 s113_23
abbrev s113_25 : SC := .seq s113_0 s113_24
noncomputable def c113 : Code := match Try.f113.body with | some c => c | none => .skip
theorem b113 : Try.f113.body = some c113 := by kernel_rfl
theorem sc113 : toSC C113 c113 = some s113_25 := by kernel_rfl
set_option maxRecDepth 100000 in
theorem run113 {args : List AV} {H : Heap} {R : Out → Heap → Prop} (hl : args.length ≤ 29) (h : SWp Try.prog C113 s113_25 (finK [.cell 4 26, .tmp 5] R) ⟨argSlots 0 args, [], H⟩) : ∃ out H', CallRuns Try.prog 113 args H out H' ∧ R out H' :=
  callRuns_of (C := C113) (by kernel_rfl) hD hZ Try.func113 b113 Try.ntmps113 Try.call113 sc113 (by kernel_rfl) hl h

-- function 73: portcullis/portcullisref17.unequal
def C73 : Cfg := ⟨62, [2, 3, 4, 5], zget ztab⟩
@[simp] theorem L73 : C73.L = [2, 3, 4, 5] := rfl
@[simp] theorem Z73 : C73.Z = zget ztab := rfl
abbrev s73_0 : SC := .region [⟨(some 2), .box 26 (.tmp 0), none⟩, ⟨(some 3), .box 26 (.tmp 1), none⟩, ⟨(some 4), .alloc 26, none⟩, ⟨(some 5), .alloc 26, none⟩, ⟨(some 6), .assign (.const (.bool false)), none⟩]
abbrev s73_1 : SC := .region [⟨(some 13), .load 26 (.tmp 2), none⟩, ⟨(some 14), .call ⟨.value (.func 112), #[.tmp 13], #[26]⟩, none⟩, ⟨(some 12), .move (.tmp 14), none⟩, ⟨(some 15), .extract (.tmp 12) 0, none⟩, ⟨(some 16), .extract (.tmp 12) 1, none⟩, ⟨(some 7), .assign (.tmp 15), none⟩, ⟨(some 8), .assign (.tmp 16), none⟩]
abbrev s73_2 : SC := .region [⟨(some 18), .load 26 (.tmp 3), none⟩, ⟨(some 19), .call ⟨.value (.func 112), #[.tmp 18], #[26]⟩, none⟩, ⟨(some 17), .move (.tmp 19), none⟩, ⟨(some 20), .extract (.tmp 17) 0, none⟩, ⟨(some 21), .extract (.tmp 17) 1, none⟩, ⟨(some 9), .assign (.tmp 20), none⟩, ⟨(some 10), .assign (.tmp 21), none⟩]
abbrev s73_3 : SC := .region [⟨(some 22), .move (.tmp 8), none⟩, ⟨(some 23), .move (.tmp 22), none⟩, ⟨(some 24), .move (.tmp 10), (some (23, true))⟩, ⟨(some 25), .pick (.tmp 23) (.tmp 24) (.const (.bool false)), none⟩, ⟨(some 26), .move (.tmp 25), none⟩, ⟨(some 27), .move (.tmp 7), (some (26, true))⟩, ⟨(some 28), .move (.tmp 9), (some (26, true))⟩, ⟨(some 29), .binOp .eql 22 (.tmp 27) (.tmp 28) 22, (some (26, true))⟩, ⟨(some 30), .pick (.tmp 26) (.tmp 29) (.const (.bool false)), none⟩, ⟨(some 31), .unOp .not 4 (.tmp 30), none⟩, ⟨(some 11), .assign (.tmp 31), none⟩]
abbrev s73_4 : SC := .region [⟨(some 32), .move (.tmp 11), none⟩, ⟨(some 33), .move (.tmp 32), none⟩, ⟨(some 34), .move (.tmp 10), (some (33, true))⟩, ⟨(some 35), .pick (.tmp 33) (.tmp 34) (.const (.bool false)), none⟩]
abbrev s73_5 : SC := .region [⟨(some 37), .load 26 (.tmp 2), none⟩, ⟨(some 38), .move (.tmp 9), none⟩, ⟨(some 39), .call ⟨.value (.func 113), #[.tmp 37, .tmp 38], #[26, 22]⟩, none⟩, ⟨(some 36), .move (.tmp 39), none⟩, ⟨(some 40), .extract (.tmp 36) 0, none⟩, ⟨(some 41), .extract (.tmp 36) 1, none⟩, ⟨none, .store 26 (.tmp 2) (.tmp 40), none⟩, ⟨(some 11), .assign (.tmp 41), none⟩]
abbrev s73_6 : SC := .cond (.tmp 35) s73_5 .skip
abbrev s73_7 : SC := .seq s73_4 s73_6
abbrev s73_8 : SC := .region [⟨(some 42), .move (.tmp 11), none⟩, ⟨(some 43), .move (.tmp 42), none⟩, ⟨(some 44), .move (.tmp 8), (some (43, true))⟩, ⟨(some 45), .pick (.tmp 43) (.tmp 44) (.const (.bool false)), none⟩]
abbrev s73_9 : SC := .region [⟨(some 47), .load 26 (.tmp 3), none⟩, ⟨(some 48), .move (.tmp 7), none⟩, ⟨(some 49), .call ⟨.value (.func 113), #[.tmp 47, .tmp 48], #[26, 22]⟩, none⟩, ⟨(some 46), .move (.tmp 49), none⟩, ⟨(some 50), .extract (.tmp 46) 0, none⟩, ⟨(some 51), .extract (.tmp 46) 1, none⟩, ⟨none, .store 26 (.tmp 3) (.tmp 50), none⟩, ⟨(some 11), .assign (.tmp 51), none⟩]
abbrev s73_10 : SC := .cond (.tmp 45) s73_9 .skip
abbrev s73_11 : SC := .seq s73_8 s73_10
abbrev s73_12 : SC := .region [⟨(some 52), .move (.tmp 11), none⟩, ⟨(some 53), .unOp .not 4 (.tmp 52), none⟩]
abbrev s73_13 : SC := .region [⟨(some 54), .build 26 #[], none⟩, ⟨(some 55), .build 26 #[], none⟩, ⟨none, .store 26 (.tmp 4) (.tmp 54), none⟩, ⟨none, .store 26 (.tmp 5) (.tmp 55), none⟩, ⟨(some 6), .assign (.const (.bool false)), none⟩]
abbrev s73_14 : SC := .seq s73_13 .ret
abbrev s73_15 : SC := .cond (.tmp 53) s73_14 .skip
abbrev s73_16 : SC := .seq s73_12 s73_15
abbrev s73_17 : SC := .region [⟨(some 56), .load 26 (.tmp 2), none⟩, ⟨(some 57), .load 26 (.tmp 3), none⟩, ⟨(some 58), .call ⟨.value (.func 72), #[.tmp 56, .tmp 57], #[26, 26]⟩, none⟩, ⟨(some 59), .extract (.tmp 58) 0, none⟩, ⟨(some 60), .extract (.tmp 58) 1, none⟩, ⟨(some 61), .extract (.tmp 58) 2, none⟩, ⟨none, .store 26 (.tmp 4) (.tmp 59), none⟩, ⟨none, .store 26 (.tmp 5) (.tmp 60), none⟩, ⟨(some 6), .assign (.tmp 61), none⟩]
abbrev s73_18 : SC := .seq s73_17 .ret
abbrev s73_19 : SC := .seq s73_16 s73_18
abbrev s73_20 : SC := .seq s73_11 s73_19
abbrev s73_21 : SC := .seq s73_7 s73_20
abbrev s73_22 : SC := .seq s73_3 s73_21
abbrev s73_23 : SC := .seq s73_2 s73_22
abbrev s73_24 : SC := .seq s73_1 s73_23
abbrev s73_25 : SC := .seq s73_0 s73_24
noncomputable def c73 : Code := match Try.f73.body with | some c => c | none => .skip
theorem b73 : Try.f73.body = some c73 := by kernel_rfl
theorem sc73 : toSC C73 c73 = some s73_25 := by kernel_rfl
set_option maxRecDepth 100000 in
theorem run73 {args : List AV} {H : Heap} {R : Out → Heap → Prop} (hl : args.length ≤ 62) (h : SWp Try.prog C73 s73_25 (finK [.cell 4 26, .cell 5 26, .tmp 6] R) ⟨argSlots 0 args, [], H⟩) : ∃ out H', CallRuns Try.prog 73 args H out H' ∧ R out H' :=
  callRuns_of (C := C73) (by kernel_rfl) hD hZ Try.func73 b73 Try.ntmps73 Try.call73 sc73 (by kernel_rfl) hl h

-- function 74: portcullis/portcullisref17.above
def C74 : Cfg := ⟨43, [3, 4, 6, 7], zget ztab⟩
@[simp] theorem L74 : C74.L = [3, 4, 6, 7] := rfl
@[simp] theorem Z74 : C74.Z = zget ztab := rfl
abbrev s74_0 : SC := .region [⟨(some 3), .box 26 (.tmp 0), none⟩, ⟨(some 4), .box 26 (.tmp 1), none⟩, ⟨(some 6), .alloc 26, none⟩, ⟨(some 7), .alloc 26, none⟩, ⟨(some 8), .assign (.const (.bool false)), none⟩]
abbrev s74_1 : SC := .region [⟨(some 9), .assign (.const (.int .u64 0)), none⟩]
abbrev s74_2 : SC := .region [⟨(some 10), .move (.tmp 2), none⟩]
abbrev s74_3 : SC := .region [⟨(some 11), .fieldAddr 26 (.tmp 4) 1, none⟩, ⟨(some 12), .load 22 (.tmp 11), none⟩, ⟨(some 13), .binOp .eql 22 (.tmp 12) (.const (.int .u64 18446744073709551615)) 22, none⟩, ⟨(some 14), .move (.tmp 13), none⟩, ⟨(some 15), .fieldAddr 26 (.tmp 3) 2, (some (14, false))⟩, ⟨(some 16), .load 22 (.tmp 15), (some (14, false))⟩, ⟨(some 17), .binOp .eql 22 (.tmp 16) (.const (.int .u64 0)) 22, (some (14, false))⟩, ⟨(some 18), .pick (.tmp 14) (.const (.bool true)) (.tmp 17), none⟩]
abbrev s74_4 : SC := .region [⟨(some 19), .build 26 #[], none⟩, ⟨(some 20), .build 26 #[], none⟩, ⟨none, .store 26 (.tmp 6) (.tmp 19), none⟩, ⟨none, .store 26 (.tmp 7) (.tmp 20), none⟩, ⟨(some 8), .assign (.const (.bool false)), none⟩]
abbrev s74_5 : SC := .seq s74_4 .ret
abbrev s74_6 : SC := .cond (.tmp 18) s74_5 .skip
abbrev s74_7 : SC := .seq s74_3 s74_6
abbrev s74_8 : SC := .region [⟨(some 9), .assign (.const (.int .u64 1)), none⟩]
abbrev s74_9 : SC := .seq s74_7 s74_8
abbrev s74_10 : SC := .cond (.tmp 10) s74_9 .skip
abbrev s74_11 : SC := .seq s74_2 s74_10
abbrev s74_12 : SC := .region [⟨(some 21), .fieldAddr 26 (.tmp 3) 1, none⟩, ⟨(some 22), .load 22 (.tmp 21), none⟩, ⟨(some 23), .fieldAddr 26 (.tmp 4) 1, none⟩, ⟨(some 24), .load 22 (.tmp 23), none⟩, ⟨(some 25), .move (.tmp 9), none⟩, ⟨(some 26), .binOp .add 22 (.tmp 24) (.tmp 25) 22, none⟩, ⟨(some 27), .call ⟨.builtin .max, #[.tmp 22, .tmp 26], #[22, 22]⟩, none⟩, ⟨(some 28), .fieldAddr 26 (.tmp 3) 1, none⟩, ⟨none, .store 22 (.tmp 28) (.tmp 27), none⟩]
abbrev s74_13 : SC := .region [⟨(some 29), .fieldAddr 26 (.tmp 4) 2, none⟩, ⟨(some 30), .load 22 (.tmp 29), none⟩, ⟨(some 31), .fieldAddr 26 (.tmp 3) 2, none⟩, ⟨(some 32), .load 22 (.tmp 31), none⟩, ⟨(some 33), .move (.tmp 9), none⟩, ⟨(some 34), .binOp .sub 22 (.tmp 32) (.tmp 33) 22, none⟩, ⟨(some 35), .call ⟨.builtin .min, #[.tmp 30, .tmp 34], #[22, 22]⟩, none⟩, ⟨(some 36), .fieldAddr 26 (.tmp 4) 2, none⟩, ⟨none, .store 22 (.tmp 36) (.tmp 35), none⟩]
abbrev s74_14 : SC := .region [⟨(some 37), .load 26 (.tmp 3), none⟩, ⟨(some 38), .load 26 (.tmp 4), none⟩, ⟨(some 39), .call ⟨.value (.func 72), #[.tmp 37, .tmp 38], #[26, 26]⟩, none⟩, ⟨(some 40), .extract (.tmp 39) 0, none⟩, ⟨(some 41), .extract (.tmp 39) 1, none⟩, ⟨(some 42), .extract (.tmp 39) 2, none⟩, ⟨none, .store 26 (.tmp 6) (.tmp 40), none⟩, ⟨none, .store 26 (.tmp 7) (.tmp 41), none⟩, ⟨(some 8), .assign (.tmp 42), none⟩]
abbrev s74_15 : SC := .seq s74_14 .ret
abbrev s74_16 : SC := .seq s74_13 s74_15
abbrev s74_17 : SC := .seq s74_12 s74_16
abbrev s74_18 : SC := .seq s74_11 s74_17
abbrev s74_19 : SC := .seq s74_1 s74_18
abbrev s74_20 : SC := .seq s74_0 s74_19
noncomputable def c74 : Code := match Try.f74.body with | some c => c | none => .skip
theorem b74 : Try.f74.body = some c74 := by kernel_rfl
theorem sc74 : toSC C74 c74 = some s74_20 := by kernel_rfl
set_option maxRecDepth 100000 in
theorem run74 {args : List AV} {H : Heap} {R : Out → Heap → Prop} (hl : args.length ≤ 43) (h : SWp Try.prog C74 s74_20 (finK [.cell 6 26, .cell 7 26, .tmp 8] R) ⟨argSlots 0 args, [], H⟩) : ∃ out H', CallRuns Try.prog 74 args H out H' ∧ R out H' :=
  callRuns_of (C := C74) (by kernel_rfl) hD hZ Try.func74 b74 Try.ntmps74 Try.call74 sc74 (by kernel_rfl) hl h

-- function 75: portcullis/portcullisref17.turn
def C75 : Cfg := ⟨12, [3, 4, 6, 7], zget ztab⟩
@[simp] theorem L75 : C75.L = [3, 4, 6, 7] := rfl
@[simp] theorem Z75 : C75.Z = zget ztab := rfl
abbrev s75_0 : SC := .region [⟨(some 3), .box 26 (.tmp 0), none⟩, ⟨(some 4), .box 26 (.tmp 1), none⟩, ⟨(some 6), .alloc 26, none⟩, ⟨(some 7), .alloc 26, none⟩, ⟨(some 8), .assign (.const (.bool false)), none⟩]
abbrev s75_1 : SC := .draw [(⟨(some 9), .load 26 (.tmp 4), none⟩, ⟨[4], [], false, false⟩), (⟨(some 10), .load 26 (.tmp 3), none⟩, ⟨[3], [], false, false⟩), (⟨(some 11), .move (.tmp 2), none⟩, ⟨[], [], false, false⟩), (⟨none, .store 26 (.tmp 6) (.tmp 9), none⟩, ⟨[], [6], false, false⟩), (⟨none, .store 26 (.tmp 7) (.tmp 10), none⟩, ⟨[], [7], false, false⟩), (⟨(some 8), .assign (.tmp 11), none⟩, ⟨[], [], false, false⟩)]
abbrev s75_2 : SC := .seq s75_1 .ret
abbrev s75_3 : SC := .seq s75_0 s75_2
noncomputable def c75 : Code := match Try.f75.body with | some c => c | none => .skip
theorem b75 : Try.f75.body = some c75 := by kernel_rfl
theorem sc75 : toSC C75 c75 = some s75_3 := by kernel_rfl
set_option maxRecDepth 100000 in
theorem run75 {args : List AV} {H : Heap} {R : Out → Heap → Prop} (hl : args.length ≤ 12) (h : SWp Try.prog C75 s75_3 (finK [.cell 6 26, .cell 7 26, .tmp 8] R) ⟨argSlots 0 args, [], H⟩) : ∃ out H', CallRuns Try.prog 75 args H out H' ∧ R out H' :=
  callRuns_of (C := C75) (by kernel_rfl) hD hZ Try.func75 b75 Try.ntmps75 Try.call75 sc75 (by kernel_rfl) hl h

-- function 76: portcullis/portcullisref17.shares
def C76 : Cfg := ⟨82, [3, 4, 6, 7, 11], zget ztab⟩
@[simp] theorem L76 : C76.L = [3, 4, 6, 7, 11] := rfl
@[simp] theorem Z76 : C76.Z = zget ztab := rfl
abbrev s76_0 : SC := .region [⟨(some 3), .box 26 (.tmp 0), none⟩, ⟨(some 4), .box 26 (.tmp 1), none⟩, ⟨(some 6), .alloc 26, none⟩, ⟨(some 7), .alloc 26, none⟩, ⟨(some 8), .assign (.const (.bool false)), none⟩]
abbrev s76_1 : SC := .region [⟨(some 13), .load 26 (.tmp 4), none⟩, ⟨(some 14), .call ⟨.value (.func 112), #[.tmp 13], #[26]⟩, none⟩, ⟨(some 12), .move (.tmp 14), none⟩, ⟨(some 15), .extract (.tmp 12) 0, none⟩, ⟨(some 16), .extract (.tmp 12) 1, none⟩, ⟨(some 9), .assign (.tmp 15), none⟩, ⟨(some 10), .assign (.tmp 16), none⟩]
abbrev s76_2 : SC := .region [⟨(some 17), .fieldAddr 26 (.tmp 3) 0, none⟩, ⟨(some 18), .load 24 (.tmp 17), none⟩, ⟨(some 11), .alloc 24, none⟩, ⟨none, .store 24 (.tmp 11) (.tmp 18), none⟩]
abbrev s76_3 : SC := .region [⟨(some 19), .move (.tmp 2), none⟩]
abbrev s76_4 : SC := .region [⟨(some 20), .fieldAddr 24 (.tmp 11) 0, none⟩, ⟨(some 21), .load 22 (.tmp 20), none⟩, ⟨(some 22), .fieldAddr 24 (.tmp 11) 1, none⟩, ⟨(some 23), .load 22 (.tmp 22), none⟩, ⟨(some 24), .binOp .or 22 (.tmp 21) (.tmp 23) 22, none⟩, ⟨(some 25), .fieldAddr 26 (.tmp 4) 0, none⟩, ⟨(some 26), .fieldAddr 24 (.tmp 25) 0, none⟩, ⟨(some 27), .load 22 (.tmp 26), none⟩, ⟨(some 28), .fieldAddr 26 (.tmp 4) 0, none⟩, ⟨(some 29), .fieldAddr 24 (.tmp 28) 1, none⟩, ⟨(some 30), .load 22 (.tmp 29), none⟩, ⟨(some 31), .binOp .or 22 (.tmp 27) (.tmp 30) 22, none⟩, ⟨(some 32), .binOp .and 22 (.tmp 24) (.tmp 31) 22, none⟩, ⟨(some 33), .binOp .eql 22 (.tmp 32) (.const (.int .u64 0)) 22, none⟩]
abbrev s76_5 : SC := .region [⟨(some 34), .build 26 #[], none⟩, ⟨(some 35), .build 26 #[], none⟩, ⟨none, .store 26 (.tmp 6) (.tmp 34), none⟩, ⟨none, .store 26 (.tmp 7) (.tmp 35), none⟩, ⟨(some 8), .assign (.const (.bool false)), none⟩]
abbrev s76_6 : SC := .seq s76_5 .ret
abbrev s76_7 : SC := .cond (.tmp 33) s76_6 .skip
abbrev s76_8 : SC := .seq s76_4 s76_7
abbrev s76_9 : SC := .region [⟨(some 36), .move (.tmp 10), none⟩, ⟨(some 37), .move (.tmp 36), none⟩, ⟨(some 38), .move (.tmp 9), (some (37, true))⟩, ⟨(some 39), .binOp .neq 22 (.tmp 38) (.const (.int .u64 0)) 22, (some (37, true))⟩, ⟨(some 40), .pick (.tmp 37) (.tmp 39) (.const (.bool false)), none⟩, ⟨(some 41), .move (.tmp 40), none⟩, ⟨(some 42), .move (.tmp 9), (some (41, true))⟩, ⟨(some 43), .move (.tmp 9), (some (41, true))⟩, ⟨(some 44), .binOp .sub 22 (.tmp 43) (.const (.int .u64 1)) 22, (some (41, true))⟩, ⟨(some 45), .binOp .and 22 (.tmp 42) (.tmp 44) 22, (some (41, true))⟩, ⟨(some 46), .binOp .eql 22 (.tmp 45) (.const (.int .u64 0)) 22, (some (41, true))⟩, ⟨(some 47), .pick (.tmp 41) (.tmp 46) (.const (.bool false)), none⟩]
abbrev s76_10 : SC := .region [⟨(some 48), .fieldAddr 24 (.tmp 11) 0, none⟩, ⟨(some 49), .load 22 (.tmp 48), none⟩, ⟨(some 50), .move (.tmp 9), none⟩, ⟨(some 51), .binOp .or 22 (.tmp 49) (.tmp 50) 22, none⟩, ⟨(some 52), .fieldAddr 24 (.tmp 11) 1, none⟩, ⟨(some 53), .load 22 (.tmp 52), none⟩, ⟨(some 54), .move (.tmp 9), none⟩, ⟨(some 55), .binOp .andNot 22 (.tmp 53) (.tmp 54) 22, none⟩, ⟨(some 56), .build 24 #[(0, .tmp 51), (1, .tmp 55)], none⟩, ⟨(some 57), .fieldAddr 26 (.tmp 3) 0, none⟩, ⟨none, .store 24 (.tmp 57) (.tmp 56), none⟩]
abbrev s76_11 : SC := .cond (.tmp 47) s76_10 .skip
abbrev s76_12 : SC := .seq s76_9 s76_11
abbrev s76_13 : SC := .seq s76_8 s76_12
abbrev s76_14 : SC := .region [⟨(some 58), .fieldAddr 24 (.tmp 11) 0, none⟩, ⟨(some 59), .load 22 (.tmp 58), none⟩, ⟨(some 60), .fieldAddr 26 (.tmp 4) 0, none⟩, ⟨(some 61), .fieldAddr 24 (.tmp 60) 0, none⟩, ⟨(some 62), .load 22 (.tmp 61), none⟩, ⟨(some 63), .binOp .and 22 (.tmp 59) (.tmp 62) 22, none⟩, ⟨(some 64), .binOp .neq 22 (.tmp 63) (.const (.int .u64 0)) 22, none⟩]
abbrev s76_15 : SC := .region [⟨(some 65), .build 26 #[], none⟩, ⟨(some 66), .build 26 #[], none⟩, ⟨none, .store 26 (.tmp 6) (.tmp 65), none⟩, ⟨none, .store 26 (.tmp 7) (.tmp 66), none⟩, ⟨(some 8), .assign (.const (.bool false)), none⟩]
abbrev s76_16 : SC := .seq s76_15 .ret
abbrev s76_17 : SC := .cond (.tmp 64) s76_16 .skip
abbrev s76_18 : SC := .seq s76_14 s76_17
abbrev s76_19 : SC := .region [⟨(some 67), .move (.tmp 10), none⟩]
abbrev s76_20 : SC := .region [⟨(some 68), .fieldAddr 24 (.tmp 11) 0, none⟩, ⟨(some 69), .load 22 (.tmp 68), none⟩, ⟨(some 70), .fieldAddr 24 (.tmp 11) 1, none⟩, ⟨(some 71), .load 22 (.tmp 70), none⟩, ⟨(some 72), .move (.tmp 9), none⟩, ⟨(some 73), .binOp .andNot 22 (.tmp 71) (.tmp 72) 22, none⟩, ⟨(some 74), .build 24 #[(0, .tmp 69), (1, .tmp 73)], none⟩, ⟨(some 75), .fieldAddr 26 (.tmp 3) 0, none⟩, ⟨none, .store 24 (.tmp 75) (.tmp 74), none⟩]
abbrev s76_21 : SC := .cond (.tmp 67) s76_20 .skip
abbrev s76_22 : SC := .seq s76_19 s76_21
abbrev s76_23 : SC := .seq s76_18 s76_22
abbrev s76_24 : SC := .cond (.tmp 19) s76_13 s76_23
abbrev s76_25 : SC := .seq s76_3 s76_24
abbrev s76_26 : SC := .region [⟨(some 76), .load 26 (.tmp 3), none⟩, ⟨(some 77), .load 26 (.tmp 4), none⟩, ⟨(some 78), .call ⟨.value (.func 72), #[.tmp 76, .tmp 77], #[26, 26]⟩, none⟩, ⟨(some 79), .extract (.tmp 78) 0, none⟩, ⟨(some 80), .extract (.tmp 78) 1, none⟩, ⟨(some 81), .extract (.tmp 78) 2, none⟩, ⟨none, .store 26 (.tmp 6) (.tmp 79), none⟩, ⟨none, .store 26 (.tmp 7) (.tmp 80), none⟩, ⟨(some 8), .assign (.tmp 81), none⟩]
abbrev s76_27 : SC := .seq s76_26 .ret
abbrev s76_28 : SC := .seq s76_25 s76_27
abbrev s76_29 : SC := .seq s76_2 s76_28
abbrev s76_30 : SC := .seq s76_1 s76_29
abbrev s76_31 : SC := .seq s76_0 s76_30
noncomputable def c76 : Code := match Try.f76.body with | some c => c | none => .skip
theorem b76 : Try.f76.body = some c76 := by kernel_rfl
theorem sc76 : toSC C76 c76 = some s76_31 := by kernel_rfl
set_option maxRecDepth 100000 in
theorem run76 {args : List AV} {H : Heap} {R : Out → Heap → Prop} (hl : args.length ≤ 82) (h : SWp Try.prog C76 s76_31 (finK [.cell 6 26, .cell 7 26, .tmp 8] R) ⟨argSlots 0 args, [], H⟩) : ∃ out H', CallRuns Try.prog 76 args H out H' ∧ R out H' :=
  callRuns_of (C := C76) (by kernel_rfl) hD hZ Try.func76 b76 Try.ntmps76 Try.call76 sc76 (by kernel_rfl) hl h

-- function 23: portcullis/portcullisref17.Refine
def C23 : Cfg := ⟨159, [6, 7, 8, 9, 13, 15], zget ztab⟩
@[simp] theorem L23 : C23.L = [6, 7, 8, 9, 13, 15] := rfl
@[simp] theorem Z23 : C23.Z = zget ztab := rfl
abbrev s23_0 : SC := .region [⟨(some 6), .box 26 (.tmp 2), none⟩, ⟨(some 7), .box 26 (.tmp 3), none⟩, ⟨(some 8), .alloc 26, none⟩, ⟨(some 9), .alloc 26, none⟩, ⟨(some 10), .assign (.const (.bool false)), none⟩]
abbrev s23_1 : SC := .region [⟨(some 16), .move (.tmp 0), none⟩, ⟨(some 17), .call ⟨.value (.func 27), #[.tmp 16], #[3]⟩, none⟩, ⟨(some 18), .binOp .lss 3 (.tmp 17) (.const (.int .i64 0)) 3, none⟩, ⟨(some 19), .move (.tmp 18), none⟩, ⟨(some 20), .move (.tmp 1), (some (19, false))⟩, ⟨(some 21), .unOp .not 4 (.tmp 20), (some (19, false))⟩, ⟨(some 22), .move (.tmp 21), (some (19, false))⟩, ⟨(some 23), .fieldAddr 26 (.tmp 6) 2, (some (22, true))⟩, ⟨(some 24), .load 22 (.tmp 23), (some (22, true))⟩, ⟨(some 25), .binOp .geq 22 (.tmp 24) (.const (.int .u64 4294967296)) 22, (some (22, true))⟩, ⟨(some 26), .move (.tmp 25), (some (22, true))⟩, ⟨(some 27), .fieldAddr 26 (.tmp 7) 2, (some (26, false))⟩, ⟨(some 28), .load 22 (.tmp 27), (some (26, false))⟩, ⟨(some 29), .binOp .geq 22 (.tmp 28) (.const (.int .u64 4294967296)) 22, (some (26, false))⟩, ⟨(some 30), .pick (.tmp 26) (.const (.bool true)) (.tmp 29), (some (22, true))⟩, ⟨(some 31), .pick (.tmp 22) (.tmp 30) (.const (.bool false)), (some (19, false))⟩, ⟨(some 32), .pick (.tmp 19) (.const (.bool true)) (.tmp 31), none⟩]
abbrev s23_2 : SC := .draw [(⟨(some 33), .load 26 (.tmp 6), none⟩, ⟨[6], [], false, false⟩), (⟨(some 34), .load 26 (.tmp 7), none⟩, ⟨[7], [], false, false⟩), (⟨none, .store 26 (.tmp 8) (.tmp 33), none⟩, ⟨[], [8], false, false⟩), (⟨none, .store 26 (.tmp 9) (.tmp 34), none⟩, ⟨[], [9], false, false⟩), (⟨(some 10), .assign (.const (.bool true)), none⟩, ⟨[], [], false, false⟩)]
abbrev s23_3 : SC := .seq s23_2 .ret
abbrev s23_4 : SC := .cond (.tmp 32) s23_3 .skip
abbrev s23_5 : SC := .seq s23_1 s23_4
abbrev s23_6 : SC := .region [⟨(some 35), .move (.tmp 0), none⟩, ⟨(some 36), .binOp .eql 3 (.tmp 35) (.const (.int .i64 96)) 3, none⟩, ⟨(some 37), .move (.tmp 36), none⟩, ⟨(some 38), .move (.tmp 0), (some (37, false))⟩, ⟨(some 39), .binOp .eql 3 (.tmp 38) (.const (.int .i64 112)) 3, (some (37, false))⟩, ⟨(some 40), .pick (.tmp 37) (.const (.bool true)) (.tmp 39), none⟩, ⟨(some 41), .move (.tmp 40), none⟩, ⟨(some 42), .move (.tmp 0), (some (41, false))⟩, ⟨(some 43), .binOp .eql 3 (.tmp 42) (.const (.int .i64 192)) 3, (some (41, false))⟩, ⟨(some 44), .pick (.tmp 41) (.const (.bool true)) (.tmp 43), none⟩, ⟨(some 45), .move (.tmp 44), none⟩, ⟨(some 46), .move (.tmp 0), (some (45, false))⟩, ⟨(some 47), .binOp .eql 3 (.tmp 46) (.const (.int .i64 208)) 3, (some (45, false))⟩, ⟨(some 48), .pick (.tmp 45) (.const (.bool true)) (.tmp 47), none⟩, ⟨(some 11), .assign (.tmp 48), none⟩]
abbrev s23_7 : SC := .region [⟨(some 12), .assign (.const (.int .u64 9223372036854775808)), none⟩]
abbrev s23_8 : SC := .region [⟨(some 49), .move (.tmp 1), none⟩, ⟨(some 50), .unOp .not 4 (.tmp 49), none⟩]
abbrev s23_9 : SC := .region [⟨(some 12), .assign (.const (.int .u64 2147483648)), none⟩]
abbrev s23_10 : SC := .cond (.tmp 50) s23_9 .skip
abbrev s23_11 : SC := .seq s23_8 s23_10
abbrev s23_12 : SC := .region [⟨(some 51), .move (.tmp 11), none⟩, ⟨(some 52), .move (.tmp 51), none⟩, ⟨(some 53), .fieldAddr 26 (.tmp 6) 2, (some (52, true))⟩, ⟨(some 54), .load 22 (.tmp 53), (some (52, true))⟩, ⟨(some 55), .move (.tmp 12), (some (52, true))⟩, ⟨(some 56), .binOp .geq 22 (.tmp 54) (.tmp 55) 22, (some (52, true))⟩, ⟨(some 57), .move (.tmp 56), (some (52, true))⟩, ⟨(some 58), .fieldAddr 26 (.tmp 7) 2, (some (57, false))⟩, ⟨(some 59), .load 22 (.tmp 58), (some (57, false))⟩, ⟨(some 60), .move (.tmp 12), (some (57, false))⟩, ⟨(some 61), .binOp .geq 22 (.tmp 59) (.tmp 60) 22, (some (57, false))⟩, ⟨(some 62), .pick (.tmp 57) (.const (.bool true)) (.tmp 61), (some (52, true))⟩, ⟨(some 63), .pick (.tmp 52) (.tmp 62) (.const (.bool false)), none⟩]
abbrev s23_13 : SC := .draw [(⟨(some 64), .load 26 (.tmp 6), none⟩, ⟨[6], [], false, false⟩), (⟨(some 65), .load 26 (.tmp 7), none⟩, ⟨[7], [], false, false⟩), (⟨none, .store 26 (.tmp 8) (.tmp 64), none⟩, ⟨[], [8], false, false⟩), (⟨none, .store 26 (.tmp 9) (.tmp 65), none⟩, ⟨[], [9], false, false⟩), (⟨(some 10), .assign (.const (.bool true)), none⟩, ⟨[], [], false, false⟩)]
abbrev s23_14 : SC := .seq s23_13 .ret
abbrev s23_15 : SC := .cond (.tmp 63) s23_14 .skip
abbrev s23_16 : SC := .seq s23_12 s23_15
abbrev s23_17 : SC := .region [⟨(some 66), .move (.tmp 0), none⟩]
abbrev s23_18 : SC := .region [⟨(some 68), .binOp .eql 3 (.tmp 66) (.const (.int .i64 16)) 3, none⟩, ⟨(some 67), .assign (.tmp 68), none⟩]
abbrev s23_19 : SC := .region [⟨(some 70), .fieldAddr 26 (.tmp 6) 0, none⟩, ⟨(some 71), .load 24 (.tmp 70), none⟩, ⟨(some 72), .fieldAddr 26 (.tmp 7) 0, none⟩, ⟨(some 73), .load 24 (.tmp 72), none⟩, ⟨(some 74), .call ⟨.value (.func 71), #[.tmp 71, .tmp 73], #[24, 24]⟩, none⟩, ⟨(some 69), .move (.tmp 74), none⟩, ⟨(some 75), .extract (.tmp 69) 0, none⟩, ⟨(some 76), .extract (.tmp 69) 1, none⟩, ⟨(some 13), .alloc 24, none⟩, ⟨none, .store 24 (.tmp 13) (.tmp 75), none⟩, ⟨(some 14), .assign (.tmp 76), none⟩]
abbrev s23_20 : SC := .region [⟨(some 77), .move (.tmp 14), none⟩, ⟨(some 78), .unOp .not 4 (.tmp 77), none⟩]
abbrev s23_21 : SC := .region [⟨(some 79), .build 26 #[], none⟩, ⟨(some 80), .build 26 #[], none⟩, ⟨none, .store 26 (.tmp 8) (.tmp 79), none⟩, ⟨none, .store 26 (.tmp 9) (.tmp 80), none⟩, ⟨(some 10), .assign (.const (.bool false)), none⟩]
abbrev s23_22 : SC := .seq s23_21 .ret
abbrev s23_23 : SC := .cond (.tmp 78) s23_22 .skip
abbrev s23_24 : SC := .seq s23_20 s23_23
abbrev s23_25 : SC := .region [⟨(some 81), .load 24 (.tmp 13), none⟩, ⟨(some 82), .fieldAddr 26 (.tmp 6) 1, none⟩, ⟨(some 83), .load 22 (.tmp 82), none⟩, ⟨(some 84), .fieldAddr 26 (.tmp 7) 1, none⟩, ⟨(some 85), .load 22 (.tmp 84), none⟩, ⟨(some 86), .call ⟨.builtin .max, #[.tmp 83, .tmp 85], #[22, 22]⟩, none⟩, ⟨(some 87), .fieldAddr 26 (.tmp 6) 2, none⟩, ⟨(some 88), .load 22 (.tmp 87), none⟩, ⟨(some 89), .fieldAddr 26 (.tmp 7) 2, none⟩, ⟨(some 90), .load 22 (.tmp 89), none⟩, ⟨(some 91), .call ⟨.builtin .min, #[.tmp 88, .tmp 90], #[22, 22]⟩, none⟩, ⟨(some 92), .build 26 #[(0, .tmp 81), (1, .tmp 86), (2, .tmp 91)], none⟩, ⟨(some 15), .alloc 26, none⟩, ⟨none, .store 26 (.tmp 15) (.tmp 92), none⟩]
abbrev s23_26 : SC := .region [⟨(some 93), .load 26 (.tmp 15), none⟩, ⟨(some 94), .load 26 (.tmp 15), none⟩, ⟨(some 95), .call ⟨.value (.func 72), #[.tmp 93, .tmp 94], #[26, 26]⟩, none⟩, ⟨(some 96), .extract (.tmp 95) 0, none⟩, ⟨(some 97), .extract (.tmp 95) 1, none⟩, ⟨(some 98), .extract (.tmp 95) 2, none⟩, ⟨none, .store 26 (.tmp 8) (.tmp 96), none⟩, ⟨none, .store 26 (.tmp 9) (.tmp 97), none⟩, ⟨(some 10), .assign (.tmp 98), none⟩]
abbrev s23_27 : SC := .seq s23_26 .ret
abbrev s23_28 : SC := .seq s23_25 s23_27
abbrev s23_29 : SC := .seq s23_24 s23_28
abbrev s23_30 : SC := .seq s23_19 s23_29
abbrev s23_31 : SC := .region [⟨(some 100), .binOp .eql 3 (.tmp 66) (.const (.int .i64 80)) 3, none⟩, ⟨(some 99), .assign (.tmp 100), none⟩]
abbrev s23_32 : SC := .region [⟨(some 101), .load 26 (.tmp 6), none⟩, ⟨(some 102), .load 26 (.tmp 7), none⟩, ⟨(some 103), .call ⟨.value (.func 73), #[.tmp 101, .tmp 102], #[26, 26]⟩, none⟩, ⟨(some 104), .extract (.tmp 103) 0, none⟩, ⟨(some 105), .extract (.tmp 103) 1, none⟩, ⟨(some 106), .extract (.tmp 103) 2, none⟩, ⟨none, .store 26 (.tmp 8) (.tmp 104), none⟩, ⟨none, .store 26 (.tmp 9) (.tmp 105), none⟩, ⟨(some 10), .assign (.tmp 106), none⟩]
abbrev s23_33 : SC := .seq s23_32 .ret
abbrev s23_34 : SC := .region [⟨(some 108), .binOp .eql 3 (.tmp 66) (.const (.int .i64 32)) 3, none⟩, ⟨(some 107), .assign (.tmp 108), none⟩]
abbrev s23_35 : SC := .region [⟨(some 109), .binOp .eql 3 (.tmp 66) (.const (.int .i64 96)) 3, none⟩, ⟨(some 107), .assign (.tmp 109), none⟩]
abbrev s23_36 : SC := .cond (.tmp 107) .skip s23_35
abbrev s23_37 : SC := .seq s23_34 s23_36
abbrev s23_38 : SC := .region [⟨(some 110), .load 26 (.tmp 6), none⟩, ⟨(some 111), .load 26 (.tmp 7), none⟩, ⟨(some 112), .call ⟨.value (.func 74), #[.tmp 110, .tmp 111, .const (.bool true)], #[26, 26, 4]⟩, none⟩, ⟨(some 113), .extract (.tmp 112) 0, none⟩, ⟨(some 114), .extract (.tmp 112) 1, none⟩, ⟨(some 115), .extract (.tmp 112) 2, none⟩, ⟨none, .store 26 (.tmp 8) (.tmp 113), none⟩, ⟨none, .store 26 (.tmp 9) (.tmp 114), none⟩, ⟨(some 10), .assign (.tmp 115), none⟩]
abbrev s23_39 : SC := .seq s23_38 .ret
abbrev s23_40 : SC := .region [⟨(some 117), .binOp .eql 3 (.tmp 66) (.const (.int .i64 48)) 3, none⟩, ⟨(some 116), .assign (.tmp 117), none⟩]
abbrev s23_41 : SC := .region [⟨(some 118), .binOp .eql 3 (.tmp 66) (.const (.int .i64 112)) 3, none⟩, ⟨(some 116), .assign (.tmp 118), none⟩]
abbrev s23_42 : SC := .cond (.tmp 116) .skip s23_41
abbrev s23_43 : SC := .seq s23_40 s23_42
abbrev s23_44 : SC := .region [⟨(some 119), .load 26 (.tmp 6), none⟩, ⟨(some 120), .load 26 (.tmp 7), none⟩, ⟨(some 121), .call ⟨.value (.func 74), #[.tmp 119, .tmp 120, .const (.bool false)], #[26, 26, 4]⟩, none⟩, ⟨(some 122), .extract (.tmp 121) 0, none⟩, ⟨(some 123), .extract (.tmp 121) 1, none⟩, ⟨(some 124), .extract (.tmp 121) 2, none⟩, ⟨none, .store 26 (.tmp 8) (.tmp 122), none⟩, ⟨none, .store 26 (.tmp 9) (.tmp 123), none⟩, ⟨(some 10), .assign (.tmp 124), none⟩]
abbrev s23_45 : SC := .seq s23_44 .ret
abbrev s23_46 : SC := .region [⟨(some 126), .binOp .eql 3 (.tmp 66) (.const (.int .i64 160)) 3, none⟩, ⟨(some 125), .assign (.tmp 126), none⟩]
abbrev s23_47 : SC := .region [⟨(some 127), .binOp .eql 3 (.tmp 66) (.const (.int .i64 192)) 3, none⟩, ⟨(some 125), .assign (.tmp 127), none⟩]
abbrev s23_48 : SC := .cond (.tmp 125) .skip s23_47
abbrev s23_49 : SC := .seq s23_46 s23_48
abbrev s23_50 : SC := .region [⟨(some 128), .load 26 (.tmp 7), none⟩, ⟨(some 129), .load 26 (.tmp 6), none⟩, ⟨(some 130), .call ⟨.value (.func 74), #[.tmp 128, .tmp 129, .const (.bool true)], #[26, 26, 4]⟩, none⟩, ⟨(some 131), .extract (.tmp 130) 0, none⟩, ⟨(some 132), .extract (.tmp 130) 1, none⟩, ⟨(some 133), .extract (.tmp 130) 2, none⟩, ⟨(some 134), .call ⟨.value (.func 75), #[.tmp 131, .tmp 132, .tmp 133], #[26, 26, 4]⟩, none⟩, ⟨(some 135), .extract (.tmp 134) 0, none⟩, ⟨(some 136), .extract (.tmp 134) 1, none⟩, ⟨(some 137), .extract (.tmp 134) 2, none⟩, ⟨none, .store 26 (.tmp 8) (.tmp 135), none⟩, ⟨none, .store 26 (.tmp 9) (.tmp 136), none⟩, ⟨(some 10), .assign (.tmp 137), none⟩]
abbrev s23_51 : SC := .seq s23_50 .ret
abbrev s23_52 : SC := .region [⟨(some 139), .binOp .eql 3 (.tmp 66) (.const (.int .i64 176)) 3, none⟩, ⟨(some 138), .assign (.tmp 139), none⟩]
abbrev s23_53 : SC := .region [⟨(some 140), .binOp .eql 3 (.tmp 66) (.const (.int .i64 208)) 3, none⟩, ⟨(some 138), .assign (.tmp 140), none⟩]
abbrev s23_54 : SC := .cond (.tmp 138) .skip s23_53
abbrev s23_55 : SC := .seq s23_52 s23_54
abbrev s23_56 : SC := .region [⟨(some 141), .load 26 (.tmp 7), none⟩, ⟨(some 142), .load 26 (.tmp 6), none⟩, ⟨(some 143), .call ⟨.value (.func 74), #[.tmp 141, .tmp 142, .const (.bool false)], #[26, 26, 4]⟩, none⟩, ⟨(some 144), .extract (.tmp 143) 0, none⟩, ⟨(some 145), .extract (.tmp 143) 1, none⟩, ⟨(some 146), .extract (.tmp 143) 2, none⟩, ⟨(some 147), .call ⟨.value (.func 75), #[.tmp 144, .tmp 145, .tmp 146], #[26, 26, 4]⟩, none⟩, ⟨(some 148), .extract (.tmp 147) 0, none⟩, ⟨(some 149), .extract (.tmp 147) 1, none⟩, ⟨(some 150), .extract (.tmp 147) 2, none⟩, ⟨none, .store 26 (.tmp 8) (.tmp 148), none⟩, ⟨none, .store 26 (.tmp 9) (.tmp 149), none⟩, ⟨(some 10), .assign (.tmp 150), none⟩]
abbrev s23_57 : SC := .seq s23_56 .ret
abbrev s23_58 : SC := .cond (.tmp 138) s23_57 .skip
abbrev s23_59 : SC := .seq s23_55 s23_58
abbrev s23_60 : SC := .cond (.tmp 125) s23_51 s23_59
abbrev s23_61 : SC := .seq s23_49 s23_60
abbrev s23_62 : SC := .cond (.tmp 116) s23_45 s23_61
abbrev s23_63 : SC := .seq s23_43 s23_62
abbrev s23_64 : SC := .cond (.tmp 107) s23_39 s23_63
abbrev s23_65 : SC := .seq s23_37 s23_64
abbrev s23_66 : SC := .cond (.tmp 99) s23_33 s23_65
abbrev s23_67 : SC := .seq s23_31 s23_66
abbrev s23_68 : SC := .cond (.tmp 67) s23_30 s23_67
abbrev s23_69 : SC := .seq s23_18 s23_68
abbrev s23_70 : SC := .block 0 s23_69
abbrev s23_71 : SC := .seq s23_17 s23_70
abbrev s23_72 : SC := .region [⟨(some 151), .load 26 (.tmp 6), none⟩, ⟨(some 152), .load 26 (.tmp 7), none⟩, ⟨(some 153), .move (.tmp 0), none⟩, ⟨(some 154), .binOp .eql 3 (.tmp 153) (.const (.int .i64 64)) 3, none⟩, ⟨(some 155), .call ⟨.value (.func 76), #[.tmp 151, .tmp 152, .tmp 154], #[26, 26, 4]⟩, none⟩, ⟨(some 156), .extract (.tmp 155) 0, none⟩, ⟨(some 157), .extract (.tmp 155) 1, none⟩, ⟨(some 158), .extract (.tmp 155) 2, none⟩, ⟨none, .store 26 (.tmp 8) (.tmp 156), none⟩, ⟨none, .store 26 (.tmp 9) (.tmp 157), none⟩, ⟨(some 10), .assign (.tmp 158), none⟩]
abbrev s23_73 : SC := .seq s23_72 .ret
abbrev s23_74 : SC := .seq s23_71 s23_73
abbrev s23_75 : SC := .seq s23_16 s23_74
abbrev s23_76 : SC := .seq s23_11 s23_75
abbrev s23_77 : SC := .seq s23_7 s23_76
abbrev s23_78 : SC := .seq s23_6 s23_77
abbrev s23_79 : SC := .seq s23_5 s23_78
abbrev s23_80 : SC := .seq s23_0 s23_79
noncomputable def c23 : Code := match Try.f23.body with | some c => c | none => .skip
theorem b23 : Try.f23.body = some c23 := by kernel_rfl
theorem sc23 : toSC C23 c23 = some s23_80 := by kernel_rfl
set_option maxRecDepth 100000 in
theorem run23 {args : List AV} {H : Heap} {R : Out → Heap → Prop} (hl : args.length ≤ 159) (h : SWp Try.prog C23 s23_80 (finK [.cell 8 26, .cell 9 26, .tmp 10] R) ⟨argSlots 0 args, [], H⟩) : ∃ out H', CallRuns Try.prog 23 args H out H' ∧ R out H' :=
  callRuns_of (C := C23) (by kernel_rfl) hD hZ Try.func23 b23 Try.ntmps23 Try.call23 sc23 (by kernel_rfl) hl h

-- function 25: portcullis/portcullisref17.Always
def C25 : Cfg := ⟨44, [6, 7, 10, 11, 13, 14], zget ztab⟩
@[simp] theorem L25 : C25.L = [6, 7, 10, 11, 13, 14] := rfl
@[simp] theorem Z25 : C25.Z = zget ztab := rfl
abbrev s25_0 : SC := .region [⟨(some 6), .box 26 (.tmp 2), none⟩, ⟨(some 7), .box 26 (.tmp 3), none⟩, ⟨(some 8), .assign (.const (.bool false)), none⟩, ⟨(some 9), .assign (.const (.bool false)), none⟩]
abbrev s25_1 : SC := .region [⟨(some 16), .move (.tmp 0), none⟩, ⟨(some 17), .call ⟨.value (.func 27), #[.tmp 16], #[3]⟩, none⟩, ⟨(some 18), .binOp .lss 3 (.tmp 17) (.const (.int .i64 0)) 3, none⟩]
abbrev s25_2 : SC := .region [⟨(some 8), .assign (.const (.bool false)), none⟩, ⟨(some 9), .assign (.const (.bool false)), none⟩]
abbrev s25_3 : SC := .seq s25_2 .ret
abbrev s25_4 : SC := .cond (.tmp 18) s25_3 .skip
abbrev s25_5 : SC := .seq s25_1 s25_4
abbrev s25_6 : SC := .region [⟨(some 20), .move (.tmp 0), none⟩, ⟨(some 21), .move (.tmp 1), none⟩, ⟨(some 22), .load 26 (.tmp 6), none⟩, ⟨(some 23), .load 26 (.tmp 7), none⟩, ⟨(some 24), .call ⟨.value (.func 23), #[.tmp 20, .tmp 21, .tmp 22, .tmp 23], #[3, 4, 26, 26]⟩, none⟩, ⟨(some 19), .move (.tmp 24), none⟩, ⟨(some 25), .extract (.tmp 19) 0, none⟩, ⟨(some 26), .extract (.tmp 19) 1, none⟩, ⟨(some 27), .extract (.tmp 19) 2, none⟩, ⟨(some 10), .alloc 26, none⟩, ⟨(some 11), .alloc 26, none⟩, ⟨none, .store 26 (.tmp 10) (.tmp 25), none⟩, ⟨none, .store 26 (.tmp 11) (.tmp 26), none⟩, ⟨(some 12), .assign (.tmp 27), none⟩]
abbrev s25_7 : SC := .region [⟨(some 28), .move (.tmp 12), none⟩, ⟨(some 29), .unOp .not 4 (.tmp 28), none⟩]
abbrev s25_8 : SC := .region [⟨(some 8), .assign (.const (.bool false)), none⟩, ⟨(some 9), .assign (.const (.bool true)), none⟩]
abbrev s25_9 : SC := .seq s25_8 .ret
abbrev s25_10 : SC := .cond (.tmp 29) s25_9 .skip
abbrev s25_11 : SC := .seq s25_7 s25_10
abbrev s25_12 : SC := .seq s25_6 s25_11
abbrev s25_13 : SC := .draw [(⟨(some 31), .move (.tmp 0), none⟩, ⟨[], [], false, false⟩), (⟨(some 32), .call ⟨.value (.func 27), #[.tmp 31], #[3]⟩, none⟩, ⟨[], [], true, true⟩), (⟨(some 33), .move (.tmp 1), none⟩, ⟨[], [], false, false⟩), (⟨(some 34), .load 26 (.tmp 6), none⟩, ⟨[6], [], false, false⟩), (⟨(some 35), .load 26 (.tmp 7), none⟩, ⟨[7], [], false, false⟩), (⟨(some 36), .call ⟨.value (.func 23), #[.tmp 32, .tmp 33, .tmp 34, .tmp 35], #[3, 4, 26, 26]⟩, none⟩, ⟨[], [], true, true⟩), (⟨(some 30), .move (.tmp 36), none⟩, ⟨[], [], false, false⟩), (⟨(some 37), .extract (.tmp 30) 0, none⟩, ⟨[], [], false, false⟩), (⟨(some 38), .extract (.tmp 30) 1, none⟩, ⟨[], [], false, false⟩), (⟨(some 39), .extract (.tmp 30) 2, none⟩, ⟨[], [], false, false⟩), (⟨(some 13), .alloc 26, none⟩, ⟨[], [13], false, false⟩), (⟨(some 14), .alloc 26, none⟩, ⟨[], [14], false, false⟩), (⟨none, .store 26 (.tmp 13) (.tmp 37), none⟩, ⟨[], [13], false, false⟩), (⟨none, .store 26 (.tmp 14) (.tmp 38), none⟩, ⟨[], [14], false, false⟩), (⟨(some 15), .assign (.tmp 39), none⟩, ⟨[], [], false, false⟩)]
abbrev s25_14 : SC := .region [⟨(some 40), .move (.tmp 15), none⟩, ⟨(some 41), .unOp .not 4 (.tmp 40), none⟩, ⟨(some 42), .move (.tmp 15), none⟩, ⟨(some 43), .unOp .not 4 (.tmp 42), none⟩, ⟨(some 8), .assign (.tmp 41), none⟩, ⟨(some 9), .assign (.tmp 43), none⟩]
abbrev s25_15 : SC := .seq s25_14 .ret
abbrev s25_16 : SC := .seq s25_13 s25_15
abbrev s25_17 : SC := .seq s25_12 s25_16
abbrev s25_18 : SC := .seq s25_5 s25_17
abbrev s25_19 : SC := .seq s25_0 s25_18
noncomputable def c25 : Code := match Try.f25.body with | some c => c | none => .skip
theorem b25 : Try.f25.body = some c25 := by kernel_rfl
theorem sc25 : toSC C25 c25 = some s25_19 := by kernel_rfl
set_option maxRecDepth 100000 in
theorem run25 {args : List AV} {H : Heap} {R : Out → Heap → Prop} (hl : args.length ≤ 44) (h : SWp Try.prog C25 s25_19 (finK [.tmp 8, .tmp 9] R) ⟨argSlots 0 args, [], H⟩) : ∃ out H', CallRuns Try.prog 25 args H out H' ∧ R out H' :=
  callRuns_of (C := C25) (by kernel_rfl) hD hZ Try.func25 b25 Try.ntmps25 Try.call25 sc25 (by kernel_rfl) hl h

-- function 5: portcullis/portcullislaw17.BranchRefines
def C5 : Cfg := ⟨92, [5, 7, 8, 9, 10, 12, 13], zget ztab⟩
@[simp] theorem L5 : C5.L = [5, 7, 8, 9, 10, 12, 13] := rfl
@[simp] theorem Z5 : C5.Z = zget ztab := rfl
abbrev s5_0 : SC := .region [⟨(some 5), .box 42 (.tmp 2), none⟩, ⟨(some 6), .assign (.const (.bool false)), none⟩]
abbrev s5_1 : SC := .draw [(⟨(some 19), .indexAddr 42 (.tmp 5) (.const (.int .i64 0)), none⟩, ⟨[], [], false, false⟩), (⟨(some 20), .load 26 (.tmp 19), none⟩, ⟨[5], [], false, false⟩), (⟨(some 21), .call ⟨.value (.func 21), #[.tmp 20], #[26]⟩, none⟩, ⟨[], [], true, true⟩), (⟨(some 22), .indexAddr 42 (.tmp 5) (.const (.int .i64 1)), none⟩, ⟨[], [], false, false⟩), (⟨(some 23), .load 26 (.tmp 22), none⟩, ⟨[5], [], false, false⟩), (⟨(some 24), .call ⟨.value (.func 21), #[.tmp 23], #[26]⟩, none⟩, ⟨[], [], true, true⟩), (⟨(some 7), .alloc 26, none⟩, ⟨[], [7], false, false⟩), (⟨(some 8), .alloc 26, none⟩, ⟨[], [8], false, false⟩), (⟨none, .store 26 (.tmp 7) (.tmp 21), none⟩, ⟨[], [7], false, false⟩), (⟨none, .store 26 (.tmp 8) (.tmp 24), none⟩, ⟨[], [8], false, false⟩)]
abbrev s5_2 : SC := .region [⟨(some 26), .move (.tmp 0), none⟩, ⟨(some 27), .move (.tmp 1), none⟩, ⟨(some 28), .load 26 (.tmp 7), none⟩, ⟨(some 29), .load 26 (.tmp 8), none⟩, ⟨(some 30), .call ⟨.value (.func 22), #[.tmp 26, .tmp 27, .tmp 28, .tmp 29], #[3, 4, 26, 26]⟩, none⟩, ⟨(some 25), .move (.tmp 30), none⟩, ⟨(some 31), .extract (.tmp 25) 0, none⟩, ⟨(some 32), .extract (.tmp 25) 1, none⟩, ⟨(some 33), .extract (.tmp 25) 2, none⟩, ⟨(some 9), .alloc 26, none⟩, ⟨(some 10), .alloc 26, none⟩, ⟨none, .store 26 (.tmp 9) (.tmp 31), none⟩, ⟨none, .store 26 (.tmp 10) (.tmp 32), none⟩, ⟨(some 11), .assign (.tmp 33), none⟩]
abbrev s5_3 : SC := .region [⟨(some 35), .move (.tmp 0), none⟩, ⟨(some 36), .move (.tmp 1), none⟩, ⟨(some 37), .load 26 (.tmp 7), none⟩, ⟨(some 38), .load 26 (.tmp 8), none⟩, ⟨(some 39), .call ⟨.value (.func 23), #[.tmp 35, .tmp 36, .tmp 37, .tmp 38], #[3, 4, 26, 26]⟩, none⟩, ⟨(some 34), .move (.tmp 39), none⟩, ⟨(some 40), .extract (.tmp 34) 0, none⟩, ⟨(some 41), .extract (.tmp 34) 1, none⟩, ⟨(some 42), .extract (.tmp 34) 2, none⟩, ⟨(some 12), .alloc 26, none⟩, ⟨(some 13), .alloc 26, none⟩, ⟨none, .store 26 (.tmp 12) (.tmp 40), none⟩, ⟨none, .store 26 (.tmp 13) (.tmp 41), none⟩, ⟨(some 14), .assign (.tmp 42), none⟩]
abbrev s5_4 : SC := .region [⟨(some 44), .move (.tmp 0), none⟩, ⟨(some 45), .move (.tmp 1), none⟩, ⟨(some 46), .load 26 (.tmp 7), none⟩, ⟨(some 47), .load 26 (.tmp 8), none⟩, ⟨(some 48), .call ⟨.value (.func 24), #[.tmp 44, .tmp 45, .tmp 46, .tmp 47], #[3, 4, 26, 26]⟩, none⟩, ⟨(some 43), .move (.tmp 48), none⟩, ⟨(some 49), .extract (.tmp 43) 0, none⟩, ⟨(some 50), .extract (.tmp 43) 1, none⟩, ⟨(some 15), .assign (.tmp 49), none⟩, ⟨(some 16), .assign (.tmp 50), none⟩]
abbrev s5_5 : SC := .region [⟨(some 52), .move (.tmp 0), none⟩, ⟨(some 53), .move (.tmp 1), none⟩, ⟨(some 54), .load 26 (.tmp 7), none⟩, ⟨(some 55), .load 26 (.tmp 8), none⟩, ⟨(some 56), .call ⟨.value (.func 25), #[.tmp 52, .tmp 53, .tmp 54, .tmp 55], #[3, 4, 26, 26]⟩, none⟩, ⟨(some 51), .move (.tmp 56), none⟩, ⟨(some 57), .extract (.tmp 51) 0, none⟩, ⟨(some 58), .extract (.tmp 51) 1, none⟩, ⟨(some 17), .assign (.tmp 57), none⟩, ⟨(some 18), .assign (.tmp 58), none⟩]
abbrev s5_6 : SC := .region [⟨(some 59), .load 26 (.tmp 9), none⟩, ⟨(some 60), .load 26 (.tmp 12), none⟩, ⟨(some 61), .binOp .eql 26 (.tmp 59) (.tmp 60) 26, none⟩, ⟨(some 62), .move (.tmp 61), none⟩, ⟨(some 63), .load 26 (.tmp 10), (some (62, true))⟩, ⟨(some 64), .load 26 (.tmp 13), (some (62, true))⟩, ⟨(some 65), .binOp .eql 26 (.tmp 63) (.tmp 64) 26, (some (62, true))⟩, ⟨(some 66), .pick (.tmp 62) (.tmp 65) (.const (.bool false)), none⟩, ⟨(some 67), .move (.tmp 66), none⟩, ⟨(some 68), .move (.tmp 11), (some (67, true))⟩, ⟨(some 69), .move (.tmp 14), (some (67, true))⟩, ⟨(some 70), .binOp .eql 4 (.tmp 68) (.tmp 69) 4, (some (67, true))⟩, ⟨(some 71), .pick (.tmp 67) (.tmp 70) (.const (.bool false)), none⟩, ⟨(some 72), .move (.tmp 71), none⟩, ⟨(some 73), .move (.tmp 15), (some (72, true))⟩, ⟨(some 74), .move (.tmp 17), (some (72, true))⟩, ⟨(some 75), .binOp .eql 4 (.tmp 73) (.tmp 74) 4, (some (72, true))⟩, ⟨(some 76), .pick (.tmp 72) (.tmp 75) (.const (.bool false)), none⟩, ⟨(some 77), .move (.tmp 76), none⟩, ⟨(some 78), .move (.tmp 16), (some (77, true))⟩, ⟨(some 79), .move (.tmp 18), (some (77, true))⟩, ⟨(some 80), .binOp .eql 4 (.tmp 78) (.tmp 79) 4, (some (77, true))⟩, ⟨(some 81), .pick (.tmp 77) (.tmp 80) (.const (.bool false)), none⟩, ⟨(some 82), .move (.tmp 81), none⟩, ⟨(some 83), .move (.tmp 0), (some (82, true))⟩, ⟨(some 84), .call ⟨.value (.func 26), #[.tmp 83], #[3]⟩, (some (82, true))⟩, ⟨(some 85), .move (.tmp 0), (some (82, true))⟩, ⟨(some 86), .call ⟨.value (.func 27), #[.tmp 85], #[3]⟩, (some (82, true))⟩, ⟨(some 87), .binOp .eql 3 (.tmp 84) (.tmp 86) 3, (some (82, true))⟩, ⟨(some 88), .pick (.tmp 82) (.tmp 87) (.const (.bool false)), none⟩, ⟨(some 89), .move (.tmp 88), none⟩, ⟨(some 90), .call ⟨.value (.func 28), #[], #[]⟩, (some (89, true))⟩, ⟨(some 91), .pick (.tmp 89) (.tmp 90) (.const (.bool false)), none⟩, ⟨(some 6), .assign (.tmp 91), none⟩]
abbrev s5_7 : SC := .seq s5_6 .ret
abbrev s5_8 : SC := .seq s5_5 s5_7
abbrev s5_9 : SC := .seq s5_4 s5_8
abbrev s5_10 : SC := .seq s5_3 s5_9
abbrev s5_11 : SC := .seq s5_2 s5_10
abbrev s5_12 : SC := .seq s5_1 s5_11
abbrev s5_13 : SC := .seq s5_0 s5_12
noncomputable def c5 : Code := match Try.f5.body with | some c => c | none => .skip
theorem b5 : Try.f5.body = some c5 := by kernel_rfl
theorem sc5 : toSC C5 c5 = some s5_13 := by kernel_rfl
set_option maxRecDepth 100000 in
theorem run5 {args : List AV} {H : Heap} {R : Out → Heap → Prop} (hl : args.length ≤ 92) (h : SWp Try.prog C5 s5_13 (finK [.tmp 6] R) ⟨argSlots 0 args, [], H⟩) : ∃ out H', CallRuns Try.prog 5 args H out H' ∧ R out H' :=
  callRuns_of (C := C5) (by kernel_rfl) hD hZ Try.func5 b5 Try.ntmps5 Try.call5 sc5 (by kernel_rfl) hl h

-- function 78: portcullis/portcullisref15.Has
def C78 : Cfg := ⟨13, [2], zget ztab⟩
@[simp] theorem L78 : C78.L = [2] := rfl
@[simp] theorem Z78 : C78.Z = zget ztab := rfl
abbrev s78_0 : SC := .region [⟨(some 2), .box 24 (.tmp 0), none⟩, ⟨(some 4), .assign (.const (.bool false)), none⟩]
abbrev s78_1 : SC := .region [⟨(some 5), .move (.tmp 1), none⟩, ⟨(some 6), .fieldAddr 24 (.tmp 2) 0, none⟩, ⟨(some 7), .load 22 (.tmp 6), none⟩, ⟨(some 8), .binOp .xor 22 (.tmp 5) (.tmp 7) 22, none⟩, ⟨(some 9), .fieldAddr 24 (.tmp 2) 1, none⟩, ⟨(some 10), .load 22 (.tmp 9), none⟩, ⟨(some 11), .binOp .andNot 22 (.tmp 8) (.tmp 10) 22, none⟩, ⟨(some 12), .binOp .eql 22 (.tmp 11) (.const (.int .u64 0)) 22, none⟩, ⟨(some 4), .assign (.tmp 12), none⟩]
abbrev s78_2 : SC := .seq s78_1 .ret
abbrev s78_3 : SC := .seq s78_0 s78_2
noncomputable def c78 : Code := match Try.f78.body with | some c => c | none => .skip
theorem b78 : Try.f78.body = some c78 := by kernel_rfl
theorem sc78 : toSC C78 c78 = some s78_3 := by kernel_rfl
set_option maxRecDepth 100000 in
theorem run78 {args : List AV} {H : Heap} {R : Out → Heap → Prop} (hl : args.length ≤ 13) (h : SWp Try.prog C78 s78_3 (finK [.tmp 4] R) ⟨argSlots 0 args, [], H⟩) : ∃ out H', CallRuns Try.prog 78 args H out H' ∧ R out H' :=
  callRuns_of (C := C78) (by kernel_rfl) hD hZ Try.func78 b78 Try.ntmps78 Try.call78 sc78 (by kernel_rfl) hl h

-- function 31: portcullis/portcullisref16.Has
def C31 : Cfg := ⟨21, [2], zget ztab⟩
@[simp] theorem L31 : C31.L = [2] := rfl
@[simp] theorem Z31 : C31.Z = zget ztab := rfl
abbrev s31_0 : SC := .region [⟨(some 2), .box 26 (.tmp 0), none⟩, ⟨(some 4), .assign (.const (.bool false)), none⟩]
abbrev s31_1 : SC := .region [⟨(some 5), .fieldAddr 26 (.tmp 2) 0, none⟩, ⟨(some 6), .load 24 (.tmp 5), none⟩, ⟨(some 7), .move (.tmp 1), none⟩, ⟨(some 8), .call ⟨.value (.func 78), #[.tmp 6, .tmp 7], #[24, 22]⟩, none⟩, ⟨(some 9), .move (.tmp 8), none⟩, ⟨(some 10), .move (.tmp 1), (some (9, true))⟩, ⟨(some 11), .fieldAddr 26 (.tmp 2) 1, (some (9, true))⟩, ⟨(some 12), .load 22 (.tmp 11), (some (9, true))⟩, ⟨(some 13), .binOp .geq 22 (.tmp 10) (.tmp 12) 22, (some (9, true))⟩, ⟨(some 14), .pick (.tmp 9) (.tmp 13) (.const (.bool false)), none⟩, ⟨(some 15), .move (.tmp 14), none⟩, ⟨(some 16), .move (.tmp 1), (some (15, true))⟩, ⟨(some 17), .fieldAddr 26 (.tmp 2) 2, (some (15, true))⟩, ⟨(some 18), .load 22 (.tmp 17), (some (15, true))⟩, ⟨(some 19), .binOp .leq 22 (.tmp 16) (.tmp 18) 22, (some (15, true))⟩, ⟨(some 20), .pick (.tmp 15) (.tmp 19) (.const (.bool false)), none⟩, ⟨(some 4), .assign (.tmp 20), none⟩]
abbrev s31_2 : SC := .seq s31_1 .ret
abbrev s31_3 : SC := .seq s31_0 s31_2
noncomputable def c31 : Code := match Try.f31.body with | some c => c | none => .skip
theorem b31 : Try.f31.body = some c31 := by kernel_rfl
theorem sc31 : toSC C31 c31 = some s31_3 := by kernel_rfl
set_option maxRecDepth 100000 in
theorem run31 {args : List AV} {H : Heap} {R : Out → Heap → Prop} (hl : args.length ≤ 21) (h : SWp Try.prog C31 s31_3 (finK [.tmp 4] R) ⟨argSlots 0 args, [], H⟩) : ∃ out H', CallRuns Try.prog 31 args H out H' ∧ R out H' :=
  callRuns_of (C := C31) (by kernel_rfl) hD hZ Try.func31 b31 Try.ntmps31 Try.call31 sc31 (by kernel_rfl) hl h

-- function 29: portcullis/portcullislaw16.One
def C29 : Cfg := ⟨48, [2, 31], zget ztab⟩
@[simp] theorem L29 : C29.L = [2, 31] := rfl
@[simp] theorem Z29 : C29.Z = zget ztab := rfl
abbrev s29_0 : SC := .region [⟨(some 2), .box 26 (.tmp 0), none⟩, ⟨(some 4), .assign (.const (.int .u64 0)), none⟩, ⟨(some 5), .assign (.const (.bool false)), none⟩]
abbrev s29_1 : SC := .region [⟨(some 8), .fieldAddr 26 (.tmp 2) 0, none⟩, ⟨(some 9), .fieldAddr 24 (.tmp 8) 0, none⟩, ⟨(some 10), .load 22 (.tmp 9), none⟩, ⟨(some 11), .move (.tmp 1), none⟩, ⟨(some 12), .fieldAddr 26 (.tmp 2) 0, none⟩, ⟨(some 13), .fieldAddr 24 (.tmp 12) 1, none⟩, ⟨(some 14), .load 22 (.tmp 13), none⟩, ⟨(some 15), .binOp .and 22 (.tmp 11) (.tmp 14) 22, none⟩, ⟨(some 16), .binOp .or 22 (.tmp 10) (.tmp 15) 22, none⟩, ⟨(some 17), .fieldAddr 26 (.tmp 2) 1, none⟩, ⟨(some 18), .load 22 (.tmp 17), none⟩, ⟨(some 19), .fieldAddr 26 (.tmp 2) 2, none⟩, ⟨(some 20), .load 22 (.tmp 19), none⟩, ⟨(some 21), .fieldAddr 26 (.tmp 2) 0, none⟩, ⟨(some 22), .fieldAddr 24 (.tmp 21) 0, none⟩, ⟨(some 23), .load 22 (.tmp 22), none⟩, ⟨(some 24), .fieldAddr 26 (.tmp 2) 0, none⟩, ⟨(some 25), .fieldAddr 24 (.tmp 24) 0, none⟩, ⟨(some 26), .load 22 (.tmp 25), none⟩, ⟨(some 27), .fieldAddr 26 (.tmp 2) 0, none⟩, ⟨(some 28), .fieldAddr 24 (.tmp 27) 1, none⟩, ⟨(some 29), .load 22 (.tmp 28), none⟩, ⟨(some 30), .binOp .or 22 (.tmp 26) (.tmp 29) 22, none⟩, ⟨(some 31), .buildSlice 50 5 #[(0, .tmp 16), (1, .tmp 18), (2, .tmp 20), (3, .tmp 23), (4, .tmp 30)], none⟩, ⟨(some 6), .assign (.tmp 31), none⟩]
abbrev s29_2 : SC := .region [⟨(some 7), .assign (.const (.int .i64 0)), none⟩]
abbrev s29_3 : SC := .region [⟨(some 32), .move (.tmp 7), none⟩, ⟨(some 33), .move (.tmp 6), none⟩, ⟨(some 34), .call ⟨.builtin .len, #[.tmp 33], #[50]⟩, none⟩, ⟨(some 35), .binOp .lss 3 (.tmp 32) (.tmp 34) 3, none⟩]
abbrev s29_4 : SC := .cond (.tmp 35) .skip (.exit 0)
abbrev s29_5 : SC := .seq s29_3 s29_4
abbrev s29_6 : SC := .draw [(⟨(some 38), .load 26 (.tmp 2), none⟩, ⟨[2], [], false, false⟩), (⟨(some 39), .move (.tmp 6), none⟩, ⟨[], [], false, false⟩), (⟨(some 40), .move (.tmp 7), none⟩, ⟨[], [], false, false⟩), (⟨(some 41), .indexAddr 50 (.tmp 39) (.tmp 40), none⟩, ⟨[], [], false, false⟩), (⟨(some 42), .load 22 (.tmp 41), none⟩, ⟨[2, 31], [], true, false⟩), (⟨(some 43), .call ⟨.value (.func 31), #[.tmp 38, .tmp 42], #[26, 22]⟩, none⟩, ⟨[], [], true, true⟩)]
abbrev s29_7 : SC := .region [⟨(some 44), .move (.tmp 6), none⟩, ⟨(some 45), .move (.tmp 7), none⟩, ⟨(some 46), .indexAddr 50 (.tmp 44) (.tmp 45), none⟩, ⟨(some 47), .load 22 (.tmp 46), none⟩, ⟨(some 4), .assign (.tmp 47), none⟩, ⟨(some 5), .assign (.const (.bool true)), none⟩]
abbrev s29_8 : SC := .seq s29_7 .ret
abbrev s29_9 : SC := .cond (.tmp 43) s29_8 .skip
abbrev s29_10 : SC := .seq s29_6 s29_9
abbrev s29_11 : SC := .block 1 s29_10
abbrev s29_12 : SC := .region [⟨(some 36), .move (.tmp 7), none⟩, ⟨(some 37), .binOp .add 3 (.tmp 36) (.const (.int .i64 1)) 3, none⟩, ⟨(some 7), .assign (.tmp 37), none⟩]
abbrev s29_13 : SC := .seq s29_11 s29_12
abbrev s29_14 : SC := .seq s29_5 s29_13
abbrev s29_15 : SC := .loop s29_14
abbrev s29_16 : SC := .block 0 s29_15
abbrev s29_17 : SC := .seq s29_2 s29_16
abbrev s29_18 : SC := .region [⟨(some 4), .assign (.const (.int .u64 0)), none⟩, ⟨(some 5), .assign (.const (.bool false)), none⟩]
abbrev s29_19 : SC := .seq s29_18 .ret
abbrev s29_20 : SC := .seq s29_17 s29_19
abbrev s29_21 : SC := .seq s29_1 s29_20
abbrev s29_22 : SC := .seq s29_0 s29_21
noncomputable def c29 : Code := match Try.f29.body with | some c => c | none => .skip
theorem b29 : Try.f29.body = some c29 := by kernel_rfl
theorem sc29 : toSC C29 c29 = some s29_22 := by kernel_rfl
set_option maxRecDepth 100000 in
theorem run29 {args : List AV} {H : Heap} {R : Out → Heap → Prop} (hl : args.length ≤ 48) (h : SWp Try.prog C29 s29_22 (finK [.tmp 4, .tmp 5] R) ⟨argSlots 0 args, [], H⟩) : ∃ out H', CallRuns Try.prog 29 args H out H' ∧ R out H' :=
  callRuns_of (C := C29) (by kernel_rfl) hD hZ Try.func29 b29 Try.ntmps29 Try.call29 sc29 (by kernel_rfl) hl h

-- function 114: portcullis/portcullisref01.low
def C114 : Cfg := ⟨5, [], zget ztab⟩
@[simp] theorem L114 : C114.L = [] := rfl
@[simp] theorem Z114 : C114.Z = zget ztab := rfl
abbrev s114_0 : SC := .region [⟨(some 2), .assign (.const (.int .u64 0)), none⟩]
abbrev s114_1 : SC := .region [⟨(some 3), .move (.tmp 0), none⟩, ⟨(some 4), .binOp .and 22 (.tmp 3) (.const (.int .u64 4294967295)) 22, none⟩, ⟨(some 2), .assign (.tmp 4), none⟩]
abbrev s114_2 : SC := .seq s114_1 .ret
abbrev s114_3 : SC := .seq s114_0 s114_2
noncomputable def c114 : Code := match Try.f114.body with | some c => c | none => .skip
theorem b114 : Try.f114.body = some c114 := by kernel_rfl
theorem sc114 : toSC C114 c114 = some s114_3 := by kernel_rfl
set_option maxRecDepth 100000 in
theorem run114 {args : List AV} {H : Heap} {R : Out → Heap → Prop} (hl : args.length ≤ 5) (h : SWp Try.prog C114 s114_3 (finK [.tmp 2] R) ⟨argSlots 0 args, [], H⟩) : ∃ out H', CallRuns Try.prog 114 args H out H' ∧ R out H' :=
  callRuns_of (C := C114) (by kernel_rfl) hD hZ Try.func114 b114 Try.ntmps114 Try.call114 sc114 (by kernel_rfl) hl h

-- function 77: portcullis/portcullisref01.Test
def C77 : Cfg := ⟨87, [], zget ztab⟩
@[simp] theorem L77 : C77.L = [] := rfl
@[simp] theorem Z77 : C77.Z = zget ztab := rfl
abbrev s77_0 : SC := .region [⟨(some 8), .assign (.const (.bool false)), none⟩, ⟨(some 9), .assign (.const (.int .i64 0)), none⟩]
abbrev s77_1 : SC := .region [⟨(some 12), .move (.tmp 1), none⟩, ⟨(some 13), .unOp .not 4 (.tmp 12), none⟩]
abbrev s77_2 : SC := .region [⟨(some 14), .move (.tmp 2), none⟩, ⟨(some 15), .call ⟨.value (.func 114), #[.tmp 14], #[22]⟩, none⟩, ⟨(some 16), .move (.tmp 3), none⟩, ⟨(some 17), .call ⟨.value (.func 114), #[.tmp 16], #[22]⟩, none⟩, ⟨(some 2), .assign (.tmp 15), none⟩, ⟨(some 3), .assign (.tmp 17), none⟩]
abbrev s77_3 : SC := .cond (.tmp 13) s77_2 .skip
abbrev s77_4 : SC := .seq s77_1 s77_3
abbrev s77_5 : SC := .region [⟨(some 18), .move (.tmp 2), none⟩, ⟨(some 19), .convert 22 2 (.tmp 18), none⟩, ⟨(some 20), .move (.tmp 3), none⟩, ⟨(some 21), .convert 22 2 (.tmp 20), none⟩, ⟨(some 10), .assign (.tmp 19), none⟩, ⟨(some 11), .assign (.tmp 21), none⟩]
abbrev s77_6 : SC := .region [⟨(some 22), .move (.tmp 1), none⟩, ⟨(some 23), .unOp .not 4 (.tmp 22), none⟩]
abbrev s77_7 : SC := .region [⟨(some 24), .move (.tmp 2), none⟩, ⟨(some 25), .convert 22 21 (.tmp 24), none⟩, ⟨(some 26), .convert 21 2 (.tmp 25), none⟩, ⟨(some 27), .move (.tmp 3), none⟩, ⟨(some 28), .convert 22 21 (.tmp 27), none⟩, ⟨(some 29), .convert 21 2 (.tmp 28), none⟩, ⟨(some 10), .assign (.tmp 26), none⟩, ⟨(some 11), .assign (.tmp 29), none⟩]
abbrev s77_8 : SC := .cond (.tmp 23) s77_7 .skip
abbrev s77_9 : SC := .seq s77_6 s77_8
abbrev s77_10 : SC := .region [⟨(some 30), .move (.tmp 0), none⟩]
abbrev s77_11 : SC := .region [⟨(some 32), .binOp .eql 3 (.tmp 30) (.const (.int .i64 16)) 3, none⟩, ⟨(some 31), .assign (.tmp 32), none⟩]
abbrev s77_12 : SC := .region [⟨(some 33), .move (.tmp 2), none⟩, ⟨(some 34), .move (.tmp 3), none⟩, ⟨(some 35), .binOp .eql 22 (.tmp 33) (.tmp 34) 22, none⟩, ⟨(some 8), .assign (.tmp 35), none⟩, ⟨(some 9), .assign (.const (.int .i64 0)), none⟩]
abbrev s77_13 : SC := .seq s77_12 .ret
abbrev s77_14 : SC := .region [⟨(some 37), .binOp .eql 3 (.tmp 30) (.const (.int .i64 32)) 3, none⟩, ⟨(some 36), .assign (.tmp 37), none⟩]
abbrev s77_15 : SC := .region [⟨(some 38), .move (.tmp 2), none⟩, ⟨(some 39), .move (.tmp 3), none⟩, ⟨(some 40), .binOp .gtr 22 (.tmp 38) (.tmp 39) 22, none⟩, ⟨(some 8), .assign (.tmp 40), none⟩, ⟨(some 9), .assign (.const (.int .i64 0)), none⟩]
abbrev s77_16 : SC := .seq s77_15 .ret
abbrev s77_17 : SC := .region [⟨(some 42), .binOp .eql 3 (.tmp 30) (.const (.int .i64 48)) 3, none⟩, ⟨(some 41), .assign (.tmp 42), none⟩]
abbrev s77_18 : SC := .region [⟨(some 43), .move (.tmp 2), none⟩, ⟨(some 44), .move (.tmp 3), none⟩, ⟨(some 45), .binOp .geq 22 (.tmp 43) (.tmp 44) 22, none⟩, ⟨(some 8), .assign (.tmp 45), none⟩, ⟨(some 9), .assign (.const (.int .i64 0)), none⟩]
abbrev s77_19 : SC := .seq s77_18 .ret
abbrev s77_20 : SC := .region [⟨(some 47), .binOp .eql 3 (.tmp 30) (.const (.int .i64 64)) 3, none⟩, ⟨(some 46), .assign (.tmp 47), none⟩]
abbrev s77_21 : SC := .region [⟨(some 48), .move (.tmp 2), none⟩, ⟨(some 49), .move (.tmp 3), none⟩, ⟨(some 50), .binOp .and 22 (.tmp 48) (.tmp 49) 22, none⟩, ⟨(some 51), .binOp .neq 22 (.tmp 50) (.const (.int .u64 0)) 22, none⟩, ⟨(some 8), .assign (.tmp 51), none⟩, ⟨(some 9), .assign (.const (.int .i64 0)), none⟩]
abbrev s77_22 : SC := .seq s77_21 .ret
abbrev s77_23 : SC := .region [⟨(some 53), .binOp .eql 3 (.tmp 30) (.const (.int .i64 80)) 3, none⟩, ⟨(some 52), .assign (.tmp 53), none⟩]
abbrev s77_24 : SC := .region [⟨(some 54), .move (.tmp 2), none⟩, ⟨(some 55), .move (.tmp 3), none⟩, ⟨(some 56), .binOp .neq 22 (.tmp 54) (.tmp 55) 22, none⟩, ⟨(some 8), .assign (.tmp 56), none⟩, ⟨(some 9), .assign (.const (.int .i64 0)), none⟩]
abbrev s77_25 : SC := .seq s77_24 .ret
abbrev s77_26 : SC := .region [⟨(some 58), .binOp .eql 3 (.tmp 30) (.const (.int .i64 96)) 3, none⟩, ⟨(some 57), .assign (.tmp 58), none⟩]
abbrev s77_27 : SC := .region [⟨(some 59), .move (.tmp 10), none⟩, ⟨(some 60), .move (.tmp 11), none⟩, ⟨(some 61), .binOp .gtr 2 (.tmp 59) (.tmp 60) 2, none⟩, ⟨(some 8), .assign (.tmp 61), none⟩, ⟨(some 9), .assign (.const (.int .i64 0)), none⟩]
abbrev s77_28 : SC := .seq s77_27 .ret
abbrev s77_29 : SC := .region [⟨(some 63), .binOp .eql 3 (.tmp 30) (.const (.int .i64 112)) 3, none⟩, ⟨(some 62), .assign (.tmp 63), none⟩]
abbrev s77_30 : SC := .region [⟨(some 64), .move (.tmp 10), none⟩, ⟨(some 65), .move (.tmp 11), none⟩, ⟨(some 66), .binOp .geq 2 (.tmp 64) (.tmp 65) 2, none⟩, ⟨(some 8), .assign (.tmp 66), none⟩, ⟨(some 9), .assign (.const (.int .i64 0)), none⟩]
abbrev s77_31 : SC := .seq s77_30 .ret
abbrev s77_32 : SC := .region [⟨(some 68), .binOp .eql 3 (.tmp 30) (.const (.int .i64 160)) 3, none⟩, ⟨(some 67), .assign (.tmp 68), none⟩]
abbrev s77_33 : SC := .region [⟨(some 69), .move (.tmp 2), none⟩, ⟨(some 70), .move (.tmp 3), none⟩, ⟨(some 71), .binOp .lss 22 (.tmp 69) (.tmp 70) 22, none⟩, ⟨(some 8), .assign (.tmp 71), none⟩, ⟨(some 9), .assign (.const (.int .i64 0)), none⟩]
abbrev s77_34 : SC := .seq s77_33 .ret
abbrev s77_35 : SC := .region [⟨(some 73), .binOp .eql 3 (.tmp 30) (.const (.int .i64 176)) 3, none⟩, ⟨(some 72), .assign (.tmp 73), none⟩]
abbrev s77_36 : SC := .region [⟨(some 74), .move (.tmp 2), none⟩, ⟨(some 75), .move (.tmp 3), none⟩, ⟨(some 76), .binOp .leq 22 (.tmp 74) (.tmp 75) 22, none⟩, ⟨(some 8), .assign (.tmp 76), none⟩, ⟨(some 9), .assign (.const (.int .i64 0)), none⟩]
abbrev s77_37 : SC := .seq s77_36 .ret
abbrev s77_38 : SC := .region [⟨(some 78), .binOp .eql 3 (.tmp 30) (.const (.int .i64 192)) 3, none⟩, ⟨(some 77), .assign (.tmp 78), none⟩]
abbrev s77_39 : SC := .region [⟨(some 79), .move (.tmp 10), none⟩, ⟨(some 80), .move (.tmp 11), none⟩, ⟨(some 81), .binOp .lss 2 (.tmp 79) (.tmp 80) 2, none⟩, ⟨(some 8), .assign (.tmp 81), none⟩, ⟨(some 9), .assign (.const (.int .i64 0)), none⟩]
abbrev s77_40 : SC := .seq s77_39 .ret
abbrev s77_41 : SC := .region [⟨(some 83), .binOp .eql 3 (.tmp 30) (.const (.int .i64 208)) 3, none⟩, ⟨(some 82), .assign (.tmp 83), none⟩]
abbrev s77_42 : SC := .region [⟨(some 84), .move (.tmp 10), none⟩, ⟨(some 85), .move (.tmp 11), none⟩, ⟨(some 86), .binOp .leq 2 (.tmp 84) (.tmp 85) 2, none⟩, ⟨(some 8), .assign (.tmp 86), none⟩, ⟨(some 9), .assign (.const (.int .i64 0)), none⟩]
abbrev s77_43 : SC := .seq s77_42 .ret
abbrev s77_44 : SC := .cond (.tmp 82) s77_43 .skip
abbrev s77_45 : SC := .seq s77_41 s77_44
abbrev s77_46 : SC := .cond (.tmp 77) s77_40 s77_45
abbrev s77_47 : SC := .seq s77_38 s77_46
abbrev s77_48 : SC := .cond (.tmp 72) s77_37 s77_47
abbrev s77_49 : SC := .seq s77_35 s77_48
abbrev s77_50 : SC := .cond (.tmp 67) s77_34 s77_49
abbrev s77_51 : SC := .seq s77_32 s77_50
abbrev s77_52 : SC := .cond (.tmp 62) s77_31 s77_51
abbrev s77_53 : SC := .seq s77_29 s77_52
abbrev s77_54 : SC := .cond (.tmp 57) s77_28 s77_53
abbrev s77_55 : SC := .seq s77_26 s77_54
abbrev s77_56 : SC := .cond (.tmp 52) s77_25 s77_55
abbrev s77_57 : SC := .seq s77_23 s77_56
abbrev s77_58 : SC := .cond (.tmp 46) s77_22 s77_57
abbrev s77_59 : SC := .seq s77_20 s77_58
abbrev s77_60 : SC := .cond (.tmp 41) s77_19 s77_59
abbrev s77_61 : SC := .seq s77_17 s77_60
abbrev s77_62 : SC := .cond (.tmp 36) s77_16 s77_61
abbrev s77_63 : SC := .seq s77_14 s77_62
abbrev s77_64 : SC := .cond (.tmp 31) s77_13 s77_63
abbrev s77_65 : SC := .seq s77_11 s77_64
abbrev s77_66 : SC := .block 0 s77_65
abbrev s77_67 : SC := .seq s77_10 s77_66
abbrev s77_68 : SC := .region [⟨(some 8), .assign (.const (.bool false)), none⟩, ⟨(some 9), .assign (.const (.int .i64 1)), none⟩]
abbrev s77_69 : SC := .seq s77_68 .ret
abbrev s77_70 : SC := .seq s77_67 s77_69
abbrev s77_71 : SC := .seq s77_9 s77_70
abbrev s77_72 : SC := .seq s77_5 s77_71
abbrev s77_73 : SC := .seq s77_4 s77_72
abbrev s77_74 : SC := .seq s77_0 s77_73
noncomputable def c77 : Code := match Try.f77.body with | some c => c | none => .skip
theorem b77 : Try.f77.body = some c77 := by kernel_rfl
theorem sc77 : toSC C77 c77 = some s77_74 := by kernel_rfl
set_option maxRecDepth 100000 in
theorem run77 {args : List AV} {H : Heap} {R : Out → Heap → Prop} (hl : args.length ≤ 87) (h : SWp Try.prog C77 s77_74 (finK [.tmp 8, .tmp 9] R) ⟨argSlots 0 args, [], H⟩) : ∃ out H', CallRuns Try.prog 77 args H out H' ∧ R out H' :=
  callRuns_of (C := C77) (by kernel_rfl) hD hZ Try.func77 b77 Try.ntmps77 Try.call77 sc77 (by kernel_rfl) hl h

-- function 30: portcullis/portcullislaw17.test
def C30 : Cfg := ⟨36, [], zget ztab⟩
@[simp] theorem L30 : C30.L = [] := rfl
@[simp] theorem Z30 : C30.Z = zget ztab := rfl
abbrev s30_0 : SC := .region [⟨(some 8), .assign (.const (.bool false)), none⟩, ⟨(some 9), .assign (.const (.bool false)), none⟩]
abbrev s30_1 : SC := .region [⟨(some 14), .move (.tmp 0), none⟩, ⟨(some 15), .binOp .eql 3 (.tmp 14) (.const (.int .i64 68)) 3, none⟩]
abbrev s30_2 : SC := .region [⟨(some 17), .move (.tmp 1), none⟩, ⟨(some 18), .move (.tmp 2), none⟩, ⟨(some 19), .move (.tmp 3), none⟩, ⟨(some 20), .call ⟨.value (.func 77), #[.const (.int .i64 64), .tmp 17, .tmp 18, .tmp 19], #[3, 4, 22, 22]⟩, none⟩, ⟨(some 16), .move (.tmp 20), none⟩, ⟨(some 21), .extract (.tmp 16) 0, none⟩, ⟨(some 22), .extract (.tmp 16) 1, none⟩, ⟨(some 10), .assign (.tmp 21), none⟩, ⟨(some 11), .assign (.tmp 22), none⟩]
abbrev s30_3 : SC := .region [⟨(some 23), .move (.tmp 10), none⟩, ⟨(some 24), .unOp .not 4 (.tmp 23), none⟩, ⟨(some 8), .assign (.tmp 24), none⟩, ⟨(some 9), .assign (.const (.bool true)), none⟩]
abbrev s30_4 : SC := .seq s30_3 .ret
abbrev s30_5 : SC := .seq s30_2 s30_4
abbrev s30_6 : SC := .cond (.tmp 15) s30_5 .skip
abbrev s30_7 : SC := .seq s30_1 s30_6
abbrev s30_8 : SC := .region [⟨(some 26), .move (.tmp 0), none⟩, ⟨(some 27), .move (.tmp 1), none⟩, ⟨(some 28), .move (.tmp 2), none⟩, ⟨(some 29), .move (.tmp 3), none⟩, ⟨(some 30), .call ⟨.value (.func 77), #[.tmp 26, .tmp 27, .tmp 28, .tmp 29], #[3, 4, 22, 22]⟩, none⟩, ⟨(some 25), .move (.tmp 30), none⟩, ⟨(some 31), .extract (.tmp 25) 0, none⟩, ⟨(some 32), .extract (.tmp 25) 1, none⟩, ⟨(some 12), .assign (.tmp 31), none⟩, ⟨(some 13), .assign (.tmp 32), none⟩]
abbrev s30_9 : SC := .region [⟨(some 33), .move (.tmp 12), none⟩, ⟨(some 34), .move (.tmp 13), none⟩, ⟨(some 35), .binOp .eql 3 (.tmp 34) (.const (.int .i64 0)) 3, none⟩, ⟨(some 8), .assign (.tmp 33), none⟩, ⟨(some 9), .assign (.tmp 35), none⟩]
abbrev s30_10 : SC := .seq s30_9 .ret
abbrev s30_11 : SC := .seq s30_8 s30_10
abbrev s30_12 : SC := .seq s30_7 s30_11
abbrev s30_13 : SC := .seq s30_0 s30_12
noncomputable def c30 : Code := match Try.f30.body with | some c => c | none => .skip
theorem b30 : Try.f30.body = some c30 := by kernel_rfl
theorem sc30 : toSC C30 c30 = some s30_13 := by kernel_rfl
set_option maxRecDepth 100000 in
theorem run30 {args : List AV} {H : Heap} {R : Out → Heap → Prop} (hl : args.length ≤ 36) (h : SWp Try.prog C30 s30_13 (finK [.tmp 8, .tmp 9] R) ⟨argSlots 0 args, [], H⟩) : ∃ out H', CallRuns Try.prog 30 args H out H' ∧ R out H' :=
  callRuns_of (C := C30) (by kernel_rfl) hD hZ Try.func30 b30 Try.ntmps30 Try.call30 sc30 (by kernel_rfl) hl h

-- function 6: portcullis/portcullislaw17.BranchSound
def C6 : Cfg := ⟨119, [5, 7, 8, 9, 10, 48, 61], zget ztab⟩
@[simp] theorem L6 : C6.L = [5, 7, 8, 9, 10, 48, 61] := rfl
@[simp] theorem Z6 : C6.Z = zget ztab := rfl
abbrev s6_0 : SC := .region [⟨(some 5), .box 42 (.tmp 2), none⟩, ⟨(some 6), .assign (.const (.bool false)), none⟩]
abbrev s6_1 : SC := .draw [(⟨(some 21), .indexAddr 42 (.tmp 5) (.const (.int .i64 0)), none⟩, ⟨[], [], false, false⟩), (⟨(some 22), .load 26 (.tmp 21), none⟩, ⟨[5], [], false, false⟩), (⟨(some 23), .call ⟨.value (.func 21), #[.tmp 22], #[26]⟩, none⟩, ⟨[], [], true, true⟩), (⟨(some 24), .indexAddr 42 (.tmp 5) (.const (.int .i64 1)), none⟩, ⟨[], [], false, false⟩), (⟨(some 25), .load 26 (.tmp 24), none⟩, ⟨[5], [], false, false⟩), (⟨(some 26), .call ⟨.value (.func 21), #[.tmp 25], #[26]⟩, none⟩, ⟨[], [], true, true⟩), (⟨(some 7), .alloc 26, none⟩, ⟨[], [7], false, false⟩), (⟨(some 8), .alloc 26, none⟩, ⟨[], [8], false, false⟩), (⟨none, .store 26 (.tmp 7) (.tmp 23), none⟩, ⟨[], [7], false, false⟩), (⟨none, .store 26 (.tmp 8) (.tmp 26), none⟩, ⟨[], [8], false, false⟩)]
abbrev s6_2 : SC := .region [⟨(some 28), .move (.tmp 0), none⟩, ⟨(some 29), .move (.tmp 1), none⟩, ⟨(some 30), .load 26 (.tmp 7), none⟩, ⟨(some 31), .load 26 (.tmp 8), none⟩, ⟨(some 32), .call ⟨.value (.func 22), #[.tmp 28, .tmp 29, .tmp 30, .tmp 31], #[3, 4, 26, 26]⟩, none⟩, ⟨(some 27), .move (.tmp 32), none⟩, ⟨(some 33), .extract (.tmp 27) 0, none⟩, ⟨(some 34), .extract (.tmp 27) 1, none⟩, ⟨(some 35), .extract (.tmp 27) 2, none⟩, ⟨(some 9), .alloc 26, none⟩, ⟨(some 10), .alloc 26, none⟩, ⟨none, .store 26 (.tmp 9) (.tmp 33), none⟩, ⟨none, .store 26 (.tmp 10) (.tmp 34), none⟩, ⟨(some 11), .assign (.tmp 35), none⟩]
abbrev s6_3 : SC := .draw [(⟨(some 36), .indexAddr 42 (.tmp 5) (.const (.int .i64 0)), none⟩, ⟨[], [], false, false⟩), (⟨(some 37), .fieldAddr 26 (.tmp 36) 1, none⟩, ⟨[], [], false, false⟩), (⟨(some 38), .load 22 (.tmp 37), none⟩, ⟨[5], [], false, false⟩), (⟨(some 39), .indexAddr 42 (.tmp 5) (.const (.int .i64 0)), none⟩, ⟨[], [], false, false⟩), (⟨(some 40), .fieldAddr 26 (.tmp 39) 2, none⟩, ⟨[], [], false, false⟩), (⟨(some 41), .load 22 (.tmp 40), none⟩, ⟨[5], [], false, false⟩), (⟨(some 42), .indexAddr 42 (.tmp 5) (.const (.int .i64 1)), none⟩, ⟨[], [], false, false⟩), (⟨(some 43), .fieldAddr 26 (.tmp 42) 2, none⟩, ⟨[], [], false, false⟩), (⟨(some 44), .load 22 (.tmp 43), none⟩, ⟨[5], [], false, false⟩), (⟨(some 45), .indexAddr 42 (.tmp 5) (.const (.int .i64 1)), none⟩, ⟨[], [], false, false⟩), (⟨(some 46), .fieldAddr 26 (.tmp 45) 1, none⟩, ⟨[], [], false, false⟩), (⟨(some 47), .load 22 (.tmp 46), none⟩, ⟨[5], [], false, false⟩), (⟨(some 48), .buildSlice 50 4 #[(0, .tmp 38), (1, .tmp 41), (2, .tmp 44), (3, .tmp 47)], none⟩, ⟨[], [48], false, false⟩), (⟨(some 49), .indexAddr 42 (.tmp 5) (.const (.int .i64 1)), none⟩, ⟨[], [], false, false⟩), (⟨(some 50), .fieldAddr 26 (.tmp 49) 1, none⟩, ⟨[], [], false, false⟩), (⟨(some 51), .load 22 (.tmp 50), none⟩, ⟨[5], [], false, false⟩), (⟨(some 52), .indexAddr 42 (.tmp 5) (.const (.int .i64 1)), none⟩, ⟨[], [], false, false⟩), (⟨(some 53), .fieldAddr 26 (.tmp 52) 2, none⟩, ⟨[], [], false, false⟩), (⟨(some 54), .load 22 (.tmp 53), none⟩, ⟨[5], [], false, false⟩), (⟨(some 55), .indexAddr 42 (.tmp 5) (.const (.int .i64 0)), none⟩, ⟨[], [], false, false⟩), (⟨(some 56), .fieldAddr 26 (.tmp 55) 2, none⟩, ⟨[], [], false, false⟩), (⟨(some 57), .load 22 (.tmp 56), none⟩, ⟨[5], [], false, false⟩), (⟨(some 58), .indexAddr 42 (.tmp 5) (.const (.int .i64 0)), none⟩, ⟨[], [], false, false⟩), (⟨(some 59), .fieldAddr 26 (.tmp 58) 1, none⟩, ⟨[], [], false, false⟩), (⟨(some 60), .load 22 (.tmp 59), none⟩, ⟨[5], [], false, false⟩), (⟨(some 61), .buildSlice 50 4 #[(0, .tmp 51), (1, .tmp 54), (2, .tmp 57), (3, .tmp 60)], none⟩, ⟨[], [61], false, false⟩), (⟨(some 12), .assign (.tmp 48), none⟩, ⟨[], [], false, false⟩), (⟨(some 13), .assign (.tmp 61), none⟩, ⟨[], [], false, false⟩)]
abbrev s6_4 : SC := .region [⟨(some 14), .assign (.const (.int .i64 0)), none⟩]
abbrev s6_5 : SC := .region [⟨(some 62), .move (.tmp 14), none⟩, ⟨(some 63), .binOp .lss 3 (.tmp 62) (.const (.int .i64 4)) 3, none⟩]
abbrev s6_6 : SC := .cond (.tmp 63) .skip (.exit 0)
abbrev s6_7 : SC := .seq s6_5 s6_6
abbrev s6_8 : SC := .draw [(⟨(some 67), .load 26 (.tmp 7), none⟩, ⟨[7], [], false, false⟩), (⟨(some 68), .move (.tmp 12), none⟩, ⟨[], [], false, false⟩), (⟨(some 69), .move (.tmp 14), none⟩, ⟨[], [], false, false⟩), (⟨(some 70), .indexAddr 50 (.tmp 68) (.tmp 69), none⟩, ⟨[], [], false, false⟩), (⟨(some 71), .load 22 (.tmp 70), none⟩, ⟨[5, 7, 8, 9, 10, 48, 61], [], true, false⟩), (⟨(some 72), .call ⟨.value (.func 29), #[.tmp 67, .tmp 71], #[26, 22]⟩, none⟩, ⟨[], [], true, true⟩), (⟨(some 66), .move (.tmp 72), none⟩, ⟨[], [], false, false⟩), (⟨(some 73), .extract (.tmp 66) 0, none⟩, ⟨[], [], false, false⟩), (⟨(some 74), .extract (.tmp 66) 1, none⟩, ⟨[], [], false, false⟩), (⟨(some 15), .assign (.tmp 73), none⟩, ⟨[], [], false, false⟩), (⟨(some 16), .assign (.tmp 74), none⟩, ⟨[], [], false, false⟩)]
abbrev s6_9 : SC := .draw [(⟨(some 76), .load 26 (.tmp 8), none⟩, ⟨[8], [], false, false⟩), (⟨(some 77), .move (.tmp 13), none⟩, ⟨[], [], false, false⟩), (⟨(some 78), .move (.tmp 14), none⟩, ⟨[], [], false, false⟩), (⟨(some 79), .indexAddr 50 (.tmp 77) (.tmp 78), none⟩, ⟨[], [], false, false⟩), (⟨(some 80), .load 22 (.tmp 79), none⟩, ⟨[5, 7, 8, 9, 10, 48, 61], [], true, false⟩), (⟨(some 81), .call ⟨.value (.func 29), #[.tmp 76, .tmp 80], #[26, 22]⟩, none⟩, ⟨[], [], true, true⟩), (⟨(some 75), .move (.tmp 81), none⟩, ⟨[], [], false, false⟩), (⟨(some 82), .extract (.tmp 75) 0, none⟩, ⟨[], [], false, false⟩), (⟨(some 83), .extract (.tmp 75) 1, none⟩, ⟨[], [], false, false⟩), (⟨(some 17), .assign (.tmp 82), none⟩, ⟨[], [], false, false⟩), (⟨(some 18), .assign (.tmp 83), none⟩, ⟨[], [], false, false⟩)]
abbrev s6_10 : SC := .region [⟨(some 84), .move (.tmp 16), none⟩, ⟨(some 85), .unOp .not 4 (.tmp 84), none⟩, ⟨(some 86), .move (.tmp 85), none⟩, ⟨(some 87), .move (.tmp 18), (some (86, false))⟩, ⟨(some 88), .unOp .not 4 (.tmp 87), (some (86, false))⟩, ⟨(some 89), .pick (.tmp 86) (.const (.bool true)) (.tmp 88), none⟩]
abbrev s6_11 : SC := .cond (.tmp 89) (.exit 1) .skip
abbrev s6_12 : SC := .seq s6_10 s6_11
abbrev s6_13 : SC := .region [⟨(some 91), .move (.tmp 0), none⟩, ⟨(some 92), .move (.tmp 1), none⟩, ⟨(some 93), .move (.tmp 15), none⟩, ⟨(some 94), .move (.tmp 17), none⟩, ⟨(some 95), .call ⟨.value (.func 30), #[.tmp 91, .tmp 92, .tmp 93, .tmp 94], #[3, 4, 22, 22]⟩, none⟩, ⟨(some 90), .move (.tmp 95), none⟩, ⟨(some 96), .extract (.tmp 90) 0, none⟩, ⟨(some 97), .extract (.tmp 90) 1, none⟩, ⟨(some 19), .assign (.tmp 96), none⟩, ⟨(some 20), .assign (.tmp 97), none⟩]
abbrev s6_14 : SC := .region [⟨(some 98), .move (.tmp 20), none⟩, ⟨(some 99), .move (.tmp 98), none⟩, ⟨(some 100), .move (.tmp 19), (some (99, true))⟩, ⟨(some 101), .pick (.tmp 99) (.tmp 100) (.const (.bool false)), none⟩, ⟨(some 102), .move (.tmp 101), none⟩, ⟨(some 103), .move (.tmp 11), (some (102, true))⟩, ⟨(some 104), .unOp .not 4 (.tmp 103), (some (102, true))⟩, ⟨(some 105), .move (.tmp 104), (some (102, true))⟩, ⟨(some 106), .load 26 (.tmp 9), (some (105, false))⟩, ⟨(some 107), .move (.tmp 15), (some (105, false))⟩, ⟨(some 108), .call ⟨.value (.func 31), #[.tmp 106, .tmp 107], #[26, 22]⟩, (some (105, false))⟩, ⟨(some 109), .unOp .not 4 (.tmp 108), (some (105, false))⟩, ⟨(some 110), .pick (.tmp 105) (.const (.bool true)) (.tmp 109), (some (102, true))⟩, ⟨(some 111), .move (.tmp 110), (some (102, true))⟩, ⟨(some 112), .load 26 (.tmp 10), (some (111, false))⟩, ⟨(some 113), .move (.tmp 17), (some (111, false))⟩, ⟨(some 114), .call ⟨.value (.func 31), #[.tmp 112, .tmp 113], #[26, 22]⟩, (some (111, false))⟩, ⟨(some 115), .unOp .not 4 (.tmp 114), (some (111, false))⟩, ⟨(some 116), .pick (.tmp 111) (.const (.bool true)) (.tmp 115), (some (102, true))⟩, ⟨(some 117), .pick (.tmp 102) (.tmp 116) (.const (.bool false)), none⟩]
abbrev s6_15 : SC := .region [⟨(some 6), .assign (.const (.bool false)), none⟩]
abbrev s6_16 : SC := .seq s6_15 .ret
abbrev s6_17 : SC := .cond (.tmp 117) s6_16 .skip
abbrev s6_18 : SC := .seq s6_14 s6_17
abbrev s6_19 : SC := .seq s6_13 s6_18
abbrev s6_20 : SC := .seq s6_12 s6_19
abbrev s6_21 : SC := .seq s6_9 s6_20
abbrev s6_22 : SC := .seq s6_8 s6_21
abbrev s6_23 : SC := .block 1 s6_22
abbrev s6_24 : SC := .region [⟨(some 64), .move (.tmp 14), none⟩, ⟨(some 65), .binOp .add 3 (.tmp 64) (.const (.int .i64 1)) 3, none⟩, ⟨(some 14), .assign (.tmp 65), none⟩]
abbrev s6_25 : SC := .seq s6_23 s6_24
abbrev s6_26 : SC := .seq s6_7 s6_25
abbrev s6_27 : SC := .loop s6_26
abbrev s6_28 : SC := .block 0 s6_27
abbrev s6_29 : SC := .seq s6_4 s6_28
abbrev s6_30 : SC := .region [⟨(some 118), .call ⟨.value (.func 28), #[], #[]⟩, none⟩, ⟨(some 6), .assign (.tmp 118), none⟩]
abbrev s6_31 : SC := .seq s6_30 .ret
abbrev s6_32 : SC := .seq s6_29 s6_31
abbrev s6_33 : SC := .seq s6_3 s6_32
abbrev s6_34 : SC := .seq s6_2 s6_33
abbrev s6_35 : SC := .seq s6_1 s6_34
abbrev s6_36 : SC := .seq s6_0 s6_35
noncomputable def c6 : Code := match Try.f6.body with | some c => c | none => .skip
theorem b6 : Try.f6.body = some c6 := by kernel_rfl
theorem sc6 : toSC C6 c6 = some s6_36 := by kernel_rfl
set_option maxRecDepth 100000 in
theorem run6 {args : List AV} {H : Heap} {R : Out → Heap → Prop} (hl : args.length ≤ 119) (h : SWp Try.prog C6 s6_36 (finK [.tmp 6] R) ⟨argSlots 0 args, [], H⟩) : ∃ out H', CallRuns Try.prog 6 args H out H' ∧ R out H' :=
  callRuns_of (C := C6) (by kernel_rfl) hD hZ Try.func6 b6 Try.ntmps6 Try.call6 sc6 (by kernel_rfl) hl h

-- function 7: portcullis/portcullislaw17.BranchAlways
def C7 : Cfg := ⟨82, [5, 7, 8], zget ztab⟩
@[simp] theorem L7 : C7.L = [5, 7, 8] := rfl
@[simp] theorem Z7 : C7.Z = zget ztab := rfl
abbrev s7_0 : SC := .region [⟨(some 5), .box 42 (.tmp 2), none⟩, ⟨(some 6), .assign (.const (.bool false)), none⟩]
abbrev s7_1 : SC := .draw [(⟨(some 17), .indexAddr 42 (.tmp 5) (.const (.int .i64 0)), none⟩, ⟨[], [], false, false⟩), (⟨(some 18), .load 26 (.tmp 17), none⟩, ⟨[5], [], false, false⟩), (⟨(some 19), .call ⟨.value (.func 21), #[.tmp 18], #[26]⟩, none⟩, ⟨[], [], true, true⟩), (⟨(some 20), .indexAddr 42 (.tmp 5) (.const (.int .i64 1)), none⟩, ⟨[], [], false, false⟩), (⟨(some 21), .load 26 (.tmp 20), none⟩, ⟨[5], [], false, false⟩), (⟨(some 22), .call ⟨.value (.func 21), #[.tmp 21], #[26]⟩, none⟩, ⟨[], [], true, true⟩), (⟨(some 7), .alloc 26, none⟩, ⟨[], [7], false, false⟩), (⟨(some 8), .alloc 26, none⟩, ⟨[], [8], false, false⟩), (⟨none, .store 26 (.tmp 7) (.tmp 19), none⟩, ⟨[], [7], false, false⟩), (⟨none, .store 26 (.tmp 8) (.tmp 22), none⟩, ⟨[], [8], false, false⟩)]
abbrev s7_2 : SC := .region [⟨(some 24), .move (.tmp 0), none⟩, ⟨(some 25), .move (.tmp 1), none⟩, ⟨(some 26), .load 26 (.tmp 7), none⟩, ⟨(some 27), .load 26 (.tmp 8), none⟩, ⟨(some 28), .call ⟨.value (.func 24), #[.tmp 24, .tmp 25, .tmp 26, .tmp 27], #[3, 4, 26, 26]⟩, none⟩, ⟨(some 23), .move (.tmp 28), none⟩, ⟨(some 29), .extract (.tmp 23) 0, none⟩, ⟨(some 30), .extract (.tmp 23) 1, none⟩, ⟨(some 9), .assign (.tmp 29), none⟩, ⟨(some 10), .assign (.tmp 30), none⟩]
abbrev s7_3 : SC := .region [⟨(some 32), .load 26 (.tmp 7), none⟩, ⟨(some 33), .indexAddr 42 (.tmp 5) (.const (.int .i64 1)), none⟩, ⟨(some 34), .fieldAddr 26 (.tmp 33) 1, none⟩, ⟨(some 35), .load 22 (.tmp 34), none⟩, ⟨(some 36), .call ⟨.value (.func 29), #[.tmp 32, .tmp 35], #[26, 22]⟩, none⟩, ⟨(some 31), .move (.tmp 36), none⟩, ⟨(some 37), .extract (.tmp 31) 0, none⟩, ⟨(some 38), .extract (.tmp 31) 1, none⟩, ⟨(some 11), .assign (.tmp 37), none⟩, ⟨(some 12), .assign (.tmp 38), none⟩]
abbrev s7_4 : SC := .region [⟨(some 40), .load 26 (.tmp 8), none⟩, ⟨(some 41), .indexAddr 42 (.tmp 5) (.const (.int .i64 0)), none⟩, ⟨(some 42), .fieldAddr 26 (.tmp 41) 2, none⟩, ⟨(some 43), .load 22 (.tmp 42), none⟩, ⟨(some 44), .call ⟨.value (.func 29), #[.tmp 40, .tmp 43], #[26, 22]⟩, none⟩, ⟨(some 39), .move (.tmp 44), none⟩, ⟨(some 45), .extract (.tmp 39) 0, none⟩, ⟨(some 46), .extract (.tmp 39) 1, none⟩, ⟨(some 13), .assign (.tmp 45), none⟩, ⟨(some 14), .assign (.tmp 46), none⟩]
abbrev s7_5 : SC := .region [⟨(some 47), .move (.tmp 10), none⟩, ⟨(some 48), .unOp .not 4 (.tmp 47), none⟩, ⟨(some 49), .move (.tmp 48), none⟩, ⟨(some 50), .move (.tmp 12), (some (49, false))⟩, ⟨(some 51), .unOp .not 4 (.tmp 50), (some (49, false))⟩, ⟨(some 52), .pick (.tmp 49) (.const (.bool true)) (.tmp 51), none⟩, ⟨(some 53), .move (.tmp 52), none⟩, ⟨(some 54), .move (.tmp 14), (some (53, false))⟩, ⟨(some 55), .unOp .not 4 (.tmp 54), (some (53, false))⟩, ⟨(some 56), .pick (.tmp 53) (.const (.bool true)) (.tmp 55), none⟩]
abbrev s7_6 : SC := .region [⟨(some 57), .move (.tmp 10), none⟩, ⟨(some 58), .move (.tmp 57), none⟩, ⟨(some 59), .move (.tmp 9), (some (58, false))⟩, ⟨(some 60), .unOp .not 4 (.tmp 59), (some (58, false))⟩, ⟨(some 61), .pick (.tmp 58) (.const (.bool true)) (.tmp 60), none⟩, ⟨(some 62), .move (.tmp 61), none⟩, ⟨(some 63), .call ⟨.value (.func 28), #[], #[]⟩, (some (62, true))⟩, ⟨(some 64), .pick (.tmp 62) (.tmp 63) (.const (.bool false)), none⟩, ⟨(some 6), .assign (.tmp 64), none⟩]
abbrev s7_7 : SC := .seq s7_6 .ret
abbrev s7_8 : SC := .cond (.tmp 56) s7_7 .skip
abbrev s7_9 : SC := .seq s7_5 s7_8
abbrev s7_10 : SC := .region [⟨(some 66), .move (.tmp 0), none⟩, ⟨(some 67), .move (.tmp 1), none⟩, ⟨(some 68), .move (.tmp 11), none⟩, ⟨(some 69), .move (.tmp 13), none⟩, ⟨(some 70), .call ⟨.value (.func 30), #[.tmp 66, .tmp 67, .tmp 68, .tmp 69], #[3, 4, 22, 22]⟩, none⟩, ⟨(some 65), .move (.tmp 70), none⟩, ⟨(some 71), .extract (.tmp 65) 0, none⟩, ⟨(some 72), .extract (.tmp 65) 1, none⟩, ⟨(some 15), .assign (.tmp 71), none⟩, ⟨(some 16), .assign (.tmp 72), none⟩]
abbrev s7_11 : SC := .region [⟨(some 73), .move (.tmp 16), none⟩, ⟨(some 74), .move (.tmp 73), none⟩, ⟨(some 75), .move (.tmp 15), (some (74, true))⟩, ⟨(some 76), .move (.tmp 9), (some (74, true))⟩, ⟨(some 77), .binOp .eql 4 (.tmp 75) (.tmp 76) 4, (some (74, true))⟩, ⟨(some 78), .pick (.tmp 74) (.tmp 77) (.const (.bool false)), none⟩, ⟨(some 79), .move (.tmp 78), none⟩, ⟨(some 80), .call ⟨.value (.func 28), #[], #[]⟩, (some (79, true))⟩, ⟨(some 81), .pick (.tmp 79) (.tmp 80) (.const (.bool false)), none⟩, ⟨(some 6), .assign (.tmp 81), none⟩]
abbrev s7_12 : SC := .seq s7_11 .ret
abbrev s7_13 : SC := .seq s7_10 s7_12
abbrev s7_14 : SC := .seq s7_9 s7_13
abbrev s7_15 : SC := .seq s7_4 s7_14
abbrev s7_16 : SC := .seq s7_3 s7_15
abbrev s7_17 : SC := .seq s7_2 s7_16
abbrev s7_18 : SC := .seq s7_1 s7_17
abbrev s7_19 : SC := .seq s7_0 s7_18
noncomputable def c7 : Code := match Try.f7.body with | some c => c | none => .skip
theorem b7 : Try.f7.body = some c7 := by kernel_rfl
theorem sc7 : toSC C7 c7 = some s7_19 := by kernel_rfl
set_option maxRecDepth 100000 in
theorem run7 {args : List AV} {H : Heap} {R : Out → Heap → Prop} (hl : args.length ≤ 82) (h : SWp Try.prog C7 s7_19 (finK [.tmp 6] R) ⟨argSlots 0 args, [], H⟩) : ∃ out H', CallRuns Try.prog 7 args H out H' ∧ R out H' :=
  callRuns_of (C := C7) (by kernel_rfl) hD hZ Try.func7 b7 Try.ntmps7 Try.call7 sc7 (by kernel_rfl) hl h

end Go.Proofs.Ytlonpljlojgclaa
