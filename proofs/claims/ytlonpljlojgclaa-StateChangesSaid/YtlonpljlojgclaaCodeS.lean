import Derived.Test.YtlonpljlojgclaaCodeA
set_option linter.unusedSimpArgs false
set_option linter.unusedVariables false
namespace Go.Proofs.Ytlonpljlojgclaa
open Go Go.Av

-- type 1: func()
@[simp] theorem cells1 : Try.prog.cellsOf 1 = 1 := by kernel_rfl
attribute [simp] Try.underlying1
@[simp] theorem bytes3 : Try.prog.bytesOf 3 = 8 := by kernel_rfl
-- type 28: api.Reg
@[simp] theorem cells28 : Try.prog.cellsOf 28 = 8 := by kernel_rfl
attribute [simp] Try.underlying28
-- type 29: [11]api.Reg
@[simp] theorem cells29 : Try.prog.cellsOf 29 = 88 := by kernel_rfl
attribute [simp] Try.underlying29
-- type 31: api.Slot
@[simp] theorem cells31 : Try.prog.cellsOf 31 = 10 := by kernel_rfl
attribute [simp] Try.underlying31
-- type 32: [64]api.Slot
@[simp] theorem cells32 : Try.prog.cellsOf 32 = 640 := by kernel_rfl
attribute [simp] Try.underlying32
-- type 35: api.State
@[simp] theorem cells35 : Try.prog.cellsOf 35 = 731 := by kernel_rfl
attribute [simp] Try.underlying35
-- type 79: *state.pairs
@[simp] theorem cells79 : Try.prog.cellsOf 79 = 1 := by kernel_rfl
attribute [simp] Try.underlying79
-- type 82: state.pairs
@[simp] theorem cells82 : Try.prog.cellsOf 82 = 2 := by kernel_rfl
attribute [simp] Try.underlying82
-- type 86: func(int, int) bool
@[simp] theorem cells86 : Try.prog.cellsOf 86 = 1 := by kernel_rfl
attribute [simp] Try.underlying86
-- type 87: *portcullisref18.Table
@[simp] theorem cells87 : Try.prog.cellsOf 87 = 1 := by kernel_rfl
attribute [simp] Try.underlying87
-- type 89: portcullisref18.Table
@[simp] theorem cells89 : Try.prog.cellsOf 89 = 2 := by kernel_rfl
attribute [simp] Try.underlying89
-- type 109: func(api.Reg) api.Reg
@[simp] theorem cells109 : Try.prog.cellsOf 109 = 1 := by kernel_rfl
attribute [simp] Try.underlying109
-- type 113: func(int) bool
@[simp] theorem cells113 : Try.prog.cellsOf 113 = 1 := by kernel_rfl
attribute [simp] Try.underlying113
def ztabS : List (TypeId × AV) := [(3, .int .i64 0), (24, .ag [.int .u64 0, .int .u64 0]), (26, .ag [.ag [.int .u64 0, .int .u64 0], .int .u64 0, .int .u64 0]), (28, .ag [.int .i64 0, .ag [.ag [.int .u64 0, .int .u64 0], .int .u64 0, .int .u64 0], .int .i64 0, .int .i64 0, .int .i64 0]), (31, .ag [.int .i64 0, .int .i64 0, .ag [.int .i64 0, .ag [.ag [.int .u64 0, .int .u64 0], .int .u64 0, .int .u64 0], .int .i64 0, .int .i64 0, .int .i64 0]]), (35, .ag [.ag (List.replicate 11 (.ag [.int .i64 0, .ag [.ag [.int .u64 0, .int .u64 0], .int .u64 0, .int .u64 0], .int .i64 0, .int .i64 0, .int .i64 0])), .ag (List.replicate 64 (.ag [.int .i64 0, .int .i64 0, .ag [.int .i64 0, .ag [.ag [.int .u64 0, .int .u64 0], .int .u64 0, .int .u64 0], .int .i64 0, .int .i64 0, .int .i64 0]])), .int .i64 0, .sl none 0 0, .int .i64 0]), (82, .ag [.map none, .map none]), (89, .ag [.sl none 0 0, .sl none 0 0])]
theorem hZS : ZOK Try.prog (zget ztabS) := zget_ok _ (by kernel_rfl)
theorem hDS : DrawOK Try.prog := draw_ok (by kernel_rfl)
@[simp] theorem z3_S : zget ztabS 3 = some (.int .i64 0) := rfl
@[simp] theorem z24_S : zget ztabS 24 = some (.ag [u64 0#64, u64 0#64]) := rfl
@[simp] theorem z26_S : zget ztabS 26 = some (.ag [.ag [u64 0#64, u64 0#64], u64 0#64, u64 0#64]) := rfl
@[simp] theorem z28_S : zget ztabS 28 = some (.ag [.int .i64 0, .ag [.ag [u64 0#64, u64 0#64], u64 0#64, u64 0#64], .int .i64 0, .int .i64 0, .int .i64 0]) := rfl
@[simp] theorem z31_S : zget ztabS 31 = some (.ag [.int .i64 0, .int .i64 0, .ag [.int .i64 0, .ag [.ag [u64 0#64, u64 0#64], u64 0#64, u64 0#64], .int .i64 0, .int .i64 0, .int .i64 0]]) := rfl
@[simp] theorem z35_S : zget ztabS 35 = some (.ag [.ag (List.replicate 11 (.ag [.int .i64 0, .ag [.ag [u64 0#64, u64 0#64], u64 0#64, u64 0#64], .int .i64 0, .int .i64 0, .int .i64 0])), .ag (List.replicate 64 (.ag [.int .i64 0, .int .i64 0, .ag [.int .i64 0, .ag [.ag [u64 0#64, u64 0#64], u64 0#64, u64 0#64], .int .i64 0, .int .i64 0, .int .i64 0]])), .int .i64 0, .sl none 0 0, .int .i64 0]) := rfl
@[simp] theorem z82_S : zget ztabS 82 = some (.ag [.map none, .map none]) := rfl
@[simp] theorem z89_S : zget ztabS 89 = some (.ag [.sl none 0 0, .sl none 0 0]) := rfl
@[simp] theorem eq28 {l m : List AV} : agEq Try.prog 28 l m = if wt Try.prog (.ag l) 28 && wt Try.prog (.ag m) 28 then eqL l m else none := agEq_of (by kernel_rfl) (by kernel_rfl)
@[simp] theorem eq29 {l m : List AV} : agEq Try.prog 29 l m = if wt Try.prog (.ag l) 29 && wt Try.prog (.ag m) 29 then eqL l m else none := agEq_of (by kernel_rfl) (by kernel_rfl)
@[simp] theorem eq31 {l m : List AV} : agEq Try.prog 31 l m = if wt Try.prog (.ag l) 31 && wt Try.prog (.ag m) 31 then eqL l m else none := agEq_of (by kernel_rfl) (by kernel_rfl)
@[simp] theorem eq32 {l m : List AV} : agEq Try.prog 32 l m = if wt Try.prog (.ag l) 32 && wt Try.prog (.ag m) 32 then eqL l m else none := agEq_of (by kernel_rfl) (by kernel_rfl)


-- function 51: portcullis/portcullisref18.Whole
def C51 : Cfg := ⟨49, [1], zget ztabS⟩
@[simp] theorem L51 : C51.L = [1] := rfl
@[simp] theorem Z51 : C51.Z = zget ztabS := rfl
abbrev s51_0 : SC := .region [⟨(some 1), .box 28 (.tmp 0), none⟩, ⟨(some 2), .assign (.const (.bool false)), none⟩]
abbrev s51_1 : SC := .region [⟨(some 3), .load 28 (.tmp 1), none⟩, ⟨(some 4), .build 28 #[], none⟩, ⟨(some 5), .binOp .eql 28 (.tmp 3) (.tmp 4) 28, none⟩]
abbrev s51_2 : SC := .region [⟨(some 2), .assign (.const (.bool true)), none⟩]
abbrev s51_3 : SC := .seq s51_2 .ret
abbrev s51_4 : SC := .cond (.tmp 5) s51_3 .skip
abbrev s51_5 : SC := .seq s51_1 s51_4
abbrev s51_6 : SC := .region [⟨(some 6), .fieldAddr 28 (.tmp 1) 0, none⟩, ⟨(some 7), .load 3 (.tmp 6), none⟩, ⟨(some 8), .binOp .geq 3 (.tmp 7) (.const (.int .i64 1)) 3, none⟩, ⟨(some 9), .move (.tmp 8), none⟩, ⟨(some 10), .fieldAddr 28 (.tmp 1) 0, (some (9, true))⟩, ⟨(some 11), .load 3 (.tmp 10), (some (9, true))⟩, ⟨(some 12), .binOp .leq 3 (.tmp 11) (.const (.int .i64 10)) 3, (some (9, true))⟩, ⟨(some 13), .pick (.tmp 9) (.tmp 12) (.const (.bool false)), none⟩, ⟨(some 14), .move (.tmp 13), none⟩, ⟨(some 15), .fieldAddr 28 (.tmp 1) 1, (some (14, true))⟩, ⟨(some 16), .load 26 (.tmp 15), (some (14, true))⟩, ⟨(some 17), .call ⟨.value (.func 65), #[.tmp 16], #[26]⟩, (some (14, true))⟩, ⟨(some 18), .pick (.tmp 14) (.tmp 17) (.const (.bool false)), none⟩, ⟨(some 19), .move (.tmp 18), none⟩, ⟨(some 20), .fieldAddr 28 (.tmp 1) 2, (some (19, true))⟩, ⟨(some 21), .load 3 (.tmp 20), (some (19, true))⟩, ⟨(some 22), .binOp .geq 3 (.tmp 21) (.const (.int .i64 0)) 3, (some (19, true))⟩, ⟨(some 23), .pick (.tmp 19) (.tmp 22) (.const (.bool false)), none⟩, ⟨(some 24), .move (.tmp 23), none⟩, ⟨(some 25), .fieldAddr 28 (.tmp 1) 2, (some (24, true))⟩, ⟨(some 26), .load 3 (.tmp 25), (some (24, true))⟩, ⟨(some 27), .binOp .leq 3 (.tmp 26) (.const (.int .i64 1048576)) 3, (some (24, true))⟩, ⟨(some 28), .pick (.tmp 24) (.tmp 27) (.const (.bool false)), none⟩, ⟨(some 29), .move (.tmp 28), none⟩, ⟨(some 30), .fieldAddr 28 (.tmp 1) 3, (some (29, true))⟩, ⟨(some 31), .load 3 (.tmp 30), (some (29, true))⟩, ⟨(some 32), .binOp .geq 3 (.tmp 31) (.const (.int .i64 0)) 3, (some (29, true))⟩, ⟨(some 33), .pick (.tmp 29) (.tmp 32) (.const (.bool false)), none⟩, ⟨(some 34), .move (.tmp 33), none⟩, ⟨(some 35), .fieldAddr 28 (.tmp 1) 3, (some (34, true))⟩, ⟨(some 36), .load 3 (.tmp 35), (some (34, true))⟩, ⟨(some 37), .binOp .leq 3 (.tmp 36) (.const (.int .i64 1099511627776)) 3, (some (34, true))⟩, ⟨(some 38), .pick (.tmp 34) (.tmp 37) (.const (.bool false)), none⟩, ⟨(some 39), .move (.tmp 38), none⟩, ⟨(some 40), .fieldAddr 28 (.tmp 1) 4, (some (39, true))⟩, ⟨(some 41), .load 3 (.tmp 40), (some (39, true))⟩, ⟨(some 42), .binOp .geq 3 (.tmp 41) (.const (.int .i64 0)) 3, (some (39, true))⟩, ⟨(some 43), .pick (.tmp 39) (.tmp 42) (.const (.bool false)), none⟩, ⟨(some 44), .move (.tmp 43), none⟩, ⟨(some 45), .fieldAddr 28 (.tmp 1) 4, (some (44, true))⟩, ⟨(some 46), .load 3 (.tmp 45), (some (44, true))⟩, ⟨(some 47), .binOp .leq 3 (.tmp 46) (.const (.int .i64 4096)) 3, (some (44, true))⟩, ⟨(some 48), .pick (.tmp 44) (.tmp 47) (.const (.bool false)), none⟩, ⟨(some 2), .assign (.tmp 48), none⟩]
abbrev s51_7 : SC := .seq s51_6 .ret
abbrev s51_8 : SC := .seq s51_5 s51_7
abbrev s51_9 : SC := .seq s51_0 s51_8
noncomputable def c51 : Code := match Try.f51.body with | some c => c | none => .skip
theorem b51 : Try.f51.body = some c51 := by kernel_rfl
theorem sc51 : toSC C51 c51 = some s51_9 := by kernel_rfl
set_option maxRecDepth 100000 in
theorem run51 {args : List AV} {H : Heap} {R : Out → Heap → Prop} (hl : args.length ≤ 49) (h : SWp Try.prog C51 s51_9 (finK [.tmp 2] R) ⟨argSlots 0 args, [], H⟩) : ∃ out H', CallRuns Try.prog 51 args H out H' ∧ R out H' :=
  callRuns_of (C := C51) (by kernel_rfl) hDS hZS Try.func51 b51 Try.ntmps51 Try.call51 sc51 (by kernel_rfl) hl h

-- function 14: portcullis/portcullisref18.Sane
def C14 : Cfg := ⟨142, [1, 5], zget ztabS⟩
@[simp] theorem L14 : C14.L = [1, 5] := rfl
@[simp] theorem Z14 : C14.Z = zget ztabS := rfl
abbrev s14_0 : SC := .region [⟨(some 1), .box 35 (.tmp 0), none⟩, ⟨(some 2), .assign (.const (.bool false)), none⟩]
abbrev s14_1 : SC := .region [⟨(some 3), .assign (.const (.int .i64 0)), none⟩]
abbrev s14_2 : SC := .region [⟨(some 8), .move (.tmp 3), none⟩, ⟨(some 9), .binOp .lss 3 (.tmp 8) (.const (.int .i64 11)) 3, none⟩]
abbrev s14_3 : SC := .cond (.tmp 9) .skip (.exit 0)
abbrev s14_4 : SC := .seq s14_2 s14_3
abbrev s14_5 : SC := .region [⟨(some 12), .move (.tmp 3), none⟩, ⟨(some 13), .fieldAddr 35 (.tmp 1) 0, none⟩, ⟨(some 14), .indexAddr 29 (.tmp 13) (.tmp 12), none⟩, ⟨(some 15), .load 28 (.tmp 14), none⟩, ⟨(some 16), .call ⟨.value (.func 51), #[.tmp 15], #[28]⟩, none⟩, ⟨(some 17), .unOp .not 4 (.tmp 16), none⟩]
abbrev s14_6 : SC := .region [⟨(some 2), .assign (.const (.bool false)), none⟩]
abbrev s14_7 : SC := .seq s14_6 .ret
abbrev s14_8 : SC := .cond (.tmp 17) s14_7 .skip
abbrev s14_9 : SC := .seq s14_5 s14_8
abbrev s14_10 : SC := .block 1 s14_9
abbrev s14_11 : SC := .region [⟨(some 10), .move (.tmp 3), none⟩, ⟨(some 11), .binOp .add 3 (.tmp 10) (.const (.int .i64 1)) 3, none⟩, ⟨(some 3), .assign (.tmp 11), none⟩]
abbrev s14_12 : SC := .seq s14_10 s14_11
abbrev s14_13 : SC := .seq s14_4 s14_12
abbrev s14_14 : SC := .loop s14_13
abbrev s14_15 : SC := .block 0 s14_14
abbrev s14_16 : SC := .seq s14_1 s14_15
abbrev s14_17 : SC := .region [⟨(some 4), .assign (.const (.int .i64 0)), none⟩]
abbrev s14_18 : SC := .region [⟨(some 18), .move (.tmp 4), none⟩, ⟨(some 19), .binOp .lss 3 (.tmp 18) (.const (.int .i64 64)) 3, none⟩]
abbrev s14_19 : SC := .cond (.tmp 19) .skip (.exit 2)
abbrev s14_20 : SC := .seq s14_18 s14_19
abbrev s14_21 : SC := .region [⟨(some 22), .move (.tmp 4), none⟩, ⟨(some 23), .fieldAddr 35 (.tmp 1) 1, none⟩, ⟨(some 24), .indexAddr 32 (.tmp 23) (.tmp 22), none⟩, ⟨(some 25), .load 31 (.tmp 24), none⟩, ⟨(some 5), .alloc 31, none⟩, ⟨none, .store 31 (.tmp 5) (.tmp 25), none⟩]
abbrev s14_22 : SC := .region [⟨(some 26), .fieldAddr 31 (.tmp 5) 0, none⟩, ⟨(some 27), .load 3 (.tmp 26), none⟩, ⟨(some 28), .binOp .lss 3 (.tmp 27) (.const (.int .i64 0)) 3, none⟩, ⟨(some 29), .move (.tmp 28), none⟩, ⟨(some 30), .fieldAddr 31 (.tmp 5) 0, (some (29, false))⟩, ⟨(some 31), .load 3 (.tmp 30), (some (29, false))⟩, ⟨(some 32), .binOp .gtr 3 (.tmp 31) (.const (.int .i64 2)) 3, (some (29, false))⟩, ⟨(some 33), .pick (.tmp 29) (.const (.bool true)) (.tmp 32), none⟩, ⟨(some 34), .move (.tmp 33), none⟩, ⟨(some 35), .fieldAddr 31 (.tmp 5) 1, (some (34, false))⟩, ⟨(some 36), .load 3 (.tmp 35), (some (34, false))⟩, ⟨(some 37), .binOp .lss 3 (.tmp 36) (.const (.int .i64 0)) 3, (some (34, false))⟩, ⟨(some 38), .pick (.tmp 34) (.const (.bool true)) (.tmp 37), none⟩, ⟨(some 39), .move (.tmp 38), none⟩, ⟨(some 40), .fieldAddr 31 (.tmp 5) 1, (some (39, false))⟩, ⟨(some 41), .load 3 (.tmp 40), (some (39, false))⟩, ⟨(some 42), .binOp .gtr 3 (.tmp 41) (.const (.int .i64 255)) 3, (some (39, false))⟩, ⟨(some 43), .pick (.tmp 39) (.const (.bool true)) (.tmp 42), none⟩, ⟨(some 44), .move (.tmp 43), none⟩, ⟨(some 45), .fieldAddr 31 (.tmp 5) 2, (some (44, false))⟩, ⟨(some 46), .load 28 (.tmp 45), (some (44, false))⟩, ⟨(some 47), .call ⟨.value (.func 51), #[.tmp 46], #[28]⟩, (some (44, false))⟩, ⟨(some 48), .unOp .not 4 (.tmp 47), (some (44, false))⟩, ⟨(some 49), .pick (.tmp 44) (.const (.bool true)) (.tmp 48), none⟩, ⟨(some 50), .move (.tmp 49), none⟩, ⟨(some 51), .fieldAddr 31 (.tmp 5) 0, (some (50, false))⟩, ⟨(some 52), .load 3 (.tmp 51), (some (50, false))⟩, ⟨(some 53), .binOp .eql 3 (.tmp 52) (.const (.int .i64 2)) 3, (some (50, false))⟩, ⟨(some 54), .move (.tmp 53), (some (50, false))⟩, ⟨(some 55), .fieldAddr 31 (.tmp 5) 2, (some (54, true))⟩, ⟨(some 56), .fieldAddr 28 (.tmp 55) 0, (some (54, true))⟩, ⟨(some 57), .load 3 (.tmp 56), (some (54, true))⟩, ⟨(some 58), .binOp .eql 3 (.tmp 57) (.const (.int .i64 0)) 3, (some (54, true))⟩, ⟨(some 59), .move (.tmp 58), (some (54, true))⟩, ⟨(some 60), .fieldAddr 31 (.tmp 5) 1, (some (59, false))⟩, ⟨(some 61), .load 3 (.tmp 60), (some (59, false))⟩, ⟨(some 62), .binOp .neq 3 (.tmp 61) (.const (.int .i64 0)) 3, (some (59, false))⟩, ⟨(some 63), .pick (.tmp 59) (.const (.bool true)) (.tmp 62), (some (54, true))⟩, ⟨(some 64), .pick (.tmp 54) (.tmp 63) (.const (.bool false)), (some (50, false))⟩, ⟨(some 65), .pick (.tmp 50) (.const (.bool true)) (.tmp 64), none⟩, ⟨(some 66), .move (.tmp 65), none⟩, ⟨(some 67), .fieldAddr 31 (.tmp 5) 0, (some (66, false))⟩, ⟨(some 68), .load 3 (.tmp 67), (some (66, false))⟩, ⟨(some 69), .binOp .neq 3 (.tmp 68) (.const (.int .i64 2)) 3, (some (66, false))⟩, ⟨(some 70), .move (.tmp 69), (some (66, false))⟩, ⟨(some 71), .fieldAddr 31 (.tmp 5) 2, (some (70, true))⟩, ⟨(some 72), .load 28 (.tmp 71), (some (70, true))⟩, ⟨(some 73), .build 28 #[], (some (70, true))⟩, ⟨(some 74), .binOp .neq 28 (.tmp 72) (.tmp 73) 28, (some (70, true))⟩, ⟨(some 75), .pick (.tmp 70) (.tmp 74) (.const (.bool false)), (some (66, false))⟩, ⟨(some 76), .pick (.tmp 66) (.const (.bool true)) (.tmp 75), none⟩, ⟨(some 77), .move (.tmp 76), none⟩, ⟨(some 78), .fieldAddr 31 (.tmp 5) 0, (some (77, false))⟩, ⟨(some 79), .load 3 (.tmp 78), (some (77, false))⟩, ⟨(some 80), .binOp .eql 3 (.tmp 79) (.const (.int .i64 0)) 3, (some (77, false))⟩, ⟨(some 81), .move (.tmp 80), (some (77, false))⟩, ⟨(some 82), .fieldAddr 31 (.tmp 5) 1, (some (81, true))⟩, ⟨(some 83), .load 3 (.tmp 82), (some (81, true))⟩, ⟨(some 84), .binOp .neq 3 (.tmp 83) (.const (.int .i64 0)) 3, (some (81, true))⟩, ⟨(some 85), .pick (.tmp 81) (.tmp 84) (.const (.bool false)), (some (77, false))⟩, ⟨(some 86), .pick (.tmp 77) (.const (.bool true)) (.tmp 85), none⟩]
abbrev s14_23 : SC := .region [⟨(some 2), .assign (.const (.bool false)), none⟩]
abbrev s14_24 : SC := .seq s14_23 .ret
abbrev s14_25 : SC := .cond (.tmp 86) s14_24 .skip
abbrev s14_26 : SC := .seq s14_22 s14_25
abbrev s14_27 : SC := .seq s14_21 s14_26
abbrev s14_28 : SC := .block 3 s14_27
abbrev s14_29 : SC := .region [⟨(some 20), .move (.tmp 4), none⟩, ⟨(some 21), .binOp .add 3 (.tmp 20) (.const (.int .i64 1)) 3, none⟩, ⟨(some 4), .assign (.tmp 21), none⟩]
abbrev s14_30 : SC := .seq s14_28 s14_29
abbrev s14_31 : SC := .seq s14_20 s14_30
abbrev s14_32 : SC := .loop s14_31
abbrev s14_33 : SC := .block 2 s14_32
abbrev s14_34 : SC := .seq s14_17 s14_33
abbrev s14_35 : SC := .region [⟨(some 6), .assign (.const (.int .i64 0)), none⟩]
abbrev s14_36 : SC := .region [⟨(some 87), .move (.tmp 6), none⟩, ⟨(some 88), .fieldAddr 35 (.tmp 1) 3, none⟩, ⟨(some 89), .load 33 (.tmp 88), none⟩, ⟨(some 90), .call ⟨.builtin .len, #[.tmp 89], #[33]⟩, none⟩, ⟨(some 91), .binOp .lss 3 (.tmp 87) (.tmp 90) 3, none⟩]
abbrev s14_37 : SC := .cond (.tmp 91) .skip (.exit 4)
abbrev s14_38 : SC := .seq s14_36 s14_37
abbrev s14_39 : SC := .region [⟨(some 94), .fieldAddr 35 (.tmp 1) 3, none⟩, ⟨(some 95), .load 33 (.tmp 94), none⟩, ⟨(some 96), .move (.tmp 6), none⟩, ⟨(some 97), .indexAddr 33 (.tmp 95) (.tmp 96), none⟩, ⟨(some 98), .load 3 (.tmp 97), none⟩, ⟨(some 99), .binOp .lss 3 (.tmp 98) (.const (.int .i64 1)) 3, none⟩, ⟨(some 100), .move (.tmp 99), none⟩, ⟨(some 101), .fieldAddr 35 (.tmp 1) 3, (some (100, false))⟩, ⟨(some 102), .load 33 (.tmp 101), (some (100, false))⟩, ⟨(some 103), .move (.tmp 6), (some (100, false))⟩, ⟨(some 104), .indexAddr 33 (.tmp 102) (.tmp 103), (some (100, false))⟩, ⟨(some 105), .load 3 (.tmp 104), (some (100, false))⟩, ⟨(some 106), .binOp .gtr 3 (.tmp 105) (.const (.int .i64 1099511627776)) 3, (some (100, false))⟩, ⟨(some 107), .pick (.tmp 100) (.const (.bool true)) (.tmp 106), none⟩]
abbrev s14_40 : SC := .region [⟨(some 2), .assign (.const (.bool false)), none⟩]
abbrev s14_41 : SC := .seq s14_40 .ret
abbrev s14_42 : SC := .cond (.tmp 107) s14_41 .skip
abbrev s14_43 : SC := .seq s14_39 s14_42
abbrev s14_44 : SC := .region [⟨(some 7), .assign (.const (.int .i64 0)), none⟩]
abbrev s14_45 : SC := .region [⟨(some 108), .move (.tmp 7), none⟩, ⟨(some 109), .move (.tmp 6), none⟩, ⟨(some 110), .binOp .lss 3 (.tmp 108) (.tmp 109) 3, none⟩]
abbrev s14_46 : SC := .cond (.tmp 110) .skip (.exit 6)
abbrev s14_47 : SC := .seq s14_45 s14_46
abbrev s14_48 : SC := .draw [(⟨(some 113), .fieldAddr 35 (.tmp 1) 3, none⟩, ⟨[], [], false, false⟩), (⟨(some 114), .load 33 (.tmp 113), none⟩, ⟨[1], [], false, false⟩), (⟨(some 115), .move (.tmp 7), none⟩, ⟨[], [], false, false⟩), (⟨(some 116), .indexAddr 33 (.tmp 114) (.tmp 115), none⟩, ⟨[], [], false, false⟩), (⟨(some 117), .load 3 (.tmp 116), none⟩, ⟨[1, 5], [], true, false⟩), (⟨(some 118), .fieldAddr 35 (.tmp 1) 3, none⟩, ⟨[], [], false, false⟩), (⟨(some 119), .load 33 (.tmp 118), none⟩, ⟨[1], [], false, false⟩), (⟨(some 120), .move (.tmp 6), none⟩, ⟨[], [], false, false⟩), (⟨(some 121), .indexAddr 33 (.tmp 119) (.tmp 120), none⟩, ⟨[], [], false, false⟩), (⟨(some 122), .load 3 (.tmp 121), none⟩, ⟨[1, 5], [], true, false⟩), (⟨(some 123), .binOp .eql 3 (.tmp 117) (.tmp 122) 3, none⟩, ⟨[], [], false, false⟩)]
abbrev s14_49 : SC := .region [⟨(some 2), .assign (.const (.bool false)), none⟩]
abbrev s14_50 : SC := .seq s14_49 .ret
abbrev s14_51 : SC := .cond (.tmp 123) s14_50 .skip
abbrev s14_52 : SC := .seq s14_48 s14_51
abbrev s14_53 : SC := .block 7 s14_52
abbrev s14_54 : SC := .region [⟨(some 111), .move (.tmp 7), none⟩, ⟨(some 112), .binOp .add 3 (.tmp 111) (.const (.int .i64 1)) 3, none⟩, ⟨(some 7), .assign (.tmp 112), none⟩]
abbrev s14_55 : SC := .seq s14_53 s14_54
abbrev s14_56 : SC := .seq s14_47 s14_55
abbrev s14_57 : SC := .loop s14_56
abbrev s14_58 : SC := .block 6 s14_57
abbrev s14_59 : SC := .seq s14_44 s14_58
abbrev s14_60 : SC := .seq s14_43 s14_59
abbrev s14_61 : SC := .block 5 s14_60
abbrev s14_62 : SC := .region [⟨(some 92), .move (.tmp 6), none⟩, ⟨(some 93), .binOp .add 3 (.tmp 92) (.const (.int .i64 1)) 3, none⟩, ⟨(some 6), .assign (.tmp 93), none⟩]
abbrev s14_63 : SC := .seq s14_61 s14_62
abbrev s14_64 : SC := .seq s14_38 s14_63
abbrev s14_65 : SC := .loop s14_64
abbrev s14_66 : SC := .block 4 s14_65
abbrev s14_67 : SC := .seq s14_35 s14_66
abbrev s14_68 : SC := .region [⟨(some 124), .fieldAddr 35 (.tmp 1) 2, none⟩, ⟨(some 125), .load 3 (.tmp 124), none⟩, ⟨(some 126), .binOp .geq 3 (.tmp 125) (.const (.int .i64 0)) 3, none⟩, ⟨(some 127), .move (.tmp 126), none⟩, ⟨(some 128), .fieldAddr 35 (.tmp 1) 2, (some (127, true))⟩, ⟨(some 129), .load 3 (.tmp 128), (some (127, true))⟩, ⟨(some 130), .binOp .leq 3 (.tmp 129) (.const (.int .i64 1048576)) 3, (some (127, true))⟩, ⟨(some 131), .pick (.tmp 127) (.tmp 130) (.const (.bool false)), none⟩, ⟨(some 132), .move (.tmp 131), none⟩, ⟨(some 133), .fieldAddr 35 (.tmp 1) 4, (some (132, true))⟩, ⟨(some 134), .load 3 (.tmp 133), (some (132, true))⟩, ⟨(some 135), .binOp .geq 3 (.tmp 134) (.const (.int .i64 0)) 3, (some (132, true))⟩, ⟨(some 136), .pick (.tmp 132) (.tmp 135) (.const (.bool false)), none⟩, ⟨(some 137), .move (.tmp 136), none⟩, ⟨(some 138), .fieldAddr 35 (.tmp 1) 4, (some (137, true))⟩, ⟨(some 139), .load 3 (.tmp 138), (some (137, true))⟩, ⟨(some 140), .binOp .leq 3 (.tmp 139) (.const (.int .i64 1099511627776)) 3, (some (137, true))⟩, ⟨(some 141), .pick (.tmp 137) (.tmp 140) (.const (.bool false)), none⟩, ⟨(some 2), .assign (.tmp 141), none⟩]
abbrev s14_69 : SC := .seq s14_68 .ret
abbrev s14_70 : SC := .seq s14_67 s14_69
abbrev s14_71 : SC := .seq s14_34 s14_70
abbrev s14_72 : SC := .seq s14_16 s14_71
abbrev s14_73 : SC := .seq s14_0 s14_72
noncomputable def c14 : Code := match Try.f14.body with | some c => c | none => .skip
theorem b14 : Try.f14.body = some c14 := by kernel_rfl
theorem sc14 : toSC C14 c14 = some s14_73 := by kernel_rfl
set_option maxRecDepth 100000 in
theorem run14 {args : List AV} {H : Heap} {R : Out → Heap → Prop} (hl : args.length ≤ 142) (h : SWp Try.prog C14 s14_73 (finK [.tmp 2] R) ⟨argSlots 0 args, [], H⟩) : ∃ out H', CallRuns Try.prog 14 args H out H' ∧ R out H' :=
  callRuns_of (C := C14) (by kernel_rfl) hDS hZS Try.func14 b14 Try.ntmps14 Try.call14 sc14 (by kernel_rfl) hl h

-- function 118: portcullis/tnum.Const
def C118 : Cfg := ⟨5, [2], zget ztabS⟩
@[simp] theorem L118 : C118.L = [2] := rfl
@[simp] theorem Z118 : C118.Z = zget ztabS := rfl
abbrev s118_0 : SC := .region [⟨(some 2), .alloc 24, none⟩]
abbrev s118_1 : SC := .region [⟨(some 3), .move (.tmp 0), none⟩, ⟨(some 4), .call ⟨.value (.func 109), #[.tmp 3, .const (.int .u64 0)], #[22, 22]⟩, none⟩, ⟨none, .store 24 (.tmp 2) (.tmp 4), none⟩]
abbrev s118_2 : SC := .seq s118_1 .ret
abbrev s118_3 : SC := .seq s118_0 s118_2
noncomputable def c118 : Code := match Try.f118.body with | some c => c | none => .skip
theorem b118 : Try.f118.body = some c118 := by kernel_rfl
theorem sc118 : toSC C118 c118 = some s118_3 := by kernel_rfl
set_option maxRecDepth 100000 in
theorem run118 {args : List AV} {H : Heap} {R : Out → Heap → Prop} (hl : args.length ≤ 5) (h : SWp Try.prog C118 s118_3 (finK [.cell 2 24] R) ⟨argSlots 0 args, [], H⟩) : ∃ out H', CallRuns Try.prog 118 args H out H' ∧ R out H' :=
  callRuns_of (C := C118) (by kernel_rfl) hDS hZS Try.func118 b118 Try.ntmps118 Try.call118 sc118 (by kernel_rfl) hl h

-- function 88: portcullis/scalar.Const
def C88 : Cfg := ⟨8, [2], zget ztabS⟩
@[simp] theorem L88 : C88.L = [2] := rfl
@[simp] theorem Z88 : C88.Z = zget ztabS := rfl
abbrev s88_0 : SC := .region [⟨(some 2), .alloc 26, none⟩]
abbrev s88_1 : SC := .region [⟨(some 3), .move (.tmp 0), none⟩, ⟨(some 4), .call ⟨.value (.func 118), #[.tmp 3], #[22]⟩, none⟩, ⟨(some 5), .move (.tmp 0), none⟩, ⟨(some 6), .move (.tmp 0), none⟩, ⟨(some 7), .build 26 #[(0, .tmp 4), (1, .tmp 5), (2, .tmp 6)], none⟩, ⟨none, .store 26 (.tmp 2) (.tmp 7), none⟩]
abbrev s88_2 : SC := .seq s88_1 .ret
abbrev s88_3 : SC := .seq s88_0 s88_2
noncomputable def c88 : Code := match Try.f88.body with | some c => c | none => .skip
theorem b88 : Try.f88.body = some c88 := by kernel_rfl
theorem sc88 : toSC C88 c88 = some s88_3 := by kernel_rfl
set_option maxRecDepth 100000 in
theorem run88 {args : List AV} {H : Heap} {R : Out → Heap → Prop} (hl : args.length ≤ 8) (h : SWp Try.prog C88 s88_3 (finK [.cell 2 26] R) ⟨argSlots 0 args, [], H⟩) : ∃ out H', CallRuns Try.prog 88 args H out H' ∧ R out H' :=
  callRuns_of (C := C88) (by kernel_rfl) hDS hZS Try.func88 b88 Try.ntmps88 Try.call88 sc88 (by kernel_rfl) hl h

-- function 52: portcullis/state.Begin
def C52 : Cfg := ⟨12, [0, 1], zget ztabS⟩
@[simp] theorem L52 : C52.L = [0, 1] := rfl
@[simp] theorem Z52 : C52.Z = zget ztabS := rfl
abbrev s52_0 : SC := .region [⟨(some 0), .alloc 35, none⟩]
abbrev s52_1 : SC := .region [⟨(some 2), .build 35 #[], none⟩, ⟨(some 1), .alloc 35, none⟩, ⟨none, .store 35 (.tmp 1) (.tmp 2), none⟩]
abbrev s52_2 : SC := .region [⟨(some 3), .call ⟨.value (.func 88), #[.const (.int .u64 0)], #[22]⟩, none⟩, ⟨(some 4), .build 28 #[(0, .const (.int .i64 2)), (1, .tmp 3)], none⟩, ⟨(some 5), .fieldAddr 35 (.tmp 1) 0, none⟩, ⟨(some 6), .indexAddr 29 (.tmp 5) (.const (.int .i64 1)), none⟩, ⟨none, .store 28 (.tmp 6) (.tmp 4), none⟩]
abbrev s52_3 : SC := .region [⟨(some 7), .call ⟨.value (.func 88), #[.const (.int .u64 512)], #[22]⟩, none⟩, ⟨(some 8), .build 28 #[(0, .const (.int .i64 3)), (1, .tmp 7)], none⟩, ⟨(some 9), .fieldAddr 35 (.tmp 1) 0, none⟩, ⟨(some 10), .indexAddr 29 (.tmp 9) (.const (.int .i64 10)), none⟩, ⟨none, .store 28 (.tmp 10) (.tmp 8), none⟩]
abbrev s52_4 : SC := .region [⟨(some 11), .load 35 (.tmp 1), none⟩, ⟨none, .store 35 (.tmp 0) (.tmp 11), none⟩]
abbrev s52_5 : SC := .seq s52_4 .ret
abbrev s52_6 : SC := .seq s52_3 s52_5
abbrev s52_7 : SC := .seq s52_2 s52_6
abbrev s52_8 : SC := .seq s52_1 s52_7
abbrev s52_9 : SC := .seq s52_0 s52_8
noncomputable def c52 : Code := match Try.f52.body with | some c => c | none => .skip
theorem b52 : Try.f52.body = some c52 := by kernel_rfl
theorem sc52 : toSC C52 c52 = some s52_9 := by kernel_rfl
set_option maxRecDepth 100000 in
theorem run52 {args : List AV} {H : Heap} {R : Out → Heap → Prop} (hl : args.length ≤ 12) (h : SWp Try.prog C52 s52_9 (finK [.cell 0 35] R) ⟨argSlots 0 args, [], H⟩) : ∃ out H', CallRuns Try.prog 52 args H out H' ∧ R out H' :=
  callRuns_of (C := C52) (by kernel_rfl) hDS hZS Try.func52 b52 Try.ntmps52 Try.call52 sc52 (by kernel_rfl) hl h

-- function 87: portcullis/state.Null$1
def C87 : Cfg := ⟨31, [3, 4], zget ztabS⟩
@[simp] theorem L87 : C87.L = [3, 4] := rfl
@[simp] theorem Z87 : C87.Z = zget ztabS := rfl
abbrev s87_0 : SC := .region [⟨(some 3), .box 28 (.tmp 0), none⟩, ⟨(some 4), .alloc 28, none⟩]
abbrev s87_1 : SC := .region [⟨(some 5), .fieldAddr 28 (.tmp 3) 3, none⟩, ⟨(some 6), .load 3 (.tmp 5), none⟩, ⟨(some 7), .load 3 (.tmp 1), none⟩, ⟨(some 8), .binOp .neq 3 (.tmp 6) (.tmp 7) 3, none⟩, ⟨(some 9), .move (.tmp 8), none⟩, ⟨(some 10), .fieldAddr 28 (.tmp 3) 0, (some (9, false))⟩, ⟨(some 11), .load 3 (.tmp 10), (some (9, false))⟩, ⟨(some 12), .binOp .neq 3 (.tmp 11) (.const (.int .i64 8)) 3, (some (9, false))⟩, ⟨(some 13), .move (.tmp 12), (some (9, false))⟩, ⟨(some 14), .fieldAddr 28 (.tmp 3) 0, (some (13, true))⟩, ⟨(some 15), .load 3 (.tmp 14), (some (13, true))⟩, ⟨(some 16), .binOp .neq 3 (.tmp 15) (.const (.int .i64 10)) 3, (some (13, true))⟩, ⟨(some 17), .pick (.tmp 13) (.tmp 16) (.const (.bool false)), (some (9, false))⟩, ⟨(some 18), .pick (.tmp 9) (.const (.bool true)) (.tmp 17), none⟩]
abbrev s87_2 : SC := .region [⟨(some 19), .load 28 (.tmp 3), none⟩, ⟨none, .store 28 (.tmp 4) (.tmp 19), none⟩]
abbrev s87_3 : SC := .seq s87_2 .ret
abbrev s87_4 : SC := .cond (.tmp 18) s87_3 .skip
abbrev s87_5 : SC := .seq s87_1 s87_4
abbrev s87_6 : SC := .region [⟨(some 22), .load 4 (.tmp 2), none⟩, ⟨(some 21), .assign (.tmp 22), none⟩]
abbrev s87_7 : SC := .region [⟨(some 23), .call ⟨.value (.func 88), #[.const (.int .u64 0)], #[22]⟩, none⟩, ⟨(some 24), .build 28 #[(0, .const (.int .i64 1)), (1, .tmp 23)], none⟩, ⟨none, .store 28 (.tmp 4) (.tmp 24), none⟩]
abbrev s87_8 : SC := .seq s87_7 .ret
abbrev s87_9 : SC := .region [⟨(some 26), .fieldAddr 28 (.tmp 3) 0, none⟩, ⟨(some 27), .load 3 (.tmp 26), none⟩, ⟨(some 28), .binOp .eql 3 (.tmp 27) (.const (.int .i64 8)) 3, none⟩, ⟨(some 25), .assign (.tmp 28), none⟩]
abbrev s87_10 : SC := .region [⟨(some 29), .fieldAddr 28 (.tmp 3) 0, none⟩, ⟨none, .store 3 (.tmp 29) (.const (.int .i64 7)), none⟩]
abbrev s87_11 : SC := .region [⟨(some 20), .fieldAddr 28 (.tmp 3) 0, none⟩, ⟨none, .store 3 (.tmp 20) (.const (.int .i64 9)), none⟩]
abbrev s87_12 : SC := .cond (.tmp 25) s87_10 s87_11
abbrev s87_13 : SC := .seq s87_9 s87_12
abbrev s87_14 : SC := .cond (.tmp 21) s87_8 s87_13
abbrev s87_15 : SC := .seq s87_6 s87_14
abbrev s87_16 : SC := .block 0 s87_15
abbrev s87_17 : SC := .region [⟨(some 30), .load 28 (.tmp 3), none⟩, ⟨none, .store 28 (.tmp 4) (.tmp 30), none⟩]
abbrev s87_18 : SC := .seq s87_17 .ret
abbrev s87_19 : SC := .seq s87_16 s87_18
abbrev s87_20 : SC := .seq s87_5 s87_19
abbrev s87_21 : SC := .seq s87_0 s87_20
noncomputable def c87 : Code := match Try.f87.body with | some c => c | none => .skip
theorem b87 : Try.f87.body = some c87 := by kernel_rfl
theorem sc87 : toSC C87 c87 = some s87_21 := by kernel_rfl
set_option maxRecDepth 100000 in
theorem run87 {args : List AV} {H : Heap} {R : Out → Heap → Prop} (hl : args.length ≤ 31) (h : SWp Try.prog C87 s87_21 (finK [.cell 4 28] R) ⟨argSlots 0 args, [], H⟩) : ∃ out H', CallRuns Try.prog 87 args H out H' ∧ R out H' :=
  callRuns_of (C := C87) (by kernel_rfl) hDS hZS Try.func87 b87 Try.ntmps87 Try.call87 sc87 (by kernel_rfl) hl h

-- function 55: slices.Clone[[]int,int]
def C55 : Cfg := ⟨8, [], zget ztabS⟩
@[simp] theorem L55 : C55.L = [] := rfl
@[simp] theorem Z55 : C55.Z = zget ztabS := rfl
abbrev s55_0 : SC := .region [⟨(some 2), .assign (.const (.slice none 0 0)), none⟩]
abbrev s55_1 : SC := .region [⟨(some 3), .move (.tmp 0), none⟩, ⟨(some 4), .binOp .eql 33 (.tmp 3) (.const (.slice none 0 0)) 33, none⟩]
abbrev s55_2 : SC := .region [⟨(some 2), .assign (.const (.slice none 0 0)), none⟩]
abbrev s55_3 : SC := .seq s55_2 .ret
abbrev s55_4 : SC := .cond (.tmp 4) s55_3 .skip
abbrev s55_5 : SC := .seq s55_1 s55_4
abbrev s55_6 : SC := .region [⟨(some 5), .buildSlice 33 0 #[], none⟩, ⟨(some 6), .move (.tmp 0), none⟩, ⟨(some 7), .call ⟨.builtin .append, #[.tmp 5, .tmp 6], #[33, 33]⟩, none⟩, ⟨(some 2), .assign (.tmp 7), none⟩]
abbrev s55_7 : SC := .seq s55_6 .ret
abbrev s55_8 : SC := .seq s55_5 s55_7
abbrev s55_9 : SC := .seq s55_0 s55_8
noncomputable def c55 : Code := match Try.f55.body with | some c => c | none => .skip
theorem b55 : Try.f55.body = some c55 := by kernel_rfl
theorem sc55 : toSC C55 c55 = some s55_9 := by kernel_rfl
set_option maxRecDepth 100000 in
theorem run55 {args : List AV} {H : Heap} {R : Out → Heap → Prop} (hl : args.length ≤ 8) (h : SWp Try.prog C55 s55_9 (finK [.tmp 2] R) ⟨argSlots 0 args, [], H⟩) : ∃ out H', CallRuns Try.prog 55 args H out H' ∧ R out H' :=
  callRuns_of (C := C55) (by kernel_rfl) hDS hZS Try.func55 b55 Try.ntmps55 Try.call55 sc55 (by kernel_rfl) hl h

-- function 16: portcullis/state.Copy
def C16 : Cfg := ⟨8, [1, 2], zget ztabS⟩
@[simp] theorem L16 : C16.L = [1, 2] := rfl
@[simp] theorem Z16 : C16.Z = zget ztabS := rfl
abbrev s16_0 : SC := .region [⟨(some 1), .box 35 (.tmp 0), none⟩, ⟨(some 2), .alloc 35, none⟩]
abbrev s16_1 : SC := .region [⟨(some 3), .fieldAddr 35 (.tmp 1) 3, none⟩, ⟨(some 4), .load 33 (.tmp 3), none⟩, ⟨(some 5), .call ⟨.value (.func 55), #[.tmp 4], #[33]⟩, none⟩, ⟨(some 6), .fieldAddr 35 (.tmp 1) 3, none⟩, ⟨none, .store 33 (.tmp 6) (.tmp 5), none⟩]
abbrev s16_2 : SC := .region [⟨(some 7), .load 35 (.tmp 1), none⟩, ⟨none, .store 35 (.tmp 2) (.tmp 7), none⟩]
abbrev s16_3 : SC := .seq s16_2 .ret
abbrev s16_4 : SC := .seq s16_1 s16_3
abbrev s16_5 : SC := .seq s16_0 s16_4
noncomputable def c16 : Code := match Try.f16.body with | some c => c | none => .skip
theorem b16 : Try.f16.body = some c16 := by kernel_rfl
theorem sc16 : toSC C16 c16 = some s16_5 := by kernel_rfl
set_option maxRecDepth 100000 in
theorem run16 {args : List AV} {H : Heap} {R : Out → Heap → Prop} (hl : args.length ≤ 8) (h : SWp Try.prog C16 s16_5 (finK [.cell 2 35] R) ⟨argSlots 0 args, [], H⟩) : ∃ out H', CallRuns Try.prog 16 args H out H' ∧ R out H' :=
  callRuns_of (C := C16) (by kernel_rfl) hDS hZS Try.func16 b16 Try.ntmps16 Try.call16 sc16 (by kernel_rfl) hl h

-- function 86: portcullis/state.each
def C86 : Cfg := ⟨58, [2, 4, 6, 8, 9], zget ztabS⟩
@[simp] theorem L86 : C86.L = [2, 4, 6, 8, 9] := rfl
@[simp] theorem Z86 : C86.Z = zget ztabS := rfl
abbrev s86_0 : SC := .region [⟨(some 2), .box 35 (.tmp 0), none⟩, ⟨(some 4), .alloc 35, none⟩]
abbrev s86_1 : SC := .region [⟨(some 10), .load 35 (.tmp 2), none⟩, ⟨(some 11), .call ⟨.value (.func 16), #[.tmp 10], #[35]⟩, none⟩, ⟨none, .store 35 (.tmp 2) (.tmp 11), none⟩]
abbrev s86_2 : SC := .region [⟨(some 12), .fieldAddr 35 (.tmp 2) 0, none⟩, ⟨(some 13), .load 29 (.tmp 12), none⟩, ⟨(some 14), .move (.const (.int .i64 0)), none⟩]
abbrev s86_3 : SC := .region [⟨(some 15), .binOp .lss 3 (.tmp 14) (.const (.int .i64 11)) 3, none⟩]
abbrev s86_4 : SC := .cond (.tmp 15) .skip (.exit 0)
abbrev s86_5 : SC := .region [⟨(some 16), .move (.tmp 14), none⟩, ⟨(some 17), .index 29 (.tmp 13) (.tmp 14), none⟩, ⟨(some 6), .alloc 28, none⟩, ⟨(some 5), .assign (.tmp 16), none⟩, ⟨none, .store 28 (.tmp 6) (.tmp 17), none⟩]
abbrev s86_6 : SC := .region [⟨(some 18), .move (.tmp 5), none⟩, ⟨(some 19), .move (.tmp 1), none⟩, ⟨(some 20), .load 28 (.tmp 6), none⟩, ⟨(some 21), .call ⟨.value (.tmp 19), #[.tmp 20], #[28]⟩, none⟩, ⟨(some 22), .fieldAddr 35 (.tmp 2) 0, none⟩, ⟨(some 23), .indexAddr 29 (.tmp 22) (.tmp 18), none⟩, ⟨none, .store 28 (.tmp 23) (.tmp 21), none⟩]
abbrev s86_7 : SC := .seq s86_5 s86_6
abbrev s86_8 : SC := .block 1 s86_7
abbrev s86_9 : SC := .region [⟨(some 24), .binOp .add 3 (.tmp 14) (.const (.int .i64 1)) 3, none⟩, ⟨(some 14), .move (.tmp 24), none⟩]
abbrev s86_10 : SC := .seq s86_8 s86_9
abbrev s86_11 : SC := .seq s86_4 s86_10
abbrev s86_12 : SC := .seq s86_3 s86_11
abbrev s86_13 : SC := .loop s86_12
abbrev s86_14 : SC := .block 0 s86_13
abbrev s86_15 : SC := .seq s86_2 s86_14
abbrev s86_16 : SC := .region [⟨(some 25), .fieldAddr 35 (.tmp 2) 1, none⟩, ⟨(some 26), .load 32 (.tmp 25), none⟩, ⟨(some 27), .move (.const (.int .i64 0)), none⟩]
abbrev s86_17 : SC := .region [⟨(some 28), .binOp .lss 3 (.tmp 27) (.const (.int .i64 64)) 3, none⟩]
abbrev s86_18 : SC := .cond (.tmp 28) .skip (.exit 2)
abbrev s86_19 : SC := .region [⟨(some 29), .move (.tmp 27), none⟩, ⟨(some 30), .index 32 (.tmp 26) (.tmp 27), none⟩, ⟨(some 8), .alloc 31, none⟩, ⟨(some 7), .assign (.tmp 29), none⟩, ⟨none, .store 31 (.tmp 8) (.tmp 30), none⟩]
abbrev s86_20 : SC := .region [⟨(some 31), .fieldAddr 31 (.tmp 8) 0, none⟩, ⟨(some 32), .load 3 (.tmp 31), none⟩, ⟨(some 33), .binOp .neq 3 (.tmp 32) (.const (.int .i64 2)) 3, none⟩]
abbrev s86_21 : SC := .cond (.tmp 33) (.exit 3) .skip
abbrev s86_22 : SC := .seq s86_20 s86_21
abbrev s86_23 : SC := .region [⟨(some 34), .move (.tmp 1), none⟩, ⟨(some 35), .fieldAddr 31 (.tmp 8) 2, none⟩, ⟨(some 36), .load 28 (.tmp 35), none⟩, ⟨(some 37), .call ⟨.value (.tmp 34), #[.tmp 36], #[28]⟩, none⟩, ⟨(some 9), .alloc 28, none⟩, ⟨none, .store 28 (.tmp 9) (.tmp 37), none⟩]
abbrev s86_24 : SC := .region [⟨(some 38), .load 28 (.tmp 9), none⟩, ⟨(some 39), .build 28 #[], none⟩, ⟨(some 40), .binOp .eql 28 (.tmp 38) (.tmp 39) 28, none⟩, ⟨(some 41), .move (.tmp 40), none⟩, ⟨(some 42), .fieldAddr 31 (.tmp 8) 2, (some (41, true))⟩, ⟨(some 43), .load 28 (.tmp 42), (some (41, true))⟩, ⟨(some 44), .load 28 (.tmp 9), (some (41, true))⟩, ⟨(some 45), .binOp .neq 28 (.tmp 43) (.tmp 44) 28, (some (41, true))⟩, ⟨(some 46), .pick (.tmp 41) (.tmp 45) (.const (.bool false)), none⟩]
abbrev s86_25 : SC := .region [⟨(some 47), .move (.tmp 7), none⟩, ⟨(some 48), .build 31 #[], none⟩, ⟨(some 49), .fieldAddr 35 (.tmp 2) 1, none⟩, ⟨(some 50), .indexAddr 32 (.tmp 49) (.tmp 47), none⟩, ⟨none, .store 31 (.tmp 50) (.tmp 48), none⟩]
abbrev s86_26 : SC := .region [⟨(some 51), .move (.tmp 7), none⟩, ⟨(some 52), .load 28 (.tmp 9), none⟩, ⟨(some 53), .fieldAddr 35 (.tmp 2) 1, none⟩, ⟨(some 54), .indexAddr 32 (.tmp 53) (.tmp 51), none⟩, ⟨(some 55), .fieldAddr 31 (.tmp 54) 2, none⟩, ⟨none, .store 28 (.tmp 55) (.tmp 52), none⟩]
abbrev s86_27 : SC := .cond (.tmp 46) s86_25 s86_26
abbrev s86_28 : SC := .seq s86_24 s86_27
abbrev s86_29 : SC := .seq s86_23 s86_28
abbrev s86_30 : SC := .seq s86_22 s86_29
abbrev s86_31 : SC := .seq s86_19 s86_30
abbrev s86_32 : SC := .block 3 s86_31
abbrev s86_33 : SC := .region [⟨(some 56), .binOp .add 3 (.tmp 27) (.const (.int .i64 1)) 3, none⟩, ⟨(some 27), .move (.tmp 56), none⟩]
abbrev s86_34 : SC := .seq s86_32 s86_33
abbrev s86_35 : SC := .seq s86_18 s86_34
abbrev s86_36 : SC := .seq s86_17 s86_35
abbrev s86_37 : SC := .loop s86_36
abbrev s86_38 : SC := .block 2 s86_37
abbrev s86_39 : SC := .seq s86_16 s86_38
abbrev s86_40 : SC := .region [⟨(some 57), .load 35 (.tmp 2), none⟩, ⟨none, .store 35 (.tmp 4) (.tmp 57), none⟩]
abbrev s86_41 : SC := .seq s86_40 .ret
abbrev s86_42 : SC := .seq s86_39 s86_41
abbrev s86_43 : SC := .seq s86_15 s86_42
abbrev s86_44 : SC := .seq s86_1 s86_43
abbrev s86_45 : SC := .seq s86_0 s86_44
noncomputable def c86 : Code := match Try.f86.body with | some c => c | none => .skip
theorem b86 : Try.f86.body = some c86 := by kernel_rfl
theorem sc86 : toSC C86 c86 = some s86_45 := by kernel_rfl
set_option maxRecDepth 100000 in
theorem run86 {args : List AV} {H : Heap} {R : Out → Heap → Prop} (hl : args.length ≤ 58) (h : SWp Try.prog C86 s86_45 (finK [.cell 4 35] R) ⟨argSlots 0 args, [], H⟩) : ∃ out H', CallRuns Try.prog 86 args H out H' ∧ R out H' :=
  callRuns_of (C := C86) (by kernel_rfl) hDS hZS Try.func86 b86 Try.ntmps86 Try.call86 sc86 (by kernel_rfl) hl h

-- function 120: portcullis/state.unheld$1
def C120 : Cfg := ⟨7, [], zget ztabS⟩
@[simp] theorem L120 : C120.L = [] := rfl
@[simp] theorem Z120 : C120.Z = zget ztabS := rfl
abbrev s120_0 : SC := .region [⟨(some 3), .assign (.const (.bool false)), none⟩]
abbrev s120_1 : SC := .region [⟨(some 4), .move (.tmp 0), none⟩, ⟨(some 5), .load 3 (.tmp 1), none⟩, ⟨(some 6), .binOp .eql 3 (.tmp 4) (.tmp 5) 3, none⟩, ⟨(some 3), .assign (.tmp 6), none⟩]
abbrev s120_2 : SC := .seq s120_1 .ret
abbrev s120_3 : SC := .seq s120_0 s120_2
noncomputable def c120 : Code := match Try.f120.body with | some c => c | none => .skip
theorem b120 : Try.f120.body = some c120 := by kernel_rfl
theorem sc120 : toSC C120 c120 = some s120_3 := by kernel_rfl
set_option maxRecDepth 100000 in
theorem run120 {args : List AV} {H : Heap} {R : Out → Heap → Prop} (hl : args.length ≤ 7) (h : SWp Try.prog C120 s120_3 (finK [.tmp 3] R) ⟨argSlots 0 args, [], H⟩) : ∃ out H', CallRuns Try.prog 120 args H out H' ∧ R out H' :=
  callRuns_of (C := C120) (by kernel_rfl) hDS hZS Try.func120 b120 Try.ntmps120 Try.call120 sc120 (by kernel_rfl) hl h

-- function 132: slices.IndexFunc[[]int,int]
def C132 : Cfg := ⟨19, [], zget ztabS⟩
@[simp] theorem L132 : C132.L = [] := rfl
@[simp] theorem Z132 : C132.Z = zget ztabS := rfl
abbrev s132_0 : SC := .region [⟨(some 4), .assign (.const (.int .i64 0)), none⟩]
abbrev s132_1 : SC := .region [⟨(some 6), .move (.tmp 0), none⟩, ⟨(some 7), .call ⟨.builtin .len, #[.tmp 6], #[33]⟩, none⟩, ⟨(some 8), .move (.const (.int .i64 0)), none⟩]
abbrev s132_2 : SC := .region [⟨(some 9), .binOp .lss 3 (.tmp 8) (.tmp 7) 3, none⟩]
abbrev s132_3 : SC := .cond (.tmp 9) .skip (.exit 0)
abbrev s132_4 : SC := .region [⟨(some 10), .move (.tmp 8), none⟩, ⟨(some 5), .assign (.tmp 10), none⟩]
abbrev s132_5 : SC := .region [⟨(some 11), .move (.tmp 1), none⟩, ⟨(some 12), .move (.tmp 0), none⟩, ⟨(some 13), .move (.tmp 5), none⟩, ⟨(some 14), .indexAddr 33 (.tmp 12) (.tmp 13), none⟩, ⟨(some 15), .load 3 (.tmp 14), none⟩, ⟨(some 16), .call ⟨.value (.tmp 11), #[.tmp 15], #[3]⟩, none⟩]
abbrev s132_6 : SC := .region [⟨(some 17), .move (.tmp 5), none⟩, ⟨(some 4), .assign (.tmp 17), none⟩]
abbrev s132_7 : SC := .seq s132_6 .ret
abbrev s132_8 : SC := .cond (.tmp 16) s132_7 .skip
abbrev s132_9 : SC := .seq s132_5 s132_8
abbrev s132_10 : SC := .seq s132_4 s132_9
abbrev s132_11 : SC := .block 1 s132_10
abbrev s132_12 : SC := .region [⟨(some 18), .binOp .add 3 (.tmp 8) (.const (.int .i64 1)) 3, none⟩, ⟨(some 8), .move (.tmp 18), none⟩]
abbrev s132_13 : SC := .seq s132_11 s132_12
abbrev s132_14 : SC := .seq s132_3 s132_13
abbrev s132_15 : SC := .seq s132_2 s132_14
abbrev s132_16 : SC := .loop s132_15
abbrev s132_17 : SC := .block 0 s132_16
abbrev s132_18 : SC := .seq s132_1 s132_17
abbrev s132_19 : SC := .region [⟨(some 4), .assign (.const (.int .i64 (-1))), none⟩]
abbrev s132_20 : SC := .seq s132_19 .ret
abbrev s132_21 : SC := .seq s132_18 s132_20
abbrev s132_22 : SC := .seq s132_0 s132_21
noncomputable def c132 : Code := match Try.f132.body with | some c => c | none => .skip
theorem b132 : Try.f132.body = some c132 := by kernel_rfl
theorem sc132 : toSC C132 c132 = some s132_22 := by kernel_rfl
set_option maxRecDepth 100000 in
theorem run132 {args : List AV} {H : Heap} {R : Out → Heap → Prop} (hl : args.length ≤ 19) (h : SWp Try.prog C132 s132_22 (finK [.tmp 4] R) ⟨argSlots 0 args, [], H⟩) : ∃ out H', CallRuns Try.prog 132 args H out H' ∧ R out H' :=
  callRuns_of (C := C132) (by kernel_rfl) hDS hZS Try.func132 b132 Try.ntmps132 Try.call132 sc132 (by kernel_rfl) hl h

-- function 119: slices.DeleteFunc[[]int,int]
def C119 : Cfg := ⟨42, [], zget ztabS⟩
@[simp] theorem L119 : C119.L = [] := rfl
@[simp] theorem Z119 : C119.Z = zget ztabS := rfl
abbrev s119_0 : SC := .region [⟨(some 4), .assign (.const (.slice none 0 0)), none⟩]
abbrev s119_1 : SC := .region [⟨(some 8), .move (.tmp 0), none⟩, ⟨(some 9), .move (.tmp 1), none⟩, ⟨(some 10), .call ⟨.value (.func 132), #[.tmp 8, .tmp 9], #[33, 113]⟩, none⟩, ⟨(some 5), .assign (.tmp 10), none⟩]
abbrev s119_2 : SC := .region [⟨(some 11), .move (.tmp 5), none⟩, ⟨(some 12), .binOp .eql 3 (.tmp 11) (.const (.int .i64 (-1))) 3, none⟩]
abbrev s119_3 : SC := .region [⟨(some 13), .move (.tmp 0), none⟩, ⟨(some 4), .assign (.tmp 13), none⟩]
abbrev s119_4 : SC := .seq s119_3 .ret
abbrev s119_5 : SC := .cond (.tmp 12) s119_4 .skip
abbrev s119_6 : SC := .seq s119_2 s119_5
abbrev s119_7 : SC := .region [⟨(some 14), .move (.tmp 5), none⟩, ⟨(some 15), .binOp .add 3 (.tmp 14) (.const (.int .i64 1)) 3, none⟩, ⟨(some 6), .assign (.tmp 15), none⟩]
abbrev s119_8 : SC := .region [⟨(some 16), .move (.tmp 6), none⟩, ⟨(some 17), .move (.tmp 0), none⟩, ⟨(some 18), .call ⟨.builtin .len, #[.tmp 17], #[33]⟩, none⟩, ⟨(some 19), .binOp .lss 3 (.tmp 16) (.tmp 18) 3, none⟩]
abbrev s119_9 : SC := .cond (.tmp 19) .skip (.exit 0)
abbrev s119_10 : SC := .seq s119_8 s119_9
abbrev s119_11 : SC := .region [⟨(some 22), .move (.tmp 0), none⟩, ⟨(some 23), .move (.tmp 6), none⟩, ⟨(some 24), .indexAddr 33 (.tmp 22) (.tmp 23), none⟩, ⟨(some 25), .load 3 (.tmp 24), none⟩, ⟨(some 7), .assign (.tmp 25), none⟩]
abbrev s119_12 : SC := .region [⟨(some 26), .move (.tmp 1), none⟩, ⟨(some 27), .move (.tmp 7), none⟩, ⟨(some 28), .call ⟨.value (.tmp 26), #[.tmp 27], #[3]⟩, none⟩, ⟨(some 29), .unOp .not 4 (.tmp 28), none⟩]
abbrev s119_13 : SC := .region [⟨(some 30), .move (.tmp 0), none⟩, ⟨(some 31), .move (.tmp 5), none⟩, ⟨(some 32), .move (.tmp 7), none⟩, ⟨(some 33), .indexAddr 33 (.tmp 30) (.tmp 31), none⟩, ⟨none, .store 3 (.tmp 33) (.tmp 32), none⟩]
abbrev s119_14 : SC := .region [⟨(some 34), .move (.tmp 5), none⟩, ⟨(some 35), .binOp .add 3 (.tmp 34) (.const (.int .i64 1)) 3, none⟩, ⟨(some 5), .assign (.tmp 35), none⟩]
abbrev s119_15 : SC := .seq s119_13 s119_14
abbrev s119_16 : SC := .cond (.tmp 29) s119_15 .skip
abbrev s119_17 : SC := .seq s119_12 s119_16
abbrev s119_18 : SC := .seq s119_11 s119_17
abbrev s119_19 : SC := .block 1 s119_18
abbrev s119_20 : SC := .region [⟨(some 20), .move (.tmp 6), none⟩, ⟨(some 21), .binOp .add 3 (.tmp 20) (.const (.int .i64 1)) 3, none⟩, ⟨(some 6), .assign (.tmp 21), none⟩]
abbrev s119_21 : SC := .seq s119_19 s119_20
abbrev s119_22 : SC := .seq s119_10 s119_21
abbrev s119_23 : SC := .loop s119_22
abbrev s119_24 : SC := .block 0 s119_23
abbrev s119_25 : SC := .seq s119_7 s119_24
abbrev s119_26 : SC := .region [⟨(some 36), .move (.tmp 0), none⟩, ⟨(some 37), .move (.tmp 5), none⟩, ⟨(some 38), .slice 33 (.tmp 36) (some (.tmp 37)) none none, none⟩, ⟨none, .call ⟨.builtin .clear, #[.tmp 38], #[33]⟩, none⟩]
abbrev s119_27 : SC := .region [⟨(some 39), .move (.tmp 0), none⟩, ⟨(some 40), .move (.tmp 5), none⟩, ⟨(some 41), .slice 33 (.tmp 39) none (some (.tmp 40)) none, none⟩, ⟨(some 4), .assign (.tmp 41), none⟩]
abbrev s119_28 : SC := .seq s119_27 .ret
abbrev s119_29 : SC := .seq s119_26 s119_28
abbrev s119_30 : SC := .seq s119_25 s119_29
abbrev s119_31 : SC := .seq s119_6 s119_30
abbrev s119_32 : SC := .seq s119_1 s119_31
abbrev s119_33 : SC := .seq s119_0 s119_32
noncomputable def c119 : Code := match Try.f119.body with | some c => c | none => .skip
theorem b119 : Try.f119.body = some c119 := by kernel_rfl
theorem sc119 : toSC C119 c119 = some s119_33 := by kernel_rfl
set_option maxRecDepth 100000 in
theorem run119 {args : List AV} {H : Heap} {R : Out → Heap → Prop} (hl : args.length ≤ 42) (h : SWp Try.prog C119 s119_33 (finK [.tmp 4] R) ⟨argSlots 0 args, [], H⟩) : ∃ out H', CallRuns Try.prog 119 args H out H' ∧ R out H' :=
  callRuns_of (C := C119) (by kernel_rfl) hDS hZS Try.func119 b119 Try.ntmps119 Try.call119 sc119 (by kernel_rfl) hl h

-- function 89: portcullis/state.unheld
def C89 : Cfg := ⟨11, [2, 4], zget ztabS⟩
@[simp] theorem L89 : C89.L = [2, 4] := rfl
@[simp] theorem Z89 : C89.Z = zget ztabS := rfl
abbrev s89_0 : SC := .region [⟨(some 2), .box 35 (.tmp 0), none⟩, ⟨(some 3), .box 3 (.tmp 1), none⟩, ⟨(some 4), .alloc 35, none⟩]
abbrev s89_1 : SC := .region [⟨(some 5), .fieldAddr 35 (.tmp 2) 3, none⟩, ⟨(some 6), .load 33 (.tmp 5), none⟩, ⟨(some 7), .makeFunc (.func 120) #[] #[.tmp 3], none⟩, ⟨(some 8), .call ⟨.value (.func 119), #[.tmp 6, .tmp 7], #[33, 113]⟩, none⟩, ⟨(some 9), .fieldAddr 35 (.tmp 2) 3, none⟩, ⟨none, .store 33 (.tmp 9) (.tmp 8), none⟩]
abbrev s89_2 : SC := .region [⟨(some 10), .load 35 (.tmp 2), none⟩, ⟨none, .store 35 (.tmp 4) (.tmp 10), none⟩]
abbrev s89_3 : SC := .seq s89_2 .ret
abbrev s89_4 : SC := .seq s89_1 s89_3
abbrev s89_5 : SC := .seq s89_0 s89_4
noncomputable def c89 : Code := match Try.f89.body with | some c => c | none => .skip
theorem b89 : Try.f89.body = some c89 := by kernel_rfl
theorem sc89 : toSC C89 c89 = some s89_5 := by kernel_rfl
set_option maxRecDepth 100000 in
theorem run89 {args : List AV} {H : Heap} {R : Out → Heap → Prop} (hl : args.length ≤ 11) (h : SWp Try.prog C89 s89_5 (finK [.cell 4 35] R) ⟨argSlots 0 args, [], H⟩) : ∃ out H', CallRuns Try.prog 89 args H out H' ∧ R out H' :=
  callRuns_of (C := C89) (by kernel_rfl) hDS hZS Try.func89 b89 Try.ntmps89 Try.call89 sc89 (by kernel_rfl) hl h

-- function 40: portcullis/state.Null
def C40 : Cfg := ⟨15, [3, 6], zget ztabS⟩
@[simp] theorem L40 : C40.L = [3, 6] := rfl
@[simp] theorem Z40 : C40.Z = zget ztabS := rfl
abbrev s40_0 : SC := .region [⟨(some 3), .box 35 (.tmp 0), none⟩, ⟨(some 4), .box 3 (.tmp 1), none⟩, ⟨(some 5), .box 4 (.tmp 2), none⟩, ⟨(some 6), .alloc 35, none⟩]
abbrev s40_1 : SC := .region [⟨(some 7), .load 35 (.tmp 3), none⟩, ⟨(some 8), .makeFunc (.func 87) #[] #[.tmp 4, .tmp 5], none⟩, ⟨(some 9), .call ⟨.value (.func 86), #[.tmp 7, .tmp 8], #[35, 109]⟩, none⟩, ⟨none, .store 35 (.tmp 3) (.tmp 9), none⟩]
abbrev s40_2 : SC := .region [⟨(some 10), .load 4 (.tmp 5), none⟩]
abbrev s40_3 : SC := .region [⟨(some 11), .load 35 (.tmp 3), none⟩, ⟨(some 12), .load 3 (.tmp 4), none⟩, ⟨(some 13), .call ⟨.value (.func 89), #[.tmp 11, .tmp 12], #[35, 3]⟩, none⟩, ⟨none, .store 35 (.tmp 6) (.tmp 13), none⟩]
abbrev s40_4 : SC := .seq s40_3 .ret
abbrev s40_5 : SC := .cond (.tmp 10) s40_4 .skip
abbrev s40_6 : SC := .seq s40_2 s40_5
abbrev s40_7 : SC := .region [⟨(some 14), .load 35 (.tmp 3), none⟩, ⟨none, .store 35 (.tmp 6) (.tmp 14), none⟩]
abbrev s40_8 : SC := .seq s40_7 .ret
abbrev s40_9 : SC := .seq s40_6 s40_8
abbrev s40_10 : SC := .seq s40_1 s40_9
abbrev s40_11 : SC := .seq s40_0 s40_10
noncomputable def c40 : Code := match Try.f40.body with | some c => c | none => .skip
theorem b40 : Try.f40.body = some c40 := by kernel_rfl
theorem sc40 : toSC C40 c40 = some s40_11 := by kernel_rfl
set_option maxRecDepth 100000 in
theorem run40 {args : List AV} {H : Heap} {R : Out → Heap → Prop} (hl : args.length ≤ 15) (h : SWp Try.prog C40 s40_11 (finK [.cell 6 35] R) ⟨argSlots 0 args, [], H⟩) : ∃ out H', CallRuns Try.prog 40 args H out H' ∧ R out H' :=
  callRuns_of (C := C40) (by kernel_rfl) hDS hZS Try.func40 b40 Try.ntmps40 Try.call40 sc40 (by kernel_rfl) hl h

-- function 133: portcullis/tnum.Has
def C133 : Cfg := ⟨15, [2], zget ztabS⟩
@[simp] theorem L133 : C133.L = [2] := rfl
@[simp] theorem Z133 : C133.Z = zget ztabS := rfl
abbrev s133_0 : SC := .region [⟨(some 2), .box 24 (.tmp 0), none⟩, ⟨(some 4), .assign (.const (.bool false)), none⟩]
abbrev s133_1 : SC := .region [⟨(some 5), .move (.tmp 1), none⟩, ⟨(some 6), .fieldAddr 24 (.tmp 2) 1, none⟩, ⟨(some 7), .load 22 (.tmp 6), none⟩, ⟨(some 8), .binOp .andNot 22 (.tmp 5) (.tmp 7) 22, none⟩, ⟨(some 9), .fieldAddr 24 (.tmp 2) 0, none⟩, ⟨(some 10), .load 22 (.tmp 9), none⟩, ⟨(some 11), .fieldAddr 24 (.tmp 2) 1, none⟩, ⟨(some 12), .load 22 (.tmp 11), none⟩, ⟨(some 13), .binOp .andNot 22 (.tmp 10) (.tmp 12) 22, none⟩, ⟨(some 14), .binOp .eql 22 (.tmp 8) (.tmp 13) 22, none⟩, ⟨(some 4), .assign (.tmp 14), none⟩]
abbrev s133_2 : SC := .seq s133_1 .ret
abbrev s133_3 : SC := .seq s133_0 s133_2
noncomputable def c133 : Code := match Try.f133.body with | some c => c | none => .skip
theorem b133 : Try.f133.body = some c133 := by kernel_rfl
theorem sc133 : toSC C133 c133 = some s133_3 := by kernel_rfl
set_option maxRecDepth 100000 in
theorem run133 {args : List AV} {H : Heap} {R : Out → Heap → Prop} (hl : args.length ≤ 15) (h : SWp Try.prog C133 s133_3 (finK [.tmp 4] R) ⟨argSlots 0 args, [], H⟩) : ∃ out H', CallRuns Try.prog 133 args H out H' ∧ R out H' :=
  callRuns_of (C := C133) (by kernel_rfl) hDS hZS Try.func133 b133 Try.ntmps133 Try.call133 sc133 (by kernel_rfl) hl h

-- function 122: portcullis/tnum.In
def C122 : Cfg := ⟨19, [2, 3], zget ztabS⟩
@[simp] theorem L122 : C122.L = [2, 3] := rfl
@[simp] theorem Z122 : C122.Z = zget ztabS := rfl
abbrev s122_0 : SC := .region [⟨(some 2), .box 24 (.tmp 0), none⟩, ⟨(some 3), .box 24 (.tmp 1), none⟩, ⟨(some 4), .assign (.const (.bool false)), none⟩]
abbrev s122_1 : SC := .region [⟨(some 5), .fieldAddr 24 (.tmp 2) 1, none⟩, ⟨(some 6), .load 22 (.tmp 5), none⟩, ⟨(some 7), .fieldAddr 24 (.tmp 3) 1, none⟩, ⟨(some 8), .load 22 (.tmp 7), none⟩, ⟨(some 9), .binOp .or 22 (.tmp 6) (.tmp 8) 22, none⟩, ⟨(some 10), .fieldAddr 24 (.tmp 2) 1, none⟩, ⟨(some 11), .load 22 (.tmp 10), none⟩, ⟨(some 12), .binOp .eql 22 (.tmp 9) (.tmp 11) 22, none⟩, ⟨(some 13), .move (.tmp 12), none⟩, ⟨(some 14), .load 24 (.tmp 2), (some (13, true))⟩, ⟨(some 15), .fieldAddr 24 (.tmp 3) 0, (some (13, true))⟩, ⟨(some 16), .load 22 (.tmp 15), (some (13, true))⟩, ⟨(some 17), .call ⟨.value (.func 133), #[.tmp 14, .tmp 16], #[24, 22]⟩, (some (13, true))⟩, ⟨(some 18), .pick (.tmp 13) (.tmp 17) (.const (.bool false)), none⟩, ⟨(some 4), .assign (.tmp 18), none⟩]
abbrev s122_2 : SC := .seq s122_1 .ret
abbrev s122_3 : SC := .seq s122_0 s122_2
noncomputable def c122 : Code := match Try.f122.body with | some c => c | none => .skip
theorem b122 : Try.f122.body = some c122 := by kernel_rfl
theorem sc122 : toSC C122 c122 = some s122_3 := by kernel_rfl
set_option maxRecDepth 100000 in
theorem run122 {args : List AV} {H : Heap} {R : Out → Heap → Prop} (hl : args.length ≤ 19) (h : SWp Try.prog C122 s122_3 (finK [.tmp 4] R) ⟨argSlots 0 args, [], H⟩) : ∃ out H', CallRuns Try.prog 122 args H out H' ∧ R out H' :=
  callRuns_of (C := C122) (by kernel_rfl) hDS hZS Try.func122 b122 Try.ntmps122 Try.call122 sc122 (by kernel_rfl) hl h

-- function 105: portcullis/scalar.In
def C105 : Cfg := ⟨24, [2, 3], zget ztabS⟩
@[simp] theorem L105 : C105.L = [2, 3] := rfl
@[simp] theorem Z105 : C105.Z = zget ztabS := rfl
abbrev s105_0 : SC := .region [⟨(some 2), .box 26 (.tmp 0), none⟩, ⟨(some 3), .box 26 (.tmp 1), none⟩, ⟨(some 4), .assign (.const (.bool false)), none⟩]
abbrev s105_1 : SC := .region [⟨(some 5), .fieldAddr 26 (.tmp 2) 1, none⟩, ⟨(some 6), .load 22 (.tmp 5), none⟩, ⟨(some 7), .fieldAddr 26 (.tmp 3) 1, none⟩, ⟨(some 8), .load 22 (.tmp 7), none⟩, ⟨(some 9), .binOp .leq 22 (.tmp 6) (.tmp 8) 22, none⟩, ⟨(some 10), .move (.tmp 9), none⟩, ⟨(some 11), .fieldAddr 26 (.tmp 2) 2, (some (10, true))⟩, ⟨(some 12), .load 22 (.tmp 11), (some (10, true))⟩, ⟨(some 13), .fieldAddr 26 (.tmp 3) 2, (some (10, true))⟩, ⟨(some 14), .load 22 (.tmp 13), (some (10, true))⟩, ⟨(some 15), .binOp .geq 22 (.tmp 12) (.tmp 14) 22, (some (10, true))⟩, ⟨(some 16), .pick (.tmp 10) (.tmp 15) (.const (.bool false)), none⟩, ⟨(some 17), .move (.tmp 16), none⟩, ⟨(some 18), .fieldAddr 26 (.tmp 2) 0, (some (17, true))⟩, ⟨(some 19), .load 24 (.tmp 18), (some (17, true))⟩, ⟨(some 20), .fieldAddr 26 (.tmp 3) 0, (some (17, true))⟩, ⟨(some 21), .load 24 (.tmp 20), (some (17, true))⟩, ⟨(some 22), .call ⟨.value (.func 122), #[.tmp 19, .tmp 21], #[24, 24]⟩, (some (17, true))⟩, ⟨(some 23), .pick (.tmp 17) (.tmp 22) (.const (.bool false)), none⟩, ⟨(some 4), .assign (.tmp 23), none⟩]
abbrev s105_2 : SC := .seq s105_1 .ret
abbrev s105_3 : SC := .seq s105_0 s105_2
noncomputable def c105 : Code := match Try.f105.body with | some c => c | none => .skip
theorem b105 : Try.f105.body = some c105 := by kernel_rfl
theorem sc105 : toSC C105 c105 = some s105_3 := by kernel_rfl
set_option maxRecDepth 100000 in
theorem run105 {args : List AV} {H : Heap} {R : Out → Heap → Prop} (hl : args.length ≤ 24) (h : SWp Try.prog C105 s105_3 (finK [.tmp 4] R) ⟨argSlots 0 args, [], H⟩) : ∃ out H', CallRuns Try.prog 105 args H out H' ∧ R out H' :=
  callRuns_of (C := C105) (by kernel_rfl) hDS hZS Try.func105 b105 Try.ntmps105 Try.call105 sc105 (by kernel_rfl) hl h

-- function 59: (*portcullis/state.pairs).match
def C59 : Cfg := ⟨65, [], zget ztabS⟩
@[simp] theorem L59 : C59.L = [] := rfl
@[simp] theorem Z59 : C59.Z = zget ztabS := rfl
abbrev s59_0 : SC := .region [⟨(some 6), .assign (.const (.bool false)), none⟩]
abbrev s59_1 : SC := .region [⟨(some 12), .move (.tmp 0), none⟩, ⟨(some 13), .nilCheck (.tmp 12), none⟩, ⟨(some 14), .fieldAddr 82 (.tmp 13) 0, none⟩, ⟨(some 15), .load 80 (.tmp 14), none⟩, ⟨(some 16), .move (.tmp 1), none⟩, ⟨(some 17), .lookup 80 (.tmp 15) (.tmp 16) true, none⟩, ⟨(some 11), .move (.tmp 17), none⟩, ⟨(some 18), .extract (.tmp 11) 0, none⟩, ⟨(some 19), .extract (.tmp 11) 1, none⟩, ⟨(some 7), .assign (.tmp 18), none⟩, ⟨(some 8), .assign (.tmp 19), none⟩]
abbrev s59_2 : SC := .region [⟨(some 21), .move (.tmp 0), none⟩, ⟨(some 22), .nilCheck (.tmp 21), none⟩, ⟨(some 23), .fieldAddr 82 (.tmp 22) 1, none⟩, ⟨(some 24), .load 80 (.tmp 23), none⟩, ⟨(some 25), .move (.tmp 2), none⟩, ⟨(some 26), .lookup 80 (.tmp 24) (.tmp 25) true, none⟩, ⟨(some 20), .move (.tmp 26), none⟩, ⟨(some 27), .extract (.tmp 20) 0, none⟩, ⟨(some 28), .extract (.tmp 20) 1, none⟩, ⟨(some 9), .assign (.tmp 27), none⟩, ⟨(some 10), .assign (.tmp 28), none⟩]
abbrev s59_3 : SC := .region [⟨(some 29), .move (.tmp 8), none⟩, ⟨(some 30), .unOp .not 4 (.tmp 29), none⟩, ⟨(some 31), .move (.tmp 30), none⟩, ⟨(some 32), .move (.tmp 10), (some (31, true))⟩, ⟨(some 33), .unOp .not 4 (.tmp 32), (some (31, true))⟩, ⟨(some 34), .pick (.tmp 31) (.tmp 33) (.const (.bool false)), none⟩]
abbrev s59_4 : SC := .draw [(⟨(some 35), .move (.tmp 0), none⟩, ⟨[], [], false, false⟩), (⟨(some 36), .nilCheck (.tmp 35), none⟩, ⟨[], [], false, false⟩), (⟨(some 37), .fieldAddr 82 (.tmp 36) 0, none⟩, ⟨[], [], false, false⟩), (⟨(some 38), .load 80 (.tmp 37), none⟩, ⟨[], [], true, false⟩), (⟨(some 39), .move (.tmp 1), none⟩, ⟨[], [], false, false⟩), (⟨(some 40), .move (.tmp 0), none⟩, ⟨[], [], false, false⟩), (⟨(some 41), .nilCheck (.tmp 40), none⟩, ⟨[], [], false, false⟩), (⟨(some 42), .fieldAddr 82 (.tmp 41) 1, none⟩, ⟨[], [], false, false⟩), (⟨(some 43), .load 80 (.tmp 42), none⟩, ⟨[], [], true, false⟩), (⟨(some 44), .move (.tmp 2), none⟩, ⟨[], [], false, false⟩), (⟨(some 45), .move (.tmp 2), none⟩, ⟨[], [], false, false⟩), (⟨(some 46), .move (.tmp 1), none⟩, ⟨[], [], false, false⟩), (⟨(some 47), .mapEntry 80 (.tmp 38) (.tmp 39), none⟩, ⟨[], [], true, true⟩), (⟨(some 48), .extract (.tmp 47) 1, none⟩, ⟨[], [], false, false⟩), (⟨none, .entryStore 80 (.tmp 38) (.tmp 48) (.tmp 45), none⟩, ⟨[], [], true, true⟩), (⟨(some 49), .mapEntry 80 (.tmp 43) (.tmp 44), none⟩, ⟨[], [], true, true⟩), (⟨(some 50), .extract (.tmp 49) 1, none⟩, ⟨[], [], false, false⟩), (⟨none, .entryStore 80 (.tmp 43) (.tmp 50) (.tmp 46), none⟩, ⟨[], [], true, true⟩)]
abbrev s59_5 : SC := .region [⟨(some 6), .assign (.const (.bool true)), none⟩]
abbrev s59_6 : SC := .seq s59_5 .ret
abbrev s59_7 : SC := .seq s59_4 s59_6
abbrev s59_8 : SC := .cond (.tmp 34) s59_7 .skip
abbrev s59_9 : SC := .seq s59_3 s59_8
abbrev s59_10 : SC := .region [⟨(some 51), .move (.tmp 8), none⟩, ⟨(some 52), .move (.tmp 51), none⟩, ⟨(some 53), .move (.tmp 10), (some (52, true))⟩, ⟨(some 54), .pick (.tmp 52) (.tmp 53) (.const (.bool false)), none⟩, ⟨(some 55), .move (.tmp 54), none⟩, ⟨(some 56), .move (.tmp 7), (some (55, true))⟩, ⟨(some 57), .move (.tmp 2), (some (55, true))⟩, ⟨(some 58), .binOp .eql 3 (.tmp 56) (.tmp 57) 3, (some (55, true))⟩, ⟨(some 59), .pick (.tmp 55) (.tmp 58) (.const (.bool false)), none⟩, ⟨(some 60), .move (.tmp 59), none⟩, ⟨(some 61), .move (.tmp 9), (some (60, true))⟩, ⟨(some 62), .move (.tmp 1), (some (60, true))⟩, ⟨(some 63), .binOp .eql 3 (.tmp 61) (.tmp 62) 3, (some (60, true))⟩, ⟨(some 64), .pick (.tmp 60) (.tmp 63) (.const (.bool false)), none⟩, ⟨(some 6), .assign (.tmp 64), none⟩]
abbrev s59_11 : SC := .seq s59_10 .ret
abbrev s59_12 : SC := .seq s59_9 s59_11
abbrev s59_13 : SC := .seq s59_2 s59_12
abbrev s59_14 : SC := .seq s59_1 s59_13
abbrev s59_15 : SC := .seq s59_0 s59_14
noncomputable def c59 : Code := match Try.f59.body with | some c => c | none => .skip
theorem b59 : Try.f59.body = some c59 := by kernel_rfl
theorem sc59 : toSC C59 c59 = some s59_15 := by kernel_rfl
set_option maxRecDepth 100000 in
theorem run59 {args : List AV} {H : Heap} {R : Out → Heap → Prop} (hl : args.length ≤ 65) (h : SWp Try.prog C59 s59_15 (finK [.tmp 6] R) ⟨argSlots 0 args, [], H⟩) : ∃ out H', CallRuns Try.prog 59 args H out H' ∧ R out H' :=
  callRuns_of (C := C59) (by kernel_rfl) hDS hZS Try.func59 b59 Try.ntmps59 Try.call59 sc59 (by kernel_rfl) hl h

-- function 56: (*portcullis/state.pairs).reg
def C56 : Cfg := ⟨61, [4, 5], zget ztabS⟩
@[simp] theorem L56 : C56.L = [4, 5] := rfl
@[simp] theorem Z56 : C56.Z = zget ztabS := rfl
abbrev s56_0 : SC := .region [⟨(some 4), .box 28 (.tmp 1), none⟩, ⟨(some 5), .box 28 (.tmp 2), none⟩, ⟨(some 6), .assign (.const (.bool false)), none⟩]
abbrev s56_1 : SC := .region [⟨(some 8), .fieldAddr 28 (.tmp 4) 0, none⟩, ⟨(some 9), .load 3 (.tmp 8), none⟩, ⟨(some 10), .binOp .eql 3 (.tmp 9) (.const (.int .i64 0)) 3, none⟩]
abbrev s56_2 : SC := .region [⟨(some 6), .assign (.const (.bool true)), none⟩]
abbrev s56_3 : SC := .seq s56_2 .ret
abbrev s56_4 : SC := .cond (.tmp 10) s56_3 .skip
abbrev s56_5 : SC := .seq s56_1 s56_4
abbrev s56_6 : SC := .region [⟨(some 11), .fieldAddr 28 (.tmp 4) 0, none⟩, ⟨(some 12), .load 3 (.tmp 11), none⟩, ⟨(some 13), .fieldAddr 28 (.tmp 5) 0, none⟩, ⟨(some 14), .load 3 (.tmp 13), none⟩, ⟨(some 15), .binOp .neq 3 (.tmp 12) (.tmp 14) 3, none⟩, ⟨(some 16), .move (.tmp 15), none⟩, ⟨(some 17), .fieldAddr 28 (.tmp 4) 2, (some (16, false))⟩, ⟨(some 18), .load 3 (.tmp 17), (some (16, false))⟩, ⟨(some 19), .fieldAddr 28 (.tmp 5) 2, (some (16, false))⟩, ⟨(some 20), .load 3 (.tmp 19), (some (16, false))⟩, ⟨(some 21), .binOp .neq 3 (.tmp 18) (.tmp 20) 3, (some (16, false))⟩, ⟨(some 22), .pick (.tmp 16) (.const (.bool true)) (.tmp 21), none⟩, ⟨(some 23), .move (.tmp 22), none⟩, ⟨(some 24), .fieldAddr 28 (.tmp 4) 4, (some (23, false))⟩, ⟨(some 25), .load 3 (.tmp 24), (some (23, false))⟩, ⟨(some 26), .fieldAddr 28 (.tmp 5) 4, (some (23, false))⟩, ⟨(some 27), .load 3 (.tmp 26), (some (23, false))⟩, ⟨(some 28), .binOp .neq 3 (.tmp 25) (.tmp 27) 3, (some (23, false))⟩, ⟨(some 29), .pick (.tmp 23) (.const (.bool true)) (.tmp 28), none⟩, ⟨(some 30), .move (.tmp 29), none⟩, ⟨(some 31), .fieldAddr 28 (.tmp 4) 1, (some (30, false))⟩, ⟨(some 32), .load 26 (.tmp 31), (some (30, false))⟩, ⟨(some 33), .fieldAddr 28 (.tmp 5) 1, (some (30, false))⟩, ⟨(some 34), .load 26 (.tmp 33), (some (30, false))⟩, ⟨(some 35), .call ⟨.value (.func 105), #[.tmp 32, .tmp 34], #[26, 26]⟩, (some (30, false))⟩, ⟨(some 36), .unOp .not 4 (.tmp 35), (some (30, false))⟩, ⟨(some 37), .pick (.tmp 30) (.const (.bool true)) (.tmp 36), none⟩]
abbrev s56_7 : SC := .region [⟨(some 6), .assign (.const (.bool false)), none⟩]
abbrev s56_8 : SC := .seq s56_7 .ret
abbrev s56_9 : SC := .cond (.tmp 37) s56_8 .skip
abbrev s56_10 : SC := .seq s56_6 s56_9
abbrev s56_11 : SC := .region [⟨(some 38), .fieldAddr 28 (.tmp 4) 0, none⟩, ⟨(some 39), .load 3 (.tmp 38), none⟩, ⟨(some 40), .binOp .eql 3 (.tmp 39) (.const (.int .i64 8)) 3, none⟩, ⟨(some 41), .move (.tmp 40), none⟩, ⟨(some 42), .fieldAddr 28 (.tmp 4) 0, (some (41, false))⟩, ⟨(some 43), .load 3 (.tmp 42), (some (41, false))⟩, ⟨(some 44), .binOp .eql 3 (.tmp 43) (.const (.int .i64 9)) 3, (some (41, false))⟩, ⟨(some 45), .pick (.tmp 41) (.const (.bool true)) (.tmp 44), none⟩, ⟨(some 46), .move (.tmp 45), none⟩, ⟨(some 47), .fieldAddr 28 (.tmp 4) 0, (some (46, false))⟩, ⟨(some 48), .load 3 (.tmp 47), (some (46, false))⟩, ⟨(some 49), .binOp .eql 3 (.tmp 48) (.const (.int .i64 10)) 3, (some (46, false))⟩, ⟨(some 50), .pick (.tmp 46) (.const (.bool true)) (.tmp 49), none⟩, ⟨(some 7), .assign (.tmp 50), none⟩]
abbrev s56_12 : SC := .region [⟨(some 51), .move (.tmp 7), none⟩, ⟨(some 52), .unOp .not 4 (.tmp 51), none⟩, ⟨(some 53), .move (.tmp 52), none⟩, ⟨(some 54), .move (.tmp 0), (some (53, false))⟩, ⟨(some 55), .fieldAddr 28 (.tmp 4) 3, (some (53, false))⟩, ⟨(some 56), .load 3 (.tmp 55), (some (53, false))⟩, ⟨(some 57), .fieldAddr 28 (.tmp 5) 3, (some (53, false))⟩, ⟨(some 58), .load 3 (.tmp 57), (some (53, false))⟩, ⟨(some 59), .call ⟨.value (.func 59), #[.tmp 54, .tmp 56, .tmp 58], #[79, 3, 3]⟩, (some (53, false))⟩, ⟨(some 60), .pick (.tmp 53) (.const (.bool true)) (.tmp 59), none⟩, ⟨(some 6), .assign (.tmp 60), none⟩]
abbrev s56_13 : SC := .seq s56_12 .ret
abbrev s56_14 : SC := .seq s56_11 s56_13
abbrev s56_15 : SC := .seq s56_10 s56_14
abbrev s56_16 : SC := .seq s56_5 s56_15
abbrev s56_17 : SC := .seq s56_0 s56_16
noncomputable def c56 : Code := match Try.f56.body with | some c => c | none => .skip
theorem b56 : Try.f56.body = some c56 := by kernel_rfl
theorem sc56 : toSC C56 c56 = some s56_17 := by kernel_rfl
set_option maxRecDepth 100000 in
theorem run56 {args : List AV} {H : Heap} {R : Out → Heap → Prop} (hl : args.length ≤ 61) (h : SWp Try.prog C56 s56_17 (finK [.tmp 6] R) ⟨argSlots 0 args, [], H⟩) : ∃ out H', CallRuns Try.prog 56 args H out H' ∧ R out H' :=
  callRuns_of (C := C56) (by kernel_rfl) hDS hZS Try.func56 b56 Try.ntmps56 Try.call56 sc56 (by kernel_rfl) hl h

-- function 57: (*portcullis/state.pairs).slot
def C57 : Cfg := ⟨60, [4, 5], zget ztabS⟩
@[simp] theorem L57 : C57.L = [4, 5] := rfl
@[simp] theorem Z57 : C57.Z = zget ztabS := rfl
abbrev s57_0 : SC := .region [⟨(some 4), .box 31 (.tmp 1), none⟩, ⟨(some 5), .box 31 (.tmp 2), none⟩, ⟨(some 6), .assign (.const (.bool false)), none⟩]
abbrev s57_1 : SC := .region [⟨(some 8), .load 31 (.tmp 4), none⟩, ⟨(some 9), .build 31 #[], none⟩, ⟨(some 10), .binOp .eql 31 (.tmp 8) (.tmp 9) 31, none⟩, ⟨(some 11), .move (.tmp 10), none⟩, ⟨(some 12), .fieldAddr 31 (.tmp 4) 0, (some (11, false))⟩, ⟨(some 13), .load 3 (.tmp 12), (some (11, false))⟩, ⟨(some 14), .binOp .eql 3 (.tmp 13) (.const (.int .i64 0)) 3, (some (11, false))⟩, ⟨(some 15), .pick (.tmp 11) (.const (.bool true)) (.tmp 14), none⟩]
abbrev s57_2 : SC := .region [⟨(some 6), .assign (.const (.bool true)), none⟩]
abbrev s57_3 : SC := .seq s57_2 .ret
abbrev s57_4 : SC := .cond (.tmp 15) s57_3 .skip
abbrev s57_5 : SC := .seq s57_1 s57_4
abbrev s57_6 : SC := .region [⟨(some 16), .fieldAddr 31 (.tmp 4) 0, none⟩, ⟨(some 17), .load 3 (.tmp 16), none⟩, ⟨(some 18), .binOp .eql 3 (.tmp 17) (.const (.int .i64 1)) 3, none⟩]
abbrev s57_7 : SC := .region [⟨(some 19), .fieldAddr 31 (.tmp 5) 0, none⟩, ⟨(some 20), .load 3 (.tmp 19), none⟩, ⟨(some 21), .binOp .eql 3 (.tmp 20) (.const (.int .i64 2)) 3, none⟩, ⟨(some 22), .move (.tmp 21), none⟩, ⟨(some 23), .fieldAddr 31 (.tmp 5) 2, (some (22, true))⟩, ⟨(some 24), .fieldAddr 28 (.tmp 23) 0, (some (22, true))⟩, ⟨(some 25), .load 3 (.tmp 24), (some (22, true))⟩, ⟨(some 26), .binOp .eql 3 (.tmp 25) (.const (.int .i64 1)) 3, (some (22, true))⟩, ⟨(some 27), .pick (.tmp 22) (.tmp 26) (.const (.bool false)), none⟩, ⟨(some 7), .assign (.tmp 27), none⟩]
abbrev s57_8 : SC := .region [⟨(some 28), .fieldAddr 31 (.tmp 4) 1, none⟩, ⟨(some 29), .load 3 (.tmp 28), none⟩, ⟨(some 30), .binOp .eql 3 (.tmp 29) (.const (.int .i64 0)) 3, none⟩, ⟨(some 31), .move (.tmp 30), none⟩, ⟨(some 32), .move (.tmp 7), (some (31, false))⟩, ⟨(some 33), .pick (.tmp 31) (.const (.bool true)) (.tmp 32), none⟩, ⟨(some 34), .move (.tmp 33), none⟩, ⟨(some 35), .fieldAddr 31 (.tmp 5) 0, (some (34, false))⟩, ⟨(some 36), .load 3 (.tmp 35), (some (34, false))⟩, ⟨(some 37), .binOp .eql 3 (.tmp 36) (.const (.int .i64 1)) 3, (some (34, false))⟩, ⟨(some 38), .move (.tmp 37), (some (34, false))⟩, ⟨(some 39), .fieldAddr 31 (.tmp 4) 1, (some (38, true))⟩, ⟨(some 40), .load 3 (.tmp 39), (some (38, true))⟩, ⟨(some 41), .fieldAddr 31 (.tmp 5) 1, (some (38, true))⟩, ⟨(some 42), .load 3 (.tmp 41), (some (38, true))⟩, ⟨(some 43), .binOp .or 3 (.tmp 40) (.tmp 42) 3, (some (38, true))⟩, ⟨(some 44), .fieldAddr 31 (.tmp 5) 1, (some (38, true))⟩, ⟨(some 45), .load 3 (.tmp 44), (some (38, true))⟩, ⟨(some 46), .binOp .eql 3 (.tmp 43) (.tmp 45) 3, (some (38, true))⟩, ⟨(some 47), .pick (.tmp 38) (.tmp 46) (.const (.bool false)), (some (34, false))⟩, ⟨(some 48), .pick (.tmp 34) (.const (.bool true)) (.tmp 47), none⟩, ⟨(some 6), .assign (.tmp 48), none⟩]
abbrev s57_9 : SC := .seq s57_8 .ret
abbrev s57_10 : SC := .seq s57_7 s57_9
abbrev s57_11 : SC := .cond (.tmp 18) s57_10 .skip
abbrev s57_12 : SC := .seq s57_6 s57_11
abbrev s57_13 : SC := .region [⟨(some 49), .fieldAddr 31 (.tmp 5) 0, none⟩, ⟨(some 50), .load 3 (.tmp 49), none⟩, ⟨(some 51), .binOp .eql 3 (.tmp 50) (.const (.int .i64 2)) 3, none⟩, ⟨(some 52), .move (.tmp 51), none⟩, ⟨(some 53), .move (.tmp 0), (some (52, true))⟩, ⟨(some 54), .fieldAddr 31 (.tmp 4) 2, (some (52, true))⟩, ⟨(some 55), .load 28 (.tmp 54), (some (52, true))⟩, ⟨(some 56), .fieldAddr 31 (.tmp 5) 2, (some (52, true))⟩, ⟨(some 57), .load 28 (.tmp 56), (some (52, true))⟩, ⟨(some 58), .call ⟨.value (.func 56), #[.tmp 53, .tmp 55, .tmp 57], #[79, 28, 28]⟩, (some (52, true))⟩, ⟨(some 59), .pick (.tmp 52) (.tmp 58) (.const (.bool false)), none⟩, ⟨(some 6), .assign (.tmp 59), none⟩]
abbrev s57_14 : SC := .seq s57_13 .ret
abbrev s57_15 : SC := .seq s57_12 s57_14
abbrev s57_16 : SC := .seq s57_5 s57_15
abbrev s57_17 : SC := .seq s57_0 s57_16
noncomputable def c57 : Code := match Try.f57.body with | some c => c | none => .skip
theorem b57 : Try.f57.body = some c57 := by kernel_rfl
theorem sc57 : toSC C57 c57 = some s57_17 := by kernel_rfl
set_option maxRecDepth 100000 in
theorem run57 {args : List AV} {H : Heap} {R : Out → Heap → Prop} (hl : args.length ≤ 60) (h : SWp Try.prog C57 s57_17 (finK [.tmp 6] R) ⟨argSlots 0 args, [], H⟩) : ∃ out H', CallRuns Try.prog 57 args H out H' ∧ R out H' :=
  callRuns_of (C := C57) (by kernel_rfl) hDS hZS Try.func57 b57 Try.ntmps57 Try.call57 sc57 (by kernel_rfl) hl h

-- function 58: slices.EqualFunc[[]int,[]int,int,int]
def C58 : Cfg := ⟨32, [], zget ztabS⟩
@[simp] theorem L58 : C58.L = [] := rfl
@[simp] theorem Z58 : C58.Z = zget ztabS := rfl
abbrev s58_0 : SC := .region [⟨(some 6), .assign (.const (.bool false)), none⟩]
abbrev s58_1 : SC := .region [⟨(some 10), .move (.tmp 0), none⟩, ⟨(some 11), .call ⟨.builtin .len, #[.tmp 10], #[33]⟩, none⟩, ⟨(some 12), .move (.tmp 1), none⟩, ⟨(some 13), .call ⟨.builtin .len, #[.tmp 12], #[33]⟩, none⟩, ⟨(some 14), .binOp .neq 3 (.tmp 11) (.tmp 13) 3, none⟩]
abbrev s58_2 : SC := .region [⟨(some 6), .assign (.const (.bool false)), none⟩]
abbrev s58_3 : SC := .seq s58_2 .ret
abbrev s58_4 : SC := .cond (.tmp 14) s58_3 .skip
abbrev s58_5 : SC := .seq s58_1 s58_4
abbrev s58_6 : SC := .region [⟨(some 15), .move (.tmp 0), none⟩, ⟨(some 16), .call ⟨.builtin .len, #[.tmp 15], #[33]⟩, none⟩, ⟨(some 17), .move (.const (.int .i64 0)), none⟩]
abbrev s58_7 : SC := .region [⟨(some 18), .binOp .lss 3 (.tmp 17) (.tmp 16) 3, none⟩]
abbrev s58_8 : SC := .cond (.tmp 18) .skip (.exit 0)
abbrev s58_9 : SC := .region [⟨(some 19), .move (.tmp 17), none⟩, ⟨(some 20), .indexAddr 33 (.tmp 15) (.tmp 17), none⟩, ⟨(some 21), .load 3 (.tmp 20), none⟩, ⟨(some 7), .assign (.tmp 19), none⟩, ⟨(some 8), .assign (.tmp 21), none⟩]
abbrev s58_10 : SC := .region [⟨(some 22), .move (.tmp 1), none⟩, ⟨(some 23), .move (.tmp 7), none⟩, ⟨(some 24), .indexAddr 33 (.tmp 22) (.tmp 23), none⟩, ⟨(some 25), .load 3 (.tmp 24), none⟩, ⟨(some 9), .assign (.tmp 25), none⟩]
abbrev s58_11 : SC := .region [⟨(some 26), .move (.tmp 2), none⟩, ⟨(some 27), .move (.tmp 8), none⟩, ⟨(some 28), .move (.tmp 9), none⟩, ⟨(some 29), .call ⟨.value (.tmp 26), #[.tmp 27, .tmp 28], #[3, 3]⟩, none⟩, ⟨(some 30), .unOp .not 4 (.tmp 29), none⟩]
abbrev s58_12 : SC := .region [⟨(some 6), .assign (.const (.bool false)), none⟩]
abbrev s58_13 : SC := .seq s58_12 .ret
abbrev s58_14 : SC := .cond (.tmp 30) s58_13 .skip
abbrev s58_15 : SC := .seq s58_11 s58_14
abbrev s58_16 : SC := .seq s58_10 s58_15
abbrev s58_17 : SC := .seq s58_9 s58_16
abbrev s58_18 : SC := .block 1 s58_17
abbrev s58_19 : SC := .region [⟨(some 31), .binOp .add 3 (.tmp 17) (.const (.int .i64 1)) 3, none⟩, ⟨(some 17), .move (.tmp 31), none⟩]
abbrev s58_20 : SC := .seq s58_18 s58_19
abbrev s58_21 : SC := .seq s58_8 s58_20
abbrev s58_22 : SC := .seq s58_7 s58_21
abbrev s58_23 : SC := .loop s58_22
abbrev s58_24 : SC := .block 0 s58_23
abbrev s58_25 : SC := .seq s58_6 s58_24
abbrev s58_26 : SC := .region [⟨(some 6), .assign (.const (.bool true)), none⟩]
abbrev s58_27 : SC := .seq s58_26 .ret
abbrev s58_28 : SC := .seq s58_25 s58_27
abbrev s58_29 : SC := .seq s58_5 s58_28
abbrev s58_30 : SC := .seq s58_0 s58_29
noncomputable def c58 : Code := match Try.f58.body with | some c => c | none => .skip
theorem b58 : Try.f58.body = some c58 := by kernel_rfl
theorem sc58 : toSC C58 c58 = some s58_30 := by kernel_rfl
set_option maxRecDepth 100000 in
theorem run58 {args : List AV} {H : Heap} {R : Out → Heap → Prop} (hl : args.length ≤ 32) (h : SWp Try.prog C58 s58_30 (finK [.tmp 6] R) ⟨argSlots 0 args, [], H⟩) : ∃ out H', CallRuns Try.prog 58 args H out H' ∧ R out H' :=
  callRuns_of (C := C58) (by kernel_rfl) hDS hZS Try.func58 b58 Try.ntmps58 Try.call58 sc58 (by kernel_rfl) hl h

-- function 17: portcullis/state.In
def C17 : Cfg := ⟨56, [2, 3], zget ztabS⟩
@[simp] theorem L17 : C17.L = [2, 3] := rfl
@[simp] theorem Z17 : C17.Z = zget ztabS := rfl
abbrev s17_0 : SC := .region [⟨(some 2), .box 35 (.tmp 0), none⟩, ⟨(some 3), .box 35 (.tmp 1), none⟩, ⟨(some 4), .assign (.const (.bool false)), none⟩]
abbrev s17_1 : SC := .region [⟨(some 8), .makeMap 80 none, none⟩, ⟨(some 9), .makeMap 80 none, none⟩, ⟨(some 10), .build 82 #[(0, .tmp 8), (1, .tmp 9)], none⟩, ⟨(some 11), .box 82 (.tmp 10), none⟩, ⟨(some 5), .assign (.tmp 11), none⟩]
abbrev s17_2 : SC := .region [⟨(some 12), .move (.const (.int .i64 0)), none⟩]
abbrev s17_3 : SC := .region [⟨(some 13), .binOp .lss 3 (.tmp 12) (.const (.int .i64 11)) 3, none⟩]
abbrev s17_4 : SC := .cond (.tmp 13) .skip (.exit 0)
abbrev s17_5 : SC := .region [⟨(some 14), .move (.tmp 12), none⟩, ⟨(some 6), .assign (.tmp 14), none⟩]
abbrev s17_6 : SC := .draw [(⟨(some 15), .move (.tmp 5), none⟩, ⟨[], [], false, false⟩), (⟨(some 16), .move (.tmp 6), none⟩, ⟨[], [], false, false⟩), (⟨(some 17), .fieldAddr 35 (.tmp 2) 0, none⟩, ⟨[], [], false, false⟩), (⟨(some 18), .indexAddr 29 (.tmp 17) (.tmp 16), none⟩, ⟨[], [], false, false⟩), (⟨(some 19), .load 28 (.tmp 18), none⟩, ⟨[2], [], false, false⟩), (⟨(some 20), .move (.tmp 6), none⟩, ⟨[], [], false, false⟩), (⟨(some 21), .fieldAddr 35 (.tmp 3) 0, none⟩, ⟨[], [], false, false⟩), (⟨(some 22), .indexAddr 29 (.tmp 21) (.tmp 20), none⟩, ⟨[], [], false, false⟩), (⟨(some 23), .load 28 (.tmp 22), none⟩, ⟨[3], [], false, false⟩), (⟨(some 24), .call ⟨.value (.func 56), #[.tmp 15, .tmp 19, .tmp 23], #[79, 28, 28]⟩, none⟩, ⟨[], [], true, true⟩), (⟨(some 25), .unOp .not 4 (.tmp 24), none⟩, ⟨[], [], false, false⟩)]
abbrev s17_7 : SC := .region [⟨(some 4), .assign (.const (.bool false)), none⟩]
abbrev s17_8 : SC := .seq s17_7 .ret
abbrev s17_9 : SC := .cond (.tmp 25) s17_8 .skip
abbrev s17_10 : SC := .seq s17_6 s17_9
abbrev s17_11 : SC := .seq s17_5 s17_10
abbrev s17_12 : SC := .block 1 s17_11
abbrev s17_13 : SC := .region [⟨(some 26), .binOp .add 3 (.tmp 12) (.const (.int .i64 1)) 3, none⟩, ⟨(some 12), .move (.tmp 26), none⟩]
abbrev s17_14 : SC := .seq s17_12 s17_13
abbrev s17_15 : SC := .seq s17_4 s17_14
abbrev s17_16 : SC := .seq s17_3 s17_15
abbrev s17_17 : SC := .loop s17_16
abbrev s17_18 : SC := .block 0 s17_17
abbrev s17_19 : SC := .seq s17_2 s17_18
abbrev s17_20 : SC := .region [⟨(some 27), .move (.const (.int .i64 0)), none⟩]
abbrev s17_21 : SC := .region [⟨(some 28), .binOp .lss 3 (.tmp 27) (.const (.int .i64 64)) 3, none⟩]
abbrev s17_22 : SC := .cond (.tmp 28) .skip (.exit 2)
abbrev s17_23 : SC := .region [⟨(some 29), .move (.tmp 27), none⟩, ⟨(some 7), .assign (.tmp 29), none⟩]
abbrev s17_24 : SC := .draw [(⟨(some 30), .move (.tmp 5), none⟩, ⟨[], [], false, false⟩), (⟨(some 31), .move (.tmp 7), none⟩, ⟨[], [], false, false⟩), (⟨(some 32), .fieldAddr 35 (.tmp 2) 1, none⟩, ⟨[], [], false, false⟩), (⟨(some 33), .indexAddr 32 (.tmp 32) (.tmp 31), none⟩, ⟨[], [], false, false⟩), (⟨(some 34), .load 31 (.tmp 33), none⟩, ⟨[2], [], false, false⟩), (⟨(some 35), .move (.tmp 7), none⟩, ⟨[], [], false, false⟩), (⟨(some 36), .fieldAddr 35 (.tmp 3) 1, none⟩, ⟨[], [], false, false⟩), (⟨(some 37), .indexAddr 32 (.tmp 36) (.tmp 35), none⟩, ⟨[], [], false, false⟩), (⟨(some 38), .load 31 (.tmp 37), none⟩, ⟨[3], [], false, false⟩), (⟨(some 39), .call ⟨.value (.func 57), #[.tmp 30, .tmp 34, .tmp 38], #[79, 31, 31]⟩, none⟩, ⟨[], [], true, true⟩), (⟨(some 40), .unOp .not 4 (.tmp 39), none⟩, ⟨[], [], false, false⟩)]
abbrev s17_25 : SC := .region [⟨(some 4), .assign (.const (.bool false)), none⟩]
abbrev s17_26 : SC := .seq s17_25 .ret
abbrev s17_27 : SC := .cond (.tmp 40) s17_26 .skip
abbrev s17_28 : SC := .seq s17_24 s17_27
abbrev s17_29 : SC := .seq s17_23 s17_28
abbrev s17_30 : SC := .block 3 s17_29
abbrev s17_31 : SC := .region [⟨(some 41), .binOp .add 3 (.tmp 27) (.const (.int .i64 1)) 3, none⟩, ⟨(some 27), .move (.tmp 41), none⟩]
abbrev s17_32 : SC := .seq s17_30 s17_31
abbrev s17_33 : SC := .seq s17_22 s17_32
abbrev s17_34 : SC := .seq s17_21 s17_33
abbrev s17_35 : SC := .loop s17_34
abbrev s17_36 : SC := .block 2 s17_35
abbrev s17_37 : SC := .seq s17_20 s17_36
abbrev s17_38 : SC := .region [⟨(some 42), .fieldAddr 35 (.tmp 2) 3, none⟩, ⟨(some 43), .load 33 (.tmp 42), none⟩, ⟨(some 44), .fieldAddr 35 (.tmp 3) 3, none⟩, ⟨(some 45), .load 33 (.tmp 44), none⟩, ⟨(some 46), .move (.tmp 5), none⟩, ⟨(some 47), .makeFunc (.func 59) #[.tmp 46] #[], none⟩, ⟨(some 48), .call ⟨.value (.func 58), #[.tmp 43, .tmp 45, .tmp 47], #[33, 33, 86]⟩, none⟩, ⟨(some 49), .move (.tmp 48), none⟩, ⟨(some 50), .fieldAddr 35 (.tmp 2) 2, (some (49, true))⟩, ⟨(some 51), .load 3 (.tmp 50), (some (49, true))⟩, ⟨(some 52), .fieldAddr 35 (.tmp 3) 2, (some (49, true))⟩, ⟨(some 53), .load 3 (.tmp 52), (some (49, true))⟩, ⟨(some 54), .binOp .leq 3 (.tmp 51) (.tmp 53) 3, (some (49, true))⟩, ⟨(some 55), .pick (.tmp 49) (.tmp 54) (.const (.bool false)), none⟩, ⟨(some 4), .assign (.tmp 55), none⟩]
abbrev s17_39 : SC := .seq s17_38 .ret
abbrev s17_40 : SC := .seq s17_37 s17_39
abbrev s17_41 : SC := .seq s17_19 s17_40
abbrev s17_42 : SC := .seq s17_1 s17_41
abbrev s17_43 : SC := .seq s17_0 s17_42
noncomputable def c17 : Code := match Try.f17.body with | some c => c | none => .skip
theorem b17 : Try.f17.body = some c17 := by kernel_rfl
theorem sc17 : toSC C17 c17 = some s17_43 := by kernel_rfl
set_option maxRecDepth 100000 in
theorem run17 {args : List AV} {H : Heap} {R : Out → Heap → Prop} (hl : args.length ≤ 56) (h : SWp Try.prog C17 s17_43 (finK [.tmp 4] R) ⟨argSlots 0 args, [], H⟩) : ∃ out H', CallRuns Try.prog 17 args H out H' ∧ R out H' :=
  callRuns_of (C := C17) (by kernel_rfl) hDS hZS Try.func17 b17 Try.ntmps17 Try.call17 sc17 (by kernel_rfl) hl h

-- function 63: slices.Equal[[]int,int]
def C63 : Cfg := ⟨26, [], zget ztabS⟩
@[simp] theorem L63 : C63.L = [] := rfl
@[simp] theorem Z63 : C63.Z = zget ztabS := rfl
abbrev s63_0 : SC := .region [⟨(some 4), .assign (.const (.bool false)), none⟩]
abbrev s63_1 : SC := .region [⟨(some 6), .move (.tmp 0), none⟩, ⟨(some 7), .call ⟨.builtin .len, #[.tmp 6], #[33]⟩, none⟩, ⟨(some 8), .move (.tmp 1), none⟩, ⟨(some 9), .call ⟨.builtin .len, #[.tmp 8], #[33]⟩, none⟩, ⟨(some 10), .binOp .neq 3 (.tmp 7) (.tmp 9) 3, none⟩]
abbrev s63_2 : SC := .region [⟨(some 4), .assign (.const (.bool false)), none⟩]
abbrev s63_3 : SC := .seq s63_2 .ret
abbrev s63_4 : SC := .cond (.tmp 10) s63_3 .skip
abbrev s63_5 : SC := .seq s63_1 s63_4
abbrev s63_6 : SC := .region [⟨(some 11), .move (.tmp 0), none⟩, ⟨(some 12), .call ⟨.builtin .len, #[.tmp 11], #[33]⟩, none⟩, ⟨(some 13), .move (.const (.int .i64 0)), none⟩]
abbrev s63_7 : SC := .region [⟨(some 14), .binOp .lss 3 (.tmp 13) (.tmp 12) 3, none⟩]
abbrev s63_8 : SC := .cond (.tmp 14) .skip (.exit 0)
abbrev s63_9 : SC := .region [⟨(some 15), .move (.tmp 13), none⟩, ⟨(some 5), .assign (.tmp 15), none⟩]
abbrev s63_10 : SC := .draw [(⟨(some 16), .move (.tmp 0), none⟩, ⟨[], [], false, false⟩), (⟨(some 17), .move (.tmp 5), none⟩, ⟨[], [], false, false⟩), (⟨(some 18), .indexAddr 33 (.tmp 16) (.tmp 17), none⟩, ⟨[], [], false, false⟩), (⟨(some 19), .load 3 (.tmp 18), none⟩, ⟨[], [], true, false⟩), (⟨(some 20), .move (.tmp 1), none⟩, ⟨[], [], false, false⟩), (⟨(some 21), .move (.tmp 5), none⟩, ⟨[], [], false, false⟩), (⟨(some 22), .indexAddr 33 (.tmp 20) (.tmp 21), none⟩, ⟨[], [], false, false⟩), (⟨(some 23), .load 3 (.tmp 22), none⟩, ⟨[], [], true, false⟩), (⟨(some 24), .binOp .neq 3 (.tmp 19) (.tmp 23) 3, none⟩, ⟨[], [], false, false⟩)]
abbrev s63_11 : SC := .region [⟨(some 4), .assign (.const (.bool false)), none⟩]
abbrev s63_12 : SC := .seq s63_11 .ret
abbrev s63_13 : SC := .cond (.tmp 24) s63_12 .skip
abbrev s63_14 : SC := .seq s63_10 s63_13
abbrev s63_15 : SC := .seq s63_9 s63_14
abbrev s63_16 : SC := .block 1 s63_15
abbrev s63_17 : SC := .region [⟨(some 25), .binOp .add 3 (.tmp 13) (.const (.int .i64 1)) 3, none⟩, ⟨(some 13), .move (.tmp 25), none⟩]
abbrev s63_18 : SC := .seq s63_16 s63_17
abbrev s63_19 : SC := .seq s63_8 s63_18
abbrev s63_20 : SC := .seq s63_7 s63_19
abbrev s63_21 : SC := .loop s63_20
abbrev s63_22 : SC := .block 0 s63_21
abbrev s63_23 : SC := .seq s63_6 s63_22
abbrev s63_24 : SC := .region [⟨(some 4), .assign (.const (.bool true)), none⟩]
abbrev s63_25 : SC := .seq s63_24 .ret
abbrev s63_26 : SC := .seq s63_23 s63_25
abbrev s63_27 : SC := .seq s63_5 s63_26
abbrev s63_28 : SC := .seq s63_0 s63_27
noncomputable def c63 : Code := match Try.f63.body with | some c => c | none => .skip
theorem b63 : Try.f63.body = some c63 := by kernel_rfl
theorem sc63 : toSC C63 c63 = some s63_28 := by kernel_rfl
set_option maxRecDepth 100000 in
theorem run63 {args : List AV} {H : Heap} {R : Out → Heap → Prop} (hl : args.length ≤ 26) (h : SWp Try.prog C63 s63_28 (finK [.tmp 4] R) ⟨argSlots 0 args, [], H⟩) : ∃ out H', CallRuns Try.prog 63 args H out H' ∧ R out H' :=
  callRuns_of (C := C63) (by kernel_rfl) hDS hZS Try.func63 b63 Try.ntmps63 Try.call63 sc63 (by kernel_rfl) hl h

-- function 19: portcullis/state.Same
def C19 : Cfg := ⟨38, [2, 3], zget ztabS⟩
@[simp] theorem L19 : C19.L = [2, 3] := rfl
@[simp] theorem Z19 : C19.Z = zget ztabS := rfl
abbrev s19_0 : SC := .region [⟨(some 2), .box 35 (.tmp 0), none⟩, ⟨(some 3), .box 35 (.tmp 1), none⟩, ⟨(some 4), .assign (.const (.bool false)), none⟩]
abbrev s19_1 : SC := .region [⟨(some 5), .fieldAddr 35 (.tmp 2) 0, none⟩, ⟨(some 6), .load 29 (.tmp 5), none⟩, ⟨(some 7), .fieldAddr 35 (.tmp 3) 0, none⟩, ⟨(some 8), .load 29 (.tmp 7), none⟩, ⟨(some 9), .binOp .eql 29 (.tmp 6) (.tmp 8) 29, none⟩, ⟨(some 10), .move (.tmp 9), none⟩, ⟨(some 11), .fieldAddr 35 (.tmp 2) 1, (some (10, true))⟩, ⟨(some 12), .load 32 (.tmp 11), (some (10, true))⟩, ⟨(some 13), .fieldAddr 35 (.tmp 3) 1, (some (10, true))⟩, ⟨(some 14), .load 32 (.tmp 13), (some (10, true))⟩, ⟨(some 15), .binOp .eql 32 (.tmp 12) (.tmp 14) 32, (some (10, true))⟩, ⟨(some 16), .pick (.tmp 10) (.tmp 15) (.const (.bool false)), none⟩, ⟨(some 17), .move (.tmp 16), none⟩, ⟨(some 18), .fieldAddr 35 (.tmp 2) 2, (some (17, true))⟩, ⟨(some 19), .load 3 (.tmp 18), (some (17, true))⟩, ⟨(some 20), .fieldAddr 35 (.tmp 3) 2, (some (17, true))⟩, ⟨(some 21), .load 3 (.tmp 20), (some (17, true))⟩, ⟨(some 22), .binOp .eql 3 (.tmp 19) (.tmp 21) 3, (some (17, true))⟩, ⟨(some 23), .pick (.tmp 17) (.tmp 22) (.const (.bool false)), none⟩, ⟨(some 24), .move (.tmp 23), none⟩, ⟨(some 25), .fieldAddr 35 (.tmp 2) 4, (some (24, true))⟩, ⟨(some 26), .load 3 (.tmp 25), (some (24, true))⟩, ⟨(some 27), .fieldAddr 35 (.tmp 3) 4, (some (24, true))⟩, ⟨(some 28), .load 3 (.tmp 27), (some (24, true))⟩, ⟨(some 29), .binOp .eql 3 (.tmp 26) (.tmp 28) 3, (some (24, true))⟩, ⟨(some 30), .pick (.tmp 24) (.tmp 29) (.const (.bool false)), none⟩, ⟨(some 31), .move (.tmp 30), none⟩, ⟨(some 32), .fieldAddr 35 (.tmp 2) 3, (some (31, true))⟩, ⟨(some 33), .load 33 (.tmp 32), (some (31, true))⟩, ⟨(some 34), .fieldAddr 35 (.tmp 3) 3, (some (31, true))⟩, ⟨(some 35), .load 33 (.tmp 34), (some (31, true))⟩, ⟨(some 36), .call ⟨.value (.func 63), #[.tmp 33, .tmp 35], #[33, 33]⟩, (some (31, true))⟩, ⟨(some 37), .pick (.tmp 31) (.tmp 36) (.const (.bool false)), none⟩, ⟨(some 4), .assign (.tmp 37), none⟩]
abbrev s19_2 : SC := .seq s19_1 .ret
abbrev s19_3 : SC := .seq s19_0 s19_2
noncomputable def c19 : Code := match Try.f19.body with | some c => c | none => .skip
theorem b19 : Try.f19.body = some c19 := by kernel_rfl
theorem sc19 : toSC C19 c19 = some s19_3 := by kernel_rfl
set_option maxRecDepth 100000 in
theorem run19 {args : List AV} {H : Heap} {R : Out → Heap → Prop} (hl : args.length ≤ 38) (h : SWp Try.prog C19 s19_3 (finK [.tmp 4] R) ⟨argSlots 0 args, [], H⟩) : ∃ out H', CallRuns Try.prog 19 args H out H' ∧ R out H' :=
  callRuns_of (C := C19) (by kernel_rfl) hDS hZS Try.func19 b19 Try.ntmps19 Try.call19 sc19 (by kernel_rfl) hl h

-- function 15: portcullis/portcullislaw18.awake
def C15 : Cfg := ⟨62, [1, 2, 3], zget ztabS⟩
@[simp] theorem L15 : C15.L = [1, 2, 3] := rfl
@[simp] theorem Z15 : C15.Z = zget ztabS := rfl
abbrev s15_0 : SC := .region [⟨(some 0), .assign (.const (.bool false)), none⟩]
abbrev s15_1 : SC := .region [⟨(some 4), .call ⟨.value (.func 52), #[], #[]⟩, none⟩, ⟨(some 5), .call ⟨.value (.func 52), #[], #[]⟩, none⟩, ⟨(some 1), .alloc 35, none⟩, ⟨(some 2), .alloc 35, none⟩, ⟨none, .store 35 (.tmp 1) (.tmp 4), none⟩, ⟨none, .store 35 (.tmp 2) (.tmp 5), none⟩]
abbrev s15_2 : SC := .region [⟨(some 6), .call ⟨.value (.func 20), #[], #[]⟩, none⟩, ⟨(some 7), .call ⟨.value (.func 53), #[.tmp 6, .const (.int .i64 8)], #[26, 3]⟩, none⟩, ⟨(some 8), .build 28 #[(0, .const (.int .i64 1)), (1, .tmp 7)], none⟩, ⟨(some 9), .fieldAddr 35 (.tmp 1) 0, none⟩, ⟨(some 10), .indexAddr 29 (.tmp 9) (.const (.int .i64 2)), none⟩, ⟨none, .store 28 (.tmp 10) (.tmp 8), none⟩]
abbrev s15_3 : SC := .region [⟨(some 11), .call ⟨.value (.func 54), #[.const (.int .u64 7)], #[22]⟩, none⟩, ⟨(some 12), .build 28 #[(0, .const (.int .i64 1)), (1, .tmp 11)], none⟩, ⟨(some 13), .fieldAddr 35 (.tmp 2) 0, none⟩, ⟨(some 14), .indexAddr 29 (.tmp 13) (.const (.int .i64 2)), none⟩, ⟨none, .store 28 (.tmp 14) (.tmp 12), none⟩]
abbrev s15_4 : SC := .region [⟨(some 15), .build 28 #[(0, .const (.int .i64 8)), (3, .const (.int .i64 3))], none⟩, ⟨(some 16), .fieldAddr 35 (.tmp 2) 0, none⟩, ⟨(some 17), .indexAddr 29 (.tmp 16) (.const (.int .i64 0)), none⟩, ⟨none, .store 28 (.tmp 17) (.tmp 15), none⟩]
abbrev s15_5 : SC := .region [⟨(some 18), .load 35 (.tmp 2), none⟩, ⟨(some 19), .call ⟨.value (.func 40), #[.tmp 18, .const (.int .i64 3), .const (.bool false)], #[35, 3, 4]⟩, none⟩, ⟨(some 3), .alloc 35, none⟩, ⟨none, .store 35 (.tmp 3) (.tmp 19), none⟩]
abbrev s15_6 : SC := .draw [(⟨(some 20), .load 35 (.tmp 1), none⟩, ⟨[1], [], false, false⟩), (⟨(some 21), .load 35 (.tmp 2), none⟩, ⟨[2], [], false, false⟩), (⟨(some 22), .call ⟨.value (.func 17), #[.tmp 20, .tmp 21], #[35, 35]⟩, none⟩, ⟨[], [], true, true⟩), (⟨(some 23), .move (.tmp 22), none⟩, ⟨[], [], false, false⟩), (⟨(some 24), .load 35 (.tmp 2), (some (23, true))⟩, ⟨[2], [], false, false⟩), (⟨(some 25), .load 35 (.tmp 1), (some (23, true))⟩, ⟨[1], [], false, false⟩), (⟨(some 26), .call ⟨.value (.func 17), #[.tmp 24, .tmp 25], #[35, 35]⟩, (some (23, true))⟩, ⟨[], [], true, true⟩), (⟨(some 27), .unOp .not 4 (.tmp 26), (some (23, true))⟩, ⟨[], [], false, false⟩), (⟨(some 28), .pick (.tmp 23) (.tmp 27) (.const (.bool false)), none⟩, ⟨[], [], false, false⟩), (⟨(some 29), .move (.tmp 28), none⟩, ⟨[], [], false, false⟩), (⟨(some 30), .load 35 (.tmp 1), (some (29, true))⟩, ⟨[1], [], false, false⟩), (⟨(some 31), .load 35 (.tmp 1), (some (29, true))⟩, ⟨[1], [], false, false⟩), (⟨(some 32), .call ⟨.value (.func 19), #[.tmp 30, .tmp 31], #[35, 35]⟩, (some (29, true))⟩, ⟨[], [], true, true⟩), (⟨(some 33), .pick (.tmp 29) (.tmp 32) (.const (.bool false)), none⟩, ⟨[], [], false, false⟩), (⟨(some 34), .move (.tmp 33), none⟩, ⟨[], [], false, false⟩), (⟨(some 35), .load 35 (.tmp 1), (some (34, true))⟩, ⟨[1], [], false, false⟩), (⟨(some 36), .load 35 (.tmp 2), (some (34, true))⟩, ⟨[2], [], false, false⟩), (⟨(some 37), .call ⟨.value (.func 19), #[.tmp 35, .tmp 36], #[35, 35]⟩, (some (34, true))⟩, ⟨[], [], true, true⟩), (⟨(some 38), .unOp .not 4 (.tmp 37), (some (34, true))⟩, ⟨[], [], false, false⟩), (⟨(some 39), .pick (.tmp 34) (.tmp 38) (.const (.bool false)), none⟩, ⟨[], [], false, false⟩), (⟨(some 40), .move (.tmp 39), none⟩, ⟨[], [], false, false⟩), (⟨(some 41), .fieldAddr 35 (.tmp 3) 0, (some (40, true))⟩, ⟨[], [], false, false⟩), (⟨(some 42), .indexAddr 29 (.tmp 41) (.const (.int .i64 0)), (some (40, true))⟩, ⟨[], [], false, false⟩), (⟨(some 43), .fieldAddr 28 (.tmp 42) 0, (some (40, true))⟩, ⟨[], [], false, false⟩), (⟨(some 44), .load 3 (.tmp 43), (some (40, true))⟩, ⟨[3], [], false, false⟩), (⟨(some 45), .binOp .eql 3 (.tmp 44) (.const (.int .i64 7)) 3, (some (40, true))⟩, ⟨[], [], false, false⟩), (⟨(some 46), .pick (.tmp 40) (.tmp 45) (.const (.bool false)), none⟩, ⟨[], [], false, false⟩), (⟨(some 47), .move (.tmp 46), none⟩, ⟨[], [], false, false⟩), (⟨(some 48), .fieldAddr 35 (.tmp 2) 0, (some (47, true))⟩, ⟨[], [], false, false⟩), (⟨(some 49), .indexAddr 29 (.tmp 48) (.const (.int .i64 0)), (some (47, true))⟩, ⟨[], [], false, false⟩), (⟨(some 50), .fieldAddr 28 (.tmp 49) 0, (some (47, true))⟩, ⟨[], [], false, false⟩), (⟨(some 51), .load 3 (.tmp 50), (some (47, true))⟩, ⟨[2], [], false, false⟩), (⟨(some 52), .binOp .eql 3 (.tmp 51) (.const (.int .i64 8)) 3, (some (47, true))⟩, ⟨[], [], false, false⟩), (⟨(some 53), .pick (.tmp 47) (.tmp 52) (.const (.bool false)), none⟩, ⟨[], [], false, false⟩), (⟨(some 54), .move (.tmp 53), none⟩, ⟨[], [], false, false⟩), (⟨(some 55), .fieldAddr 35 (.tmp 1) 0, (some (54, true))⟩, ⟨[], [], false, false⟩), (⟨(some 56), .indexAddr 29 (.tmp 55) (.const (.int .i64 10)), (some (54, true))⟩, ⟨[], [], false, false⟩), (⟨(some 57), .fieldAddr 28 (.tmp 56) 1, (some (54, true))⟩, ⟨[], [], false, false⟩), (⟨(some 58), .load 26 (.tmp 57), (some (54, true))⟩, ⟨[1], [], false, false⟩), (⟨(some 59), .call ⟨.value (.func 54), #[.const (.int .u64 512)], #[22]⟩, (some (54, true))⟩, ⟨[], [], true, true⟩), (⟨(some 60), .binOp .eql 26 (.tmp 58) (.tmp 59) 26, (some (54, true))⟩, ⟨[], [], false, false⟩), (⟨(some 61), .pick (.tmp 54) (.tmp 60) (.const (.bool false)), none⟩, ⟨[], [], false, false⟩), (⟨(some 0), .assign (.tmp 61), none⟩, ⟨[], [], false, false⟩)]
abbrev s15_7 : SC := .seq s15_6 .ret
abbrev s15_8 : SC := .seq s15_5 s15_7
abbrev s15_9 : SC := .seq s15_4 s15_8
abbrev s15_10 : SC := .seq s15_3 s15_9
abbrev s15_11 : SC := .seq s15_2 s15_10
abbrev s15_12 : SC := .seq s15_1 s15_11
abbrev s15_13 : SC := .seq s15_0 s15_12
noncomputable def c15 : Code := match Try.f15.body with | some c => c | none => .skip
theorem b15 : Try.f15.body = some c15 := by kernel_rfl
theorem sc15 : toSC C15 c15 = some s15_13 := by kernel_rfl
set_option maxRecDepth 100000 in
theorem run15 {args : List AV} {H : Heap} {R : Out → Heap → Prop} (hl : args.length ≤ 62) (h : SWp Try.prog C15 s15_13 (finK [.tmp 0] R) ⟨argSlots 0 args, [], H⟩) : ∃ out H', CallRuns Try.prog 15 args H out H' ∧ R out H' :=
  callRuns_of (C := C15) (by kernel_rfl) hDS hZS Try.func15 b15 Try.ntmps15 Try.call15 sc15 (by kernel_rfl) hl h

-- function 123: portcullis/portcullisref15.In
def C123 : Cfg := ⟨22, [2, 3], zget ztabS⟩
@[simp] theorem L123 : C123.L = [2, 3] := rfl
@[simp] theorem Z123 : C123.Z = zget ztabS := rfl
abbrev s123_0 : SC := .region [⟨(some 2), .box 24 (.tmp 0), none⟩, ⟨(some 3), .box 24 (.tmp 1), none⟩, ⟨(some 4), .assign (.const (.bool false)), none⟩]
abbrev s123_1 : SC := .region [⟨(some 5), .fieldAddr 24 (.tmp 3) 1, none⟩, ⟨(some 6), .load 22 (.tmp 5), none⟩, ⟨(some 7), .fieldAddr 24 (.tmp 2) 1, none⟩, ⟨(some 8), .load 22 (.tmp 7), none⟩, ⟨(some 9), .binOp .andNot 22 (.tmp 6) (.tmp 8) 22, none⟩, ⟨(some 10), .binOp .eql 22 (.tmp 9) (.const (.int .u64 0)) 22, none⟩, ⟨(some 11), .move (.tmp 10), none⟩, ⟨(some 12), .fieldAddr 24 (.tmp 2) 0, (some (11, true))⟩, ⟨(some 13), .load 22 (.tmp 12), (some (11, true))⟩, ⟨(some 14), .fieldAddr 24 (.tmp 3) 0, (some (11, true))⟩, ⟨(some 15), .load 22 (.tmp 14), (some (11, true))⟩, ⟨(some 16), .binOp .xor 22 (.tmp 13) (.tmp 15) 22, (some (11, true))⟩, ⟨(some 17), .fieldAddr 24 (.tmp 2) 1, (some (11, true))⟩, ⟨(some 18), .load 22 (.tmp 17), (some (11, true))⟩, ⟨(some 19), .binOp .andNot 22 (.tmp 16) (.tmp 18) 22, (some (11, true))⟩, ⟨(some 20), .binOp .eql 22 (.tmp 19) (.const (.int .u64 0)) 22, (some (11, true))⟩, ⟨(some 21), .pick (.tmp 11) (.tmp 20) (.const (.bool false)), none⟩, ⟨(some 4), .assign (.tmp 21), none⟩]
abbrev s123_2 : SC := .seq s123_1 .ret
abbrev s123_3 : SC := .seq s123_0 s123_2
noncomputable def c123 : Code := match Try.f123.body with | some c => c | none => .skip
theorem b123 : Try.f123.body = some c123 := by kernel_rfl
theorem sc123 : toSC C123 c123 = some s123_3 := by kernel_rfl
set_option maxRecDepth 100000 in
theorem run123 {args : List AV} {H : Heap} {R : Out → Heap → Prop} (hl : args.length ≤ 22) (h : SWp Try.prog C123 s123_3 (finK [.tmp 4] R) ⟨argSlots 0 args, [], H⟩) : ∃ out H', CallRuns Try.prog 123 args H out H' ∧ R out H' :=
  callRuns_of (C := C123) (by kernel_rfl) hDS hZS Try.func123 b123 Try.ntmps123 Try.call123 sc123 (by kernel_rfl) hl h

-- function 106: portcullis/portcullisref16.In
def C106 : Cfg := ⟨24, [2, 3], zget ztabS⟩
@[simp] theorem L106 : C106.L = [2, 3] := rfl
@[simp] theorem Z106 : C106.Z = zget ztabS := rfl
abbrev s106_0 : SC := .region [⟨(some 2), .box 26 (.tmp 0), none⟩, ⟨(some 3), .box 26 (.tmp 1), none⟩, ⟨(some 4), .assign (.const (.bool false)), none⟩]
abbrev s106_1 : SC := .region [⟨(some 5), .fieldAddr 26 (.tmp 2) 0, none⟩, ⟨(some 6), .load 24 (.tmp 5), none⟩, ⟨(some 7), .fieldAddr 26 (.tmp 3) 0, none⟩, ⟨(some 8), .load 24 (.tmp 7), none⟩, ⟨(some 9), .call ⟨.value (.func 123), #[.tmp 6, .tmp 8], #[24, 24]⟩, none⟩, ⟨(some 10), .move (.tmp 9), none⟩, ⟨(some 11), .fieldAddr 26 (.tmp 2) 1, (some (10, true))⟩, ⟨(some 12), .load 22 (.tmp 11), (some (10, true))⟩, ⟨(some 13), .fieldAddr 26 (.tmp 3) 1, (some (10, true))⟩, ⟨(some 14), .load 22 (.tmp 13), (some (10, true))⟩, ⟨(some 15), .binOp .leq 22 (.tmp 12) (.tmp 14) 22, (some (10, true))⟩, ⟨(some 16), .pick (.tmp 10) (.tmp 15) (.const (.bool false)), none⟩, ⟨(some 17), .move (.tmp 16), none⟩, ⟨(some 18), .fieldAddr 26 (.tmp 3) 2, (some (17, true))⟩, ⟨(some 19), .load 22 (.tmp 18), (some (17, true))⟩, ⟨(some 20), .fieldAddr 26 (.tmp 2) 2, (some (17, true))⟩, ⟨(some 21), .load 22 (.tmp 20), (some (17, true))⟩, ⟨(some 22), .binOp .leq 22 (.tmp 19) (.tmp 21) 22, (some (17, true))⟩, ⟨(some 23), .pick (.tmp 17) (.tmp 22) (.const (.bool false)), none⟩, ⟨(some 4), .assign (.tmp 23), none⟩]
abbrev s106_2 : SC := .seq s106_1 .ret
abbrev s106_3 : SC := .seq s106_0 s106_2
noncomputable def c106 : Code := match Try.f106.body with | some c => c | none => .skip
theorem b106 : Try.f106.body = some c106 := by kernel_rfl
theorem sc106 : toSC C106 c106 = some s106_3 := by kernel_rfl
set_option maxRecDepth 100000 in
theorem run106 {args : List AV} {H : Heap} {R : Out → Heap → Prop} (hl : args.length ≤ 24) (h : SWp Try.prog C106 s106_3 (finK [.tmp 4] R) ⟨argSlots 0 args, [], H⟩) : ∃ out H', CallRuns Try.prog 106 args H out H' ∧ R out H' :=
  callRuns_of (C := C106) (by kernel_rfl) hDS hZS Try.func106 b106 Try.ntmps106 Try.call106 sc106 (by kernel_rfl) hl h

-- function 62: (*portcullis/portcullisref18.Table).together
def C62 : Cfg := ⟨77, [64, 71], zget ztabS⟩
@[simp] theorem L62 : C62.L = [64, 71] := rfl
@[simp] theorem Z62 : C62.Z = zget ztabS := rfl
abbrev s62_0 : SC := .region [⟨(some 6), .assign (.const (.bool false)), none⟩]
abbrev s62_1 : SC := .region [⟨(some 7), .assign (.const (.int .i64 0)), none⟩]
abbrev s62_2 : SC := .region [⟨(some 8), .move (.tmp 7), none⟩, ⟨(some 9), .move (.tmp 0), none⟩, ⟨(some 10), .nilCheck (.tmp 9), none⟩, ⟨(some 11), .fieldAddr 89 (.tmp 10) 0, none⟩, ⟨(some 12), .load 33 (.tmp 11), none⟩, ⟨(some 13), .call ⟨.builtin .len, #[.tmp 12], #[33]⟩, none⟩, ⟨(some 14), .binOp .lss 3 (.tmp 8) (.tmp 13) 3, none⟩]
abbrev s62_3 : SC := .cond (.tmp 14) .skip (.exit 0)
abbrev s62_4 : SC := .seq s62_2 s62_3
abbrev s62_5 : SC := .region [⟨(some 17), .move (.tmp 0), none⟩, ⟨(some 18), .nilCheck (.tmp 17), none⟩, ⟨(some 19), .fieldAddr 89 (.tmp 18) 0, none⟩, ⟨(some 20), .load 33 (.tmp 19), none⟩, ⟨(some 21), .move (.tmp 7), none⟩, ⟨(some 22), .indexAddr 33 (.tmp 20) (.tmp 21), none⟩, ⟨(some 23), .load 3 (.tmp 22), none⟩, ⟨(some 24), .move (.tmp 1), none⟩, ⟨(some 25), .binOp .eql 3 (.tmp 23) (.tmp 24) 3, none⟩, ⟨(some 26), .move (.tmp 25), none⟩, ⟨(some 27), .move (.tmp 0), (some (26, false))⟩, ⟨(some 28), .nilCheck (.tmp 27), (some (26, false))⟩, ⟨(some 29), .fieldAddr 89 (.tmp 28) 1, (some (26, false))⟩, ⟨(some 30), .load 33 (.tmp 29), (some (26, false))⟩, ⟨(some 31), .move (.tmp 7), (some (26, false))⟩, ⟨(some 32), .indexAddr 33 (.tmp 30) (.tmp 31), (some (26, false))⟩, ⟨(some 33), .load 3 (.tmp 32), (some (26, false))⟩, ⟨(some 34), .move (.tmp 2), (some (26, false))⟩, ⟨(some 35), .binOp .eql 3 (.tmp 33) (.tmp 34) 3, (some (26, false))⟩, ⟨(some 36), .pick (.tmp 26) (.const (.bool true)) (.tmp 35), none⟩]
abbrev s62_6 : SC := .region [⟨(some 37), .move (.tmp 0), none⟩, ⟨(some 38), .nilCheck (.tmp 37), none⟩, ⟨(some 39), .fieldAddr 89 (.tmp 38) 0, none⟩, ⟨(some 40), .load 33 (.tmp 39), none⟩, ⟨(some 41), .move (.tmp 7), none⟩, ⟨(some 42), .indexAddr 33 (.tmp 40) (.tmp 41), none⟩, ⟨(some 43), .load 3 (.tmp 42), none⟩, ⟨(some 44), .move (.tmp 1), none⟩, ⟨(some 45), .binOp .eql 3 (.tmp 43) (.tmp 44) 3, none⟩, ⟨(some 46), .move (.tmp 45), none⟩, ⟨(some 47), .move (.tmp 0), (some (46, true))⟩, ⟨(some 48), .nilCheck (.tmp 47), (some (46, true))⟩, ⟨(some 49), .fieldAddr 89 (.tmp 48) 1, (some (46, true))⟩, ⟨(some 50), .load 33 (.tmp 49), (some (46, true))⟩, ⟨(some 51), .move (.tmp 7), (some (46, true))⟩, ⟨(some 52), .indexAddr 33 (.tmp 50) (.tmp 51), (some (46, true))⟩, ⟨(some 53), .load 3 (.tmp 52), (some (46, true))⟩, ⟨(some 54), .move (.tmp 2), (some (46, true))⟩, ⟨(some 55), .binOp .eql 3 (.tmp 53) (.tmp 54) 3, (some (46, true))⟩, ⟨(some 56), .pick (.tmp 46) (.tmp 55) (.const (.bool false)), none⟩, ⟨(some 6), .assign (.tmp 56), none⟩]
abbrev s62_7 : SC := .seq s62_6 .ret
abbrev s62_8 : SC := .cond (.tmp 36) s62_7 .skip
abbrev s62_9 : SC := .seq s62_5 s62_8
abbrev s62_10 : SC := .block 1 s62_9
abbrev s62_11 : SC := .region [⟨(some 15), .move (.tmp 7), none⟩, ⟨(some 16), .binOp .add 3 (.tmp 15) (.const (.int .i64 1)) 3, none⟩, ⟨(some 7), .assign (.tmp 16), none⟩]
abbrev s62_12 : SC := .seq s62_10 s62_11
abbrev s62_13 : SC := .seq s62_4 s62_12
abbrev s62_14 : SC := .loop s62_13
abbrev s62_15 : SC := .block 0 s62_14
abbrev s62_16 : SC := .seq s62_1 s62_15
abbrev s62_17 : SC := .draws 13 [(⟨(some 57), .move (.tmp 0), none⟩, ⟨[], [], false, false⟩), (⟨(some 58), .move (.tmp 0), none⟩, ⟨[], [], false, false⟩), (⟨(some 59), .move (.tmp 0), none⟩, ⟨[], [], false, false⟩), (⟨(some 60), .nilCheck (.tmp 59), none⟩, ⟨[], [], false, false⟩), (⟨(some 61), .fieldAddr 89 (.tmp 60) 0, none⟩, ⟨[], [], false, false⟩), (⟨(some 62), .load 33 (.tmp 61), none⟩, ⟨[1000000], [], false, false⟩), (⟨(some 63), .move (.tmp 1), none⟩, ⟨[], [], false, false⟩), (⟨(some 64), .buildSlice 33 1 #[(0, .tmp 63)], none⟩, ⟨[], [64], false, false⟩), (⟨(some 65), .call ⟨.builtin .append, #[.tmp 62, .tmp 64], #[33, 33]⟩, none⟩, ⟨[64], [], true, true⟩), (⟨(some 66), .move (.tmp 0), none⟩, ⟨[], [], false, false⟩), (⟨(some 67), .nilCheck (.tmp 66), none⟩, ⟨[], [], false, false⟩), (⟨(some 68), .fieldAddr 89 (.tmp 67) 1, none⟩, ⟨[], [], false, false⟩), (⟨(some 69), .load 33 (.tmp 68), none⟩, ⟨[1000000], [], false, false⟩), (⟨(some 70), .move (.tmp 2), none⟩, ⟨[], [], false, false⟩), (⟨(some 71), .buildSlice 33 1 #[(0, .tmp 70)], none⟩, ⟨[], [71], false, false⟩), (⟨(some 72), .call ⟨.builtin .append, #[.tmp 69, .tmp 71], #[33, 33]⟩, none⟩, ⟨[71], [], true, true⟩), (⟨(some 73), .nilCheck (.tmp 57), none⟩, ⟨[], [], false, false⟩), (⟨(some 74), .fieldAddr 89 (.tmp 73) 0, none⟩, ⟨[], [], false, false⟩), (⟨none, .store 33 (.tmp 74) (.tmp 65), none⟩, ⟨[], [64, 71], false, true⟩), (⟨(some 75), .nilCheck (.tmp 58), none⟩, ⟨[], [], false, false⟩), (⟨(some 76), .fieldAddr 89 (.tmp 75) 1, none⟩, ⟨[], [], false, false⟩), (⟨none, .store 33 (.tmp 76) (.tmp 72), none⟩, ⟨[], [64, 71], false, true⟩)]
abbrev s62_18 : SC := .region [⟨(some 6), .assign (.const (.bool true)), none⟩]
abbrev s62_19 : SC := .seq s62_18 .ret
abbrev s62_20 : SC := .seq s62_17 s62_19
abbrev s62_21 : SC := .seq s62_16 s62_20
abbrev s62_22 : SC := .seq s62_0 s62_21
noncomputable def c62 : Code := match Try.f62.body with | some c => c | none => .skip
theorem b62 : Try.f62.body = some c62 := by kernel_rfl
theorem sc62 : toSC C62 c62 = some s62_22 := by kernel_rfl
set_option maxRecDepth 100000 in
theorem run62 {args : List AV} {H : Heap} {R : Out → Heap → Prop} (hl : args.length ≤ 77) (h : SWp Try.prog C62 s62_22 (finK [.tmp 6] R) ⟨argSlots 0 args, [], H⟩) : ∃ out H', CallRuns Try.prog 62 args H out H' ∧ R out H' :=
  callRuns_of (C := C62) (by kernel_rfl) hDS hZS Try.func62 b62 Try.ntmps62 Try.call62 sc62 (by kernel_rfl) hl h

-- function 60: (*portcullis/portcullisref18.Table).covers
def C60 : Cfg := ⟨49, [4, 5], zget ztabS⟩
@[simp] theorem L60 : C60.L = [4, 5] := rfl
@[simp] theorem Z60 : C60.Z = zget ztabS := rfl
abbrev s60_0 : SC := .region [⟨(some 4), .box 28 (.tmp 1), none⟩, ⟨(some 5), .box 28 (.tmp 2), none⟩, ⟨(some 6), .assign (.const (.bool false)), none⟩]
abbrev s60_1 : SC := .region [⟨(some 7), .fieldAddr 28 (.tmp 4) 0, none⟩, ⟨(some 8), .load 3 (.tmp 7), none⟩, ⟨(some 9), .binOp .eql 3 (.tmp 8) (.const (.int .i64 0)) 3, none⟩]
abbrev s60_2 : SC := .region [⟨(some 6), .assign (.const (.bool true)), none⟩]
abbrev s60_3 : SC := .seq s60_2 .ret
abbrev s60_4 : SC := .cond (.tmp 9) s60_3 .skip
abbrev s60_5 : SC := .seq s60_1 s60_4
abbrev s60_6 : SC := .region [⟨(some 10), .fieldAddr 28 (.tmp 4) 0, none⟩, ⟨(some 11), .load 3 (.tmp 10), none⟩, ⟨(some 12), .fieldAddr 28 (.tmp 5) 0, none⟩, ⟨(some 13), .load 3 (.tmp 12), none⟩, ⟨(some 14), .binOp .neq 3 (.tmp 11) (.tmp 13) 3, none⟩, ⟨(some 15), .move (.tmp 14), none⟩, ⟨(some 16), .fieldAddr 28 (.tmp 4) 2, (some (15, false))⟩, ⟨(some 17), .load 3 (.tmp 16), (some (15, false))⟩, ⟨(some 18), .fieldAddr 28 (.tmp 5) 2, (some (15, false))⟩, ⟨(some 19), .load 3 (.tmp 18), (some (15, false))⟩, ⟨(some 20), .binOp .neq 3 (.tmp 17) (.tmp 19) 3, (some (15, false))⟩, ⟨(some 21), .pick (.tmp 15) (.const (.bool true)) (.tmp 20), none⟩, ⟨(some 22), .move (.tmp 21), none⟩, ⟨(some 23), .fieldAddr 28 (.tmp 4) 4, (some (22, false))⟩, ⟨(some 24), .load 3 (.tmp 23), (some (22, false))⟩, ⟨(some 25), .fieldAddr 28 (.tmp 5) 4, (some (22, false))⟩, ⟨(some 26), .load 3 (.tmp 25), (some (22, false))⟩, ⟨(some 27), .binOp .neq 3 (.tmp 24) (.tmp 26) 3, (some (22, false))⟩, ⟨(some 28), .pick (.tmp 22) (.const (.bool true)) (.tmp 27), none⟩, ⟨(some 29), .move (.tmp 28), none⟩, ⟨(some 30), .fieldAddr 28 (.tmp 4) 1, (some (29, false))⟩, ⟨(some 31), .load 26 (.tmp 30), (some (29, false))⟩, ⟨(some 32), .fieldAddr 28 (.tmp 5) 1, (some (29, false))⟩, ⟨(some 33), .load 26 (.tmp 32), (some (29, false))⟩, ⟨(some 34), .call ⟨.value (.func 106), #[.tmp 31, .tmp 33], #[26, 26]⟩, (some (29, false))⟩, ⟨(some 35), .unOp .not 4 (.tmp 34), (some (29, false))⟩, ⟨(some 36), .pick (.tmp 29) (.const (.bool true)) (.tmp 35), none⟩]
abbrev s60_7 : SC := .region [⟨(some 6), .assign (.const (.bool false)), none⟩]
abbrev s60_8 : SC := .seq s60_7 .ret
abbrev s60_9 : SC := .cond (.tmp 36) s60_8 .skip
abbrev s60_10 : SC := .seq s60_6 s60_9
abbrev s60_11 : SC := .region [⟨(some 37), .fieldAddr 28 (.tmp 4) 0, none⟩, ⟨(some 38), .load 3 (.tmp 37), none⟩]
abbrev s60_12 : SC := .region [⟨(some 40), .binOp .eql 3 (.tmp 38) (.const (.int .i64 8)) 3, none⟩, ⟨(some 39), .assign (.tmp 40), none⟩]
abbrev s60_13 : SC := .region [⟨(some 41), .binOp .eql 3 (.tmp 38) (.const (.int .i64 9)) 3, none⟩, ⟨(some 39), .assign (.tmp 41), none⟩]
abbrev s60_14 : SC := .region [⟨(some 42), .binOp .eql 3 (.tmp 38) (.const (.int .i64 10)) 3, none⟩, ⟨(some 39), .assign (.tmp 42), none⟩]
abbrev s60_15 : SC := .cond (.tmp 39) .skip s60_14
abbrev s60_16 : SC := .seq s60_13 s60_15
abbrev s60_17 : SC := .cond (.tmp 39) .skip s60_16
abbrev s60_18 : SC := .seq s60_12 s60_17
abbrev s60_19 : SC := .region [⟨(some 43), .move (.tmp 0), none⟩, ⟨(some 44), .fieldAddr 28 (.tmp 4) 3, none⟩, ⟨(some 45), .load 3 (.tmp 44), none⟩, ⟨(some 46), .fieldAddr 28 (.tmp 5) 3, none⟩, ⟨(some 47), .load 3 (.tmp 46), none⟩, ⟨(some 48), .call ⟨.value (.func 62), #[.tmp 43, .tmp 45, .tmp 47], #[87, 3, 3]⟩, none⟩, ⟨(some 6), .assign (.tmp 48), none⟩]
abbrev s60_20 : SC := .seq s60_19 .ret
abbrev s60_21 : SC := .cond (.tmp 39) s60_20 .skip
abbrev s60_22 : SC := .seq s60_18 s60_21
abbrev s60_23 : SC := .block 0 s60_22
abbrev s60_24 : SC := .seq s60_11 s60_23
abbrev s60_25 : SC := .region [⟨(some 6), .assign (.const (.bool true)), none⟩]
abbrev s60_26 : SC := .seq s60_25 .ret
abbrev s60_27 : SC := .seq s60_24 s60_26
abbrev s60_28 : SC := .seq s60_10 s60_27
abbrev s60_29 : SC := .seq s60_5 s60_28
abbrev s60_30 : SC := .seq s60_0 s60_29
noncomputable def c60 : Code := match Try.f60.body with | some c => c | none => .skip
theorem b60 : Try.f60.body = some c60 := by kernel_rfl
theorem sc60 : toSC C60 c60 = some s60_30 := by kernel_rfl
set_option maxRecDepth 100000 in
theorem run60 {args : List AV} {H : Heap} {R : Out → Heap → Prop} (hl : args.length ≤ 49) (h : SWp Try.prog C60 s60_30 (finK [.tmp 6] R) ⟨argSlots 0 args, [], H⟩) : ∃ out H', CallRuns Try.prog 60 args H out H' ∧ R out H' :=
  callRuns_of (C := C60) (by kernel_rfl) hDS hZS Try.func60 b60 Try.ntmps60 Try.call60 sc60 (by kernel_rfl) hl h

-- function 61: (*portcullis/portcullisref18.Table).slot
def C61 : Cfg := ⟨51, [4, 5], zget ztabS⟩
@[simp] theorem L61 : C61.L = [4, 5] := rfl
@[simp] theorem Z61 : C61.Z = zget ztabS := rfl
abbrev s61_0 : SC := .region [⟨(some 4), .box 31 (.tmp 1), none⟩, ⟨(some 5), .box 31 (.tmp 2), none⟩, ⟨(some 6), .assign (.const (.bool false)), none⟩]
abbrev s61_1 : SC := .region [⟨(some 7), .fieldAddr 31 (.tmp 4) 0, none⟩, ⟨(some 8), .load 3 (.tmp 7), none⟩]
abbrev s61_2 : SC := .region [⟨(some 10), .binOp .eql 3 (.tmp 8) (.const (.int .i64 0)) 3, none⟩, ⟨(some 9), .assign (.tmp 10), none⟩]
abbrev s61_3 : SC := .region [⟨(some 6), .assign (.const (.bool true)), none⟩]
abbrev s61_4 : SC := .seq s61_3 .ret
abbrev s61_5 : SC := .region [⟨(some 12), .binOp .eql 3 (.tmp 8) (.const (.int .i64 1)) 3, none⟩, ⟨(some 11), .assign (.tmp 12), none⟩]
abbrev s61_6 : SC := .region [⟨(some 13), .fieldAddr 31 (.tmp 4) 1, none⟩, ⟨(some 14), .load 3 (.tmp 13), none⟩, ⟨(some 15), .binOp .eql 3 (.tmp 14) (.const (.int .i64 0)) 3, none⟩, ⟨(some 16), .move (.tmp 15), none⟩, ⟨(some 17), .fieldAddr 31 (.tmp 5) 0, (some (16, false))⟩, ⟨(some 18), .load 3 (.tmp 17), (some (16, false))⟩, ⟨(some 19), .binOp .eql 3 (.tmp 18) (.const (.int .i64 1)) 3, (some (16, false))⟩, ⟨(some 20), .move (.tmp 19), (some (16, false))⟩, ⟨(some 21), .fieldAddr 31 (.tmp 4) 1, (some (20, true))⟩, ⟨(some 22), .load 3 (.tmp 21), (some (20, true))⟩, ⟨(some 23), .fieldAddr 31 (.tmp 5) 1, (some (20, true))⟩, ⟨(some 24), .load 3 (.tmp 23), (some (20, true))⟩, ⟨(some 25), .binOp .andNot 3 (.tmp 22) (.tmp 24) 3, (some (20, true))⟩, ⟨(some 26), .binOp .eql 3 (.tmp 25) (.const (.int .i64 0)) 3, (some (20, true))⟩, ⟨(some 27), .pick (.tmp 20) (.tmp 26) (.const (.bool false)), (some (16, false))⟩, ⟨(some 28), .pick (.tmp 16) (.const (.bool true)) (.tmp 27), none⟩, ⟨(some 29), .move (.tmp 28), none⟩, ⟨(some 30), .fieldAddr 31 (.tmp 5) 0, (some (29, false))⟩, ⟨(some 31), .load 3 (.tmp 30), (some (29, false))⟩, ⟨(some 32), .binOp .eql 3 (.tmp 31) (.const (.int .i64 2)) 3, (some (29, false))⟩, ⟨(some 33), .move (.tmp 32), (some (29, false))⟩, ⟨(some 34), .fieldAddr 31 (.tmp 5) 2, (some (33, true))⟩, ⟨(some 35), .fieldAddr 28 (.tmp 34) 0, (some (33, true))⟩, ⟨(some 36), .load 3 (.tmp 35), (some (33, true))⟩, ⟨(some 37), .binOp .eql 3 (.tmp 36) (.const (.int .i64 1)) 3, (some (33, true))⟩, ⟨(some 38), .pick (.tmp 33) (.tmp 37) (.const (.bool false)), (some (29, false))⟩, ⟨(some 39), .pick (.tmp 29) (.const (.bool true)) (.tmp 38), none⟩, ⟨(some 6), .assign (.tmp 39), none⟩]
abbrev s61_7 : SC := .seq s61_6 .ret
abbrev s61_8 : SC := .cond (.tmp 11) s61_7 .skip
abbrev s61_9 : SC := .seq s61_5 s61_8
abbrev s61_10 : SC := .cond (.tmp 9) s61_4 s61_9
abbrev s61_11 : SC := .seq s61_2 s61_10
abbrev s61_12 : SC := .block 0 s61_11
abbrev s61_13 : SC := .seq s61_1 s61_12
abbrev s61_14 : SC := .region [⟨(some 40), .fieldAddr 31 (.tmp 5) 0, none⟩, ⟨(some 41), .load 3 (.tmp 40), none⟩, ⟨(some 42), .binOp .eql 3 (.tmp 41) (.const (.int .i64 2)) 3, none⟩, ⟨(some 43), .move (.tmp 42), none⟩, ⟨(some 44), .move (.tmp 0), (some (43, true))⟩, ⟨(some 45), .fieldAddr 31 (.tmp 4) 2, (some (43, true))⟩, ⟨(some 46), .load 28 (.tmp 45), (some (43, true))⟩, ⟨(some 47), .fieldAddr 31 (.tmp 5) 2, (some (43, true))⟩, ⟨(some 48), .load 28 (.tmp 47), (some (43, true))⟩, ⟨(some 49), .call ⟨.value (.func 60), #[.tmp 44, .tmp 46, .tmp 48], #[87, 28, 28]⟩, (some (43, true))⟩, ⟨(some 50), .pick (.tmp 43) (.tmp 49) (.const (.bool false)), none⟩, ⟨(some 6), .assign (.tmp 50), none⟩]
abbrev s61_15 : SC := .seq s61_14 .ret
abbrev s61_16 : SC := .seq s61_13 s61_15
abbrev s61_17 : SC := .seq s61_0 s61_16
noncomputable def c61 : Code := match Try.f61.body with | some c => c | none => .skip
theorem b61 : Try.f61.body = some c61 := by kernel_rfl
theorem sc61 : toSC C61 c61 = some s61_17 := by kernel_rfl
set_option maxRecDepth 100000 in
theorem run61 {args : List AV} {H : Heap} {R : Out → Heap → Prop} (hl : args.length ≤ 51) (h : SWp Try.prog C61 s61_17 (finK [.tmp 6] R) ⟨argSlots 0 args, [], H⟩) : ∃ out H', CallRuns Try.prog 61 args H out H' ∧ R out H' :=
  callRuns_of (C := C61) (by kernel_rfl) hDS hZS Try.func61 b61 Try.ntmps61 Try.call61 sc61 (by kernel_rfl) hl h

-- function 18: portcullis/portcullisref18.In
def C18 : Cfg := ⟨73, [2, 3], zget ztabS⟩
@[simp] theorem L18 : C18.L = [2, 3] := rfl
@[simp] theorem Z18 : C18.Z = zget ztabS := rfl
abbrev s18_0 : SC := .region [⟨(some 2), .box 35 (.tmp 0), none⟩, ⟨(some 3), .box 35 (.tmp 1), none⟩, ⟨(some 4), .assign (.const (.bool false)), none⟩]
abbrev s18_1 : SC := .region [⟨(some 9), .build 89 #[], none⟩, ⟨(some 10), .box 89 (.tmp 9), none⟩, ⟨(some 5), .assign (.tmp 10), none⟩]
abbrev s18_2 : SC := .region [⟨(some 6), .assign (.const (.int .i64 0)), none⟩]
abbrev s18_3 : SC := .region [⟨(some 11), .move (.tmp 6), none⟩, ⟨(some 12), .binOp .lss 3 (.tmp 11) (.const (.int .i64 11)) 3, none⟩]
abbrev s18_4 : SC := .cond (.tmp 12) .skip (.exit 0)
abbrev s18_5 : SC := .seq s18_3 s18_4
abbrev s18_6 : SC := .draw [(⟨(some 15), .move (.tmp 5), none⟩, ⟨[], [], false, false⟩), (⟨(some 16), .move (.tmp 6), none⟩, ⟨[], [], false, false⟩), (⟨(some 17), .fieldAddr 35 (.tmp 2) 0, none⟩, ⟨[], [], false, false⟩), (⟨(some 18), .indexAddr 29 (.tmp 17) (.tmp 16), none⟩, ⟨[], [], false, false⟩), (⟨(some 19), .load 28 (.tmp 18), none⟩, ⟨[2], [], false, false⟩), (⟨(some 20), .move (.tmp 6), none⟩, ⟨[], [], false, false⟩), (⟨(some 21), .fieldAddr 35 (.tmp 3) 0, none⟩, ⟨[], [], false, false⟩), (⟨(some 22), .indexAddr 29 (.tmp 21) (.tmp 20), none⟩, ⟨[], [], false, false⟩), (⟨(some 23), .load 28 (.tmp 22), none⟩, ⟨[3], [], false, false⟩), (⟨(some 24), .call ⟨.value (.func 60), #[.tmp 15, .tmp 19, .tmp 23], #[87, 28, 28]⟩, none⟩, ⟨[], [], true, true⟩), (⟨(some 25), .unOp .not 4 (.tmp 24), none⟩, ⟨[], [], false, false⟩)]
abbrev s18_7 : SC := .region [⟨(some 4), .assign (.const (.bool false)), none⟩]
abbrev s18_8 : SC := .seq s18_7 .ret
abbrev s18_9 : SC := .cond (.tmp 25) s18_8 .skip
abbrev s18_10 : SC := .seq s18_6 s18_9
abbrev s18_11 : SC := .block 1 s18_10
abbrev s18_12 : SC := .region [⟨(some 13), .move (.tmp 6), none⟩, ⟨(some 14), .binOp .add 3 (.tmp 13) (.const (.int .i64 1)) 3, none⟩, ⟨(some 6), .assign (.tmp 14), none⟩]
abbrev s18_13 : SC := .seq s18_11 s18_12
abbrev s18_14 : SC := .seq s18_5 s18_13
abbrev s18_15 : SC := .loop s18_14
abbrev s18_16 : SC := .block 0 s18_15
abbrev s18_17 : SC := .seq s18_2 s18_16
abbrev s18_18 : SC := .region [⟨(some 7), .assign (.const (.int .i64 0)), none⟩]
abbrev s18_19 : SC := .region [⟨(some 26), .move (.tmp 7), none⟩, ⟨(some 27), .binOp .lss 3 (.tmp 26) (.const (.int .i64 64)) 3, none⟩]
abbrev s18_20 : SC := .cond (.tmp 27) .skip (.exit 2)
abbrev s18_21 : SC := .seq s18_19 s18_20
abbrev s18_22 : SC := .draw [(⟨(some 30), .move (.tmp 5), none⟩, ⟨[], [], false, false⟩), (⟨(some 31), .move (.tmp 7), none⟩, ⟨[], [], false, false⟩), (⟨(some 32), .fieldAddr 35 (.tmp 2) 1, none⟩, ⟨[], [], false, false⟩), (⟨(some 33), .indexAddr 32 (.tmp 32) (.tmp 31), none⟩, ⟨[], [], false, false⟩), (⟨(some 34), .load 31 (.tmp 33), none⟩, ⟨[2], [], false, false⟩), (⟨(some 35), .move (.tmp 7), none⟩, ⟨[], [], false, false⟩), (⟨(some 36), .fieldAddr 35 (.tmp 3) 1, none⟩, ⟨[], [], false, false⟩), (⟨(some 37), .indexAddr 32 (.tmp 36) (.tmp 35), none⟩, ⟨[], [], false, false⟩), (⟨(some 38), .load 31 (.tmp 37), none⟩, ⟨[3], [], false, false⟩), (⟨(some 39), .call ⟨.value (.func 61), #[.tmp 30, .tmp 34, .tmp 38], #[87, 31, 31]⟩, none⟩, ⟨[], [], true, true⟩), (⟨(some 40), .unOp .not 4 (.tmp 39), none⟩, ⟨[], [], false, false⟩)]
abbrev s18_23 : SC := .region [⟨(some 4), .assign (.const (.bool false)), none⟩]
abbrev s18_24 : SC := .seq s18_23 .ret
abbrev s18_25 : SC := .cond (.tmp 40) s18_24 .skip
abbrev s18_26 : SC := .seq s18_22 s18_25
abbrev s18_27 : SC := .block 3 s18_26
abbrev s18_28 : SC := .region [⟨(some 28), .move (.tmp 7), none⟩, ⟨(some 29), .binOp .add 3 (.tmp 28) (.const (.int .i64 1)) 3, none⟩, ⟨(some 7), .assign (.tmp 29), none⟩]
abbrev s18_29 : SC := .seq s18_27 s18_28
abbrev s18_30 : SC := .seq s18_21 s18_29
abbrev s18_31 : SC := .loop s18_30
abbrev s18_32 : SC := .block 2 s18_31
abbrev s18_33 : SC := .seq s18_18 s18_32
abbrev s18_34 : SC := .region [⟨(some 41), .fieldAddr 35 (.tmp 2) 3, none⟩, ⟨(some 42), .load 33 (.tmp 41), none⟩, ⟨(some 43), .call ⟨.builtin .len, #[.tmp 42], #[33]⟩, none⟩, ⟨(some 44), .fieldAddr 35 (.tmp 3) 3, none⟩, ⟨(some 45), .load 33 (.tmp 44), none⟩, ⟨(some 46), .call ⟨.builtin .len, #[.tmp 45], #[33]⟩, none⟩, ⟨(some 47), .binOp .neq 3 (.tmp 43) (.tmp 46) 3, none⟩]
abbrev s18_35 : SC := .region [⟨(some 4), .assign (.const (.bool false)), none⟩]
abbrev s18_36 : SC := .seq s18_35 .ret
abbrev s18_37 : SC := .cond (.tmp 47) s18_36 .skip
abbrev s18_38 : SC := .seq s18_34 s18_37
abbrev s18_39 : SC := .region [⟨(some 8), .assign (.const (.int .i64 0)), none⟩]
abbrev s18_40 : SC := .region [⟨(some 48), .move (.tmp 8), none⟩, ⟨(some 49), .fieldAddr 35 (.tmp 2) 3, none⟩, ⟨(some 50), .load 33 (.tmp 49), none⟩, ⟨(some 51), .call ⟨.builtin .len, #[.tmp 50], #[33]⟩, none⟩, ⟨(some 52), .binOp .lss 3 (.tmp 48) (.tmp 51) 3, none⟩]
abbrev s18_41 : SC := .cond (.tmp 52) .skip (.exit 4)
abbrev s18_42 : SC := .seq s18_40 s18_41
abbrev s18_43 : SC := .draw [(⟨(some 55), .move (.tmp 5), none⟩, ⟨[], [], false, false⟩), (⟨(some 56), .fieldAddr 35 (.tmp 2) 3, none⟩, ⟨[], [], false, false⟩), (⟨(some 57), .load 33 (.tmp 56), none⟩, ⟨[2], [], false, false⟩), (⟨(some 58), .move (.tmp 8), none⟩, ⟨[], [], false, false⟩), (⟨(some 59), .indexAddr 33 (.tmp 57) (.tmp 58), none⟩, ⟨[], [], false, false⟩), (⟨(some 60), .load 3 (.tmp 59), none⟩, ⟨[2, 3], [], true, false⟩), (⟨(some 61), .fieldAddr 35 (.tmp 3) 3, none⟩, ⟨[], [], false, false⟩), (⟨(some 62), .load 33 (.tmp 61), none⟩, ⟨[3], [], false, false⟩), (⟨(some 63), .move (.tmp 8), none⟩, ⟨[], [], false, false⟩), (⟨(some 64), .indexAddr 33 (.tmp 62) (.tmp 63), none⟩, ⟨[], [], false, false⟩), (⟨(some 65), .load 3 (.tmp 64), none⟩, ⟨[2, 3], [], true, false⟩), (⟨(some 66), .call ⟨.value (.func 62), #[.tmp 55, .tmp 60, .tmp 65], #[87, 3, 3]⟩, none⟩, ⟨[], [], true, true⟩), (⟨(some 67), .unOp .not 4 (.tmp 66), none⟩, ⟨[], [], false, false⟩)]
abbrev s18_44 : SC := .region [⟨(some 4), .assign (.const (.bool false)), none⟩]
abbrev s18_45 : SC := .seq s18_44 .ret
abbrev s18_46 : SC := .cond (.tmp 67) s18_45 .skip
abbrev s18_47 : SC := .seq s18_43 s18_46
abbrev s18_48 : SC := .block 5 s18_47
abbrev s18_49 : SC := .region [⟨(some 53), .move (.tmp 8), none⟩, ⟨(some 54), .binOp .add 3 (.tmp 53) (.const (.int .i64 1)) 3, none⟩, ⟨(some 8), .assign (.tmp 54), none⟩]
abbrev s18_50 : SC := .seq s18_48 s18_49
abbrev s18_51 : SC := .seq s18_42 s18_50
abbrev s18_52 : SC := .loop s18_51
abbrev s18_53 : SC := .block 4 s18_52
abbrev s18_54 : SC := .seq s18_39 s18_53
abbrev s18_55 : SC := .region [⟨(some 68), .fieldAddr 35 (.tmp 2) 2, none⟩, ⟨(some 69), .load 3 (.tmp 68), none⟩, ⟨(some 70), .fieldAddr 35 (.tmp 3) 2, none⟩, ⟨(some 71), .load 3 (.tmp 70), none⟩, ⟨(some 72), .binOp .leq 3 (.tmp 69) (.tmp 71) 3, none⟩, ⟨(some 4), .assign (.tmp 72), none⟩]
abbrev s18_56 : SC := .seq s18_55 .ret
abbrev s18_57 : SC := .seq s18_54 s18_56
abbrev s18_58 : SC := .seq s18_38 s18_57
abbrev s18_59 : SC := .seq s18_33 s18_58
abbrev s18_60 : SC := .seq s18_17 s18_59
abbrev s18_61 : SC := .seq s18_1 s18_60
abbrev s18_62 : SC := .seq s18_0 s18_61
noncomputable def c18 : Code := match Try.f18.body with | some c => c | none => .skip
theorem b18 : Try.f18.body = some c18 := by kernel_rfl
theorem sc18 : toSC C18 c18 = some s18_62 := by kernel_rfl
set_option maxRecDepth 100000 in
theorem run18 {args : List AV} {H : Heap} {R : Out → Heap → Prop} (hl : args.length ≤ 73) (h : SWp Try.prog C18 s18_62 (finK [.tmp 4] R) ⟨argSlots 0 args, [], H⟩) : ∃ out H', CallRuns Try.prog 18 args H out H' ∧ R out H' :=
  callRuns_of (C := C18) (by kernel_rfl) hDS hZS Try.func18 b18 Try.ntmps18 Try.call18 sc18 (by kernel_rfl) hl h

-- function 3: portcullis/portcullislaw18.StateSelf
def C3 : Cfg := ⟨53, [1, 3], zget ztabS⟩
@[simp] theorem L3 : C3.L = [1, 3] := rfl
@[simp] theorem Z3 : C3.Z = zget ztabS := rfl
abbrev s3_0 : SC := .region [⟨(some 1), .box 35 (.tmp 0), none⟩, ⟨(some 2), .assign (.const (.bool false)), none⟩]
abbrev s3_1 : SC := .region [⟨(some 5), .load 35 (.tmp 1), none⟩, ⟨(some 6), .call ⟨.value (.func 14), #[.tmp 5], #[35]⟩, none⟩, ⟨(some 7), .unOp .not 4 (.tmp 6), none⟩]
abbrev s3_2 : SC := .region [⟨(some 8), .call ⟨.value (.func 15), #[], #[]⟩, none⟩, ⟨(some 2), .assign (.tmp 8), none⟩]
abbrev s3_3 : SC := .seq s3_2 .ret
abbrev s3_4 : SC := .cond (.tmp 7) s3_3 .skip
abbrev s3_5 : SC := .seq s3_1 s3_4
abbrev s3_6 : SC := .region [⟨(some 9), .load 35 (.tmp 1), none⟩, ⟨(some 10), .call ⟨.value (.func 16), #[.tmp 9], #[35]⟩, none⟩, ⟨(some 3), .alloc 35, none⟩, ⟨none, .store 35 (.tmp 3) (.tmp 10), none⟩]
abbrev s3_7 : SC := .region [⟨(some 11), .load 35 (.tmp 1), none⟩, ⟨(some 12), .load 35 (.tmp 1), none⟩, ⟨(some 13), .call ⟨.value (.func 17), #[.tmp 11, .tmp 12], #[35, 35]⟩, none⟩, ⟨(some 14), .unOp .not 4 (.tmp 13), none⟩, ⟨(some 15), .move (.tmp 14), none⟩, ⟨(some 16), .load 35 (.tmp 1), (some (15, true))⟩, ⟨(some 17), .load 35 (.tmp 1), (some (15, true))⟩, ⟨(some 18), .call ⟨.value (.func 18), #[.tmp 16, .tmp 17], #[35, 35]⟩, (some (15, true))⟩, ⟨(some 19), .pick (.tmp 15) (.tmp 18) (.const (.bool false)), none⟩, ⟨(some 20), .move (.tmp 19), none⟩, ⟨(some 21), .load 35 (.tmp 3), (some (20, false))⟩, ⟨(some 22), .load 35 (.tmp 1), (some (20, false))⟩, ⟨(some 23), .call ⟨.value (.func 19), #[.tmp 21, .tmp 22], #[35, 35]⟩, (some (20, false))⟩, ⟨(some 24), .unOp .not 4 (.tmp 23), (some (20, false))⟩, ⟨(some 25), .pick (.tmp 20) (.const (.bool true)) (.tmp 24), none⟩]
abbrev s3_8 : SC := .region [⟨(some 2), .assign (.const (.bool false)), none⟩]
abbrev s3_9 : SC := .seq s3_8 .ret
abbrev s3_10 : SC := .cond (.tmp 25) s3_9 .skip
abbrev s3_11 : SC := .seq s3_7 s3_10
abbrev s3_12 : SC := .region [⟨(some 4), .assign (.const (.int .i64 0)), none⟩]
abbrev s3_13 : SC := .region [⟨(some 26), .move (.tmp 4), none⟩, ⟨(some 27), .fieldAddr 35 (.tmp 3) 3, none⟩, ⟨(some 28), .load 33 (.tmp 27), none⟩, ⟨(some 29), .call ⟨.builtin .len, #[.tmp 28], #[33]⟩, none⟩, ⟨(some 30), .binOp .lss 3 (.tmp 26) (.tmp 29) 3, none⟩]
abbrev s3_14 : SC := .cond (.tmp 30) .skip (.exit 0)
abbrev s3_15 : SC := .seq s3_13 s3_14
abbrev s3_16 : SC := .region [⟨(some 33), .fieldAddr 35 (.tmp 3) 3, none⟩, ⟨(some 34), .load 33 (.tmp 33), none⟩, ⟨(some 35), .move (.tmp 4), none⟩, ⟨(some 36), .indexAddr 33 (.tmp 34) (.tmp 35), none⟩, ⟨(some 37), .load 3 (.tmp 36), none⟩, ⟨(some 38), .binOp .add 3 (.tmp 37) (.const (.int .i64 1)) 3, none⟩, ⟨(some 39), .indexAddr 33 (.tmp 34) (.tmp 35), none⟩, ⟨none, .store 3 (.tmp 39) (.tmp 38), none⟩]
abbrev s3_17 : SC := .block 1 s3_16
abbrev s3_18 : SC := .region [⟨(some 31), .move (.tmp 4), none⟩, ⟨(some 32), .binOp .add 3 (.tmp 31) (.const (.int .i64 1)) 3, none⟩, ⟨(some 4), .assign (.tmp 32), none⟩]
abbrev s3_19 : SC := .seq s3_17 s3_18
abbrev s3_20 : SC := .seq s3_15 s3_19
abbrev s3_21 : SC := .loop s3_20
abbrev s3_22 : SC := .block 0 s3_21
abbrev s3_23 : SC := .seq s3_12 s3_22
abbrev s3_24 : SC := .region [⟨(some 40), .fieldAddr 35 (.tmp 3) 3, none⟩, ⟨(some 41), .load 33 (.tmp 40), none⟩, ⟨(some 42), .call ⟨.builtin .len, #[.tmp 41], #[33]⟩, none⟩, ⟨(some 43), .binOp .eql 3 (.tmp 42) (.const (.int .i64 0)) 3, none⟩, ⟨(some 44), .move (.tmp 43), none⟩, ⟨(some 45), .load 35 (.tmp 3), (some (44, false))⟩, ⟨(some 46), .load 35 (.tmp 1), (some (44, false))⟩, ⟨(some 47), .call ⟨.value (.func 19), #[.tmp 45, .tmp 46], #[35, 35]⟩, (some (44, false))⟩, ⟨(some 48), .unOp .not 4 (.tmp 47), (some (44, false))⟩, ⟨(some 49), .pick (.tmp 44) (.const (.bool true)) (.tmp 48), none⟩, ⟨(some 50), .move (.tmp 49), none⟩, ⟨(some 51), .call ⟨.value (.func 15), #[], #[]⟩, (some (50, true))⟩, ⟨(some 52), .pick (.tmp 50) (.tmp 51) (.const (.bool false)), none⟩, ⟨(some 2), .assign (.tmp 52), none⟩]
abbrev s3_25 : SC := .seq s3_24 .ret
abbrev s3_26 : SC := .seq s3_23 s3_25
abbrev s3_27 : SC := .seq s3_11 s3_26
abbrev s3_28 : SC := .seq s3_6 s3_27
abbrev s3_29 : SC := .seq s3_5 s3_28
abbrev s3_30 : SC := .seq s3_0 s3_29
noncomputable def c3 : Code := match Try.f3.body with | some c => c | none => .skip
theorem b3 : Try.f3.body = some c3 := by kernel_rfl
theorem sc3 : toSC C3 c3 = some s3_30 := by kernel_rfl
set_option maxRecDepth 100000 in
theorem run3 {args : List AV} {H : Heap} {R : Out → Heap → Prop} (hl : args.length ≤ 53) (h : SWp Try.prog C3 s3_30 (finK [.tmp 2] R) ⟨argSlots 0 args, [], H⟩) : ∃ out H', CallRuns Try.prog 3 args H out H' ∧ R out H' :=
  callRuns_of (C := C3) (by kernel_rfl) hDS hZS Try.func3 b3 Try.ntmps3 Try.call3 sc3 (by kernel_rfl) hl h

-- function 4: portcullis/portcullislaw18.StateLess
def C4 : Cfg := ⟨61, [3, 7, 8], zget ztabS⟩
@[simp] theorem L4 : C4.L = [3, 7, 8] := rfl
@[simp] theorem Z4 : C4.Z = zget ztabS := rfl
abbrev s4_0 : SC := .region [⟨(some 3), .box 35 (.tmp 0), none⟩, ⟨(some 6), .assign (.const (.bool false)), none⟩]
abbrev s4_1 : SC := .region [⟨(some 9), .load 35 (.tmp 3), none⟩, ⟨(some 10), .call ⟨.value (.func 14), #[.tmp 9], #[35]⟩, none⟩, ⟨(some 11), .unOp .not 4 (.tmp 10), none⟩]
abbrev s4_2 : SC := .region [⟨(some 12), .call ⟨.value (.func 15), #[], #[]⟩, none⟩, ⟨(some 6), .assign (.tmp 12), none⟩]
abbrev s4_3 : SC := .seq s4_2 .ret
abbrev s4_4 : SC := .cond (.tmp 11) s4_3 .skip
abbrev s4_5 : SC := .seq s4_1 s4_4
abbrev s4_6 : SC := .region [⟨(some 13), .load 35 (.tmp 3), none⟩, ⟨(some 14), .load 35 (.tmp 3), none⟩, ⟨(some 15), .call ⟨.value (.func 18), #[.tmp 13, .tmp 14], #[35, 35]⟩, none⟩, ⟨(some 16), .unOp .not 4 (.tmp 15), none⟩]
abbrev s4_7 : SC := .region [⟨(some 17), .call ⟨.value (.func 15), #[], #[]⟩, none⟩, ⟨(some 6), .assign (.tmp 17), none⟩]
abbrev s4_8 : SC := .seq s4_7 .ret
abbrev s4_9 : SC := .cond (.tmp 16) s4_8 .skip
abbrev s4_10 : SC := .seq s4_6 s4_9
abbrev s4_11 : SC := .region [⟨(some 18), .load 35 (.tmp 3), none⟩, ⟨(some 19), .call ⟨.value (.func 16), #[.tmp 18], #[35]⟩, none⟩, ⟨(some 7), .alloc 35, none⟩, ⟨none, .store 35 (.tmp 7) (.tmp 19), none⟩]
abbrev s4_12 : SC := .region [⟨(some 20), .move (.tmp 1), none⟩, ⟨(some 21), .binOp .rem 3 (.tmp 20) (.const (.int .i64 11)) 3, none⟩, ⟨(some 22), .binOp .add 3 (.tmp 21) (.const (.int .i64 11)) 3, none⟩, ⟨(some 23), .binOp .rem 3 (.tmp 22) (.const (.int .i64 11)) 3, none⟩, ⟨(some 1), .assign (.tmp 23), none⟩]
abbrev s4_13 : SC := .region [⟨(some 24), .fieldAddr 35 (.tmp 7) 3, none⟩, ⟨(some 25), .load 33 (.tmp 24), none⟩, ⟨(some 26), .call ⟨.builtin .len, #[.tmp 25], #[33]⟩, none⟩, ⟨(some 27), .binOp .eql 3 (.tmp 26) (.const (.int .i64 0)) 3, none⟩]
abbrev s4_14 : SC := .region [⟨(some 28), .move (.tmp 1), none⟩, ⟨(some 29), .build 28 #[], none⟩, ⟨(some 30), .fieldAddr 35 (.tmp 7) 0, none⟩, ⟨(some 31), .indexAddr 29 (.tmp 30) (.tmp 28), none⟩, ⟨none, .store 28 (.tmp 31) (.tmp 29), none⟩]
abbrev s4_15 : SC := .cond (.tmp 27) s4_14 .skip
abbrev s4_16 : SC := .seq s4_13 s4_15
abbrev s4_17 : SC := .region [⟨(some 32), .fieldAddr 35 (.tmp 7) 2, none⟩, ⟨(some 33), .load 3 (.tmp 32), none⟩, ⟨(some 34), .move (.tmp 2), none⟩, ⟨(some 35), .call ⟨.builtin .min, #[.tmp 33, .tmp 34], #[3, 3]⟩, none⟩, ⟨(some 36), .fieldAddr 35 (.tmp 7) 2, none⟩, ⟨none, .store 3 (.tmp 36) (.tmp 35), none⟩]
abbrev s4_18 : SC := .region [⟨(some 37), .load 35 (.tmp 3), none⟩, ⟨(some 38), .call ⟨.value (.func 16), #[.tmp 37], #[35]⟩, none⟩, ⟨(some 8), .alloc 35, none⟩, ⟨none, .store 35 (.tmp 8) (.tmp 38), none⟩]
abbrev s4_19 : SC := .region [⟨(some 39), .move (.tmp 1), none⟩, ⟨(some 40), .fieldAddr 35 (.tmp 8) 0, none⟩, ⟨(some 41), .indexAddr 29 (.tmp 40) (.tmp 39), none⟩, ⟨(some 42), .fieldAddr 28 (.tmp 41) 0, none⟩, ⟨(some 43), .load 3 (.tmp 42), none⟩, ⟨(some 44), .binOp .eql 3 (.tmp 43) (.const (.int .i64 1)) 3, none⟩]
abbrev s4_20 : SC := .region [⟨(some 45), .move (.tmp 1), none⟩, ⟨(some 46), .call ⟨.value (.func 20), #[], #[]⟩, none⟩, ⟨(some 47), .fieldAddr 35 (.tmp 8) 0, none⟩, ⟨(some 48), .indexAddr 29 (.tmp 47) (.tmp 45), none⟩, ⟨(some 49), .fieldAddr 28 (.tmp 48) 1, none⟩, ⟨none, .store 26 (.tmp 49) (.tmp 46), none⟩]
abbrev s4_21 : SC := .cond (.tmp 44) s4_20 .skip
abbrev s4_22 : SC := .seq s4_19 s4_21
abbrev s4_23 : SC := .region [⟨(some 50), .load 35 (.tmp 7), none⟩, ⟨(some 51), .load 35 (.tmp 3), none⟩, ⟨(some 52), .call ⟨.value (.func 17), #[.tmp 50, .tmp 51], #[35, 35]⟩, none⟩, ⟨(some 53), .move (.tmp 52), none⟩, ⟨(some 54), .load 35 (.tmp 8), (some (53, true))⟩, ⟨(some 55), .load 35 (.tmp 3), (some (53, true))⟩, ⟨(some 56), .call ⟨.value (.func 17), #[.tmp 54, .tmp 55], #[35, 35]⟩, (some (53, true))⟩, ⟨(some 57), .pick (.tmp 53) (.tmp 56) (.const (.bool false)), none⟩, ⟨(some 58), .move (.tmp 57), none⟩, ⟨(some 59), .call ⟨.value (.func 15), #[], #[]⟩, (some (58, true))⟩, ⟨(some 60), .pick (.tmp 58) (.tmp 59) (.const (.bool false)), none⟩, ⟨(some 6), .assign (.tmp 60), none⟩]
abbrev s4_24 : SC := .seq s4_23 .ret
abbrev s4_25 : SC := .seq s4_22 s4_24
abbrev s4_26 : SC := .seq s4_18 s4_25
abbrev s4_27 : SC := .seq s4_17 s4_26
abbrev s4_28 : SC := .seq s4_16 s4_27
abbrev s4_29 : SC := .seq s4_12 s4_28
abbrev s4_30 : SC := .seq s4_11 s4_29
abbrev s4_31 : SC := .seq s4_10 s4_30
abbrev s4_32 : SC := .seq s4_5 s4_31
abbrev s4_33 : SC := .seq s4_0 s4_32
noncomputable def c4 : Code := match Try.f4.body with | some c => c | none => .skip
theorem b4 : Try.f4.body = some c4 := by kernel_rfl
theorem sc4 : toSC C4 c4 = some s4_33 := by kernel_rfl
set_option maxRecDepth 100000 in
theorem run4 {args : List AV} {H : Heap} {R : Out → Heap → Prop} (hl : args.length ≤ 61) (h : SWp Try.prog C4 s4_33 (finK [.tmp 6] R) ⟨argSlots 0 args, [], H⟩) : ∃ out H', CallRuns Try.prog 4 args H out H' ∧ R out H' :=
  callRuns_of (C := C4) (by kernel_rfl) hDS hZS Try.func4 b4 Try.ntmps4 Try.call4 sc4 (by kernel_rfl) hl h

-- function 38: portcullis/portcullisref18.Copy
def C38 : Cfg := ⟨8, [1, 2], zget ztabS⟩
@[simp] theorem L38 : C38.L = [1, 2] := rfl
@[simp] theorem Z38 : C38.Z = zget ztabS := rfl
abbrev s38_0 : SC := .region [⟨(some 1), .box 35 (.tmp 0), none⟩, ⟨(some 2), .alloc 35, none⟩]
abbrev s38_1 : SC := .region [⟨(some 3), .fieldAddr 35 (.tmp 1) 3, none⟩, ⟨(some 4), .load 33 (.tmp 3), none⟩, ⟨(some 5), .call ⟨.builtin .append, #[.const (.slice none 0 0), .tmp 4], #[33, 33]⟩, none⟩, ⟨(some 6), .fieldAddr 35 (.tmp 1) 3, none⟩, ⟨none, .store 33 (.tmp 6) (.tmp 5), none⟩]
abbrev s38_2 : SC := .region [⟨(some 7), .load 35 (.tmp 1), none⟩, ⟨none, .store 35 (.tmp 2) (.tmp 7), none⟩]
abbrev s38_3 : SC := .seq s38_2 .ret
abbrev s38_4 : SC := .seq s38_1 s38_3
abbrev s38_5 : SC := .seq s38_0 s38_4
noncomputable def c38 : Code := match Try.f38.body with | some c => c | none => .skip
theorem b38 : Try.f38.body = some c38 := by kernel_rfl
theorem sc38 : toSC C38 c38 = some s38_5 := by kernel_rfl
set_option maxRecDepth 100000 in
theorem run38 {args : List AV} {H : Heap} {R : Out → Heap → Prop} (hl : args.length ≤ 8) (h : SWp Try.prog C38 s38_5 (finK [.cell 2 35] R) ⟨argSlots 0 args, [], H⟩) : ∃ out H', CallRuns Try.prog 38 args H out H' ∧ R out H' :=
  callRuns_of (C := C38) (by kernel_rfl) hDS hZS Try.func38 b38 Try.ntmps38 Try.call38 sc38 (by kernel_rfl) hl h

-- function 90: portcullis/portcullisref18.null
def C90 : Cfg := ⟨32, [3, 6], zget ztabS⟩
@[simp] theorem L90 : C90.L = [3, 6] := rfl
@[simp] theorem Z90 : C90.Z = zget ztabS := rfl
abbrev s90_0 : SC := .region [⟨(some 3), .box 28 (.tmp 0), none⟩, ⟨(some 6), .alloc 28, none⟩, ⟨(some 7), .assign (.const (.bool false)), none⟩]
abbrev s90_1 : SC := .region [⟨(some 8), .fieldAddr 28 (.tmp 3) 0, none⟩, ⟨(some 9), .load 3 (.tmp 8), none⟩, ⟨(some 10), .binOp .neq 3 (.tmp 9) (.const (.int .i64 8)) 3, none⟩, ⟨(some 11), .move (.tmp 10), none⟩, ⟨(some 12), .fieldAddr 28 (.tmp 3) 0, (some (11, true))⟩, ⟨(some 13), .load 3 (.tmp 12), (some (11, true))⟩, ⟨(some 14), .binOp .neq 3 (.tmp 13) (.const (.int .i64 10)) 3, (some (11, true))⟩, ⟨(some 15), .pick (.tmp 11) (.tmp 14) (.const (.bool false)), none⟩, ⟨(some 16), .move (.tmp 15), none⟩, ⟨(some 17), .fieldAddr 28 (.tmp 3) 3, (some (16, false))⟩, ⟨(some 18), .load 3 (.tmp 17), (some (16, false))⟩, ⟨(some 19), .move (.tmp 1), (some (16, false))⟩, ⟨(some 20), .binOp .neq 3 (.tmp 18) (.tmp 19) 3, (some (16, false))⟩, ⟨(some 21), .pick (.tmp 16) (.const (.bool true)) (.tmp 20), none⟩]
abbrev s90_2 : SC := .region [⟨(some 22), .load 28 (.tmp 3), none⟩, ⟨none, .store 28 (.tmp 6) (.tmp 22), none⟩, ⟨(some 7), .assign (.const (.bool false)), none⟩]
abbrev s90_3 : SC := .seq s90_2 .ret
abbrev s90_4 : SC := .cond (.tmp 21) s90_3 .skip
abbrev s90_5 : SC := .seq s90_1 s90_4
abbrev s90_6 : SC := .region [⟨(some 23), .move (.tmp 2), none⟩]
abbrev s90_7 : SC := .region [⟨(some 24), .call ⟨.value (.func 54), #[.const (.int .u64 0)], #[22]⟩, none⟩, ⟨(some 25), .build 28 #[(0, .const (.int .i64 1)), (1, .tmp 24)], none⟩, ⟨none, .store 28 (.tmp 6) (.tmp 25), none⟩, ⟨(some 7), .assign (.const (.bool true)), none⟩]
abbrev s90_8 : SC := .seq s90_7 .ret
abbrev s90_9 : SC := .cond (.tmp 23) s90_8 .skip
abbrev s90_10 : SC := .seq s90_6 s90_9
abbrev s90_11 : SC := .region [⟨(some 26), .fieldAddr 28 (.tmp 3) 0, none⟩, ⟨(some 27), .load 3 (.tmp 26), none⟩, ⟨(some 28), .binOp .eql 3 (.tmp 27) (.const (.int .i64 8)) 3, none⟩]
abbrev s90_12 : SC := .region [⟨(some 29), .fieldAddr 28 (.tmp 3) 0, none⟩, ⟨none, .store 3 (.tmp 29) (.const (.int .i64 7)), none⟩]
abbrev s90_13 : SC := .region [⟨(some 30), .fieldAddr 28 (.tmp 3) 0, none⟩, ⟨none, .store 3 (.tmp 30) (.const (.int .i64 9)), none⟩]
abbrev s90_14 : SC := .cond (.tmp 28) s90_12 s90_13
abbrev s90_15 : SC := .seq s90_11 s90_14
abbrev s90_16 : SC := .region [⟨(some 31), .load 28 (.tmp 3), none⟩, ⟨none, .store 28 (.tmp 6) (.tmp 31), none⟩, ⟨(some 7), .assign (.const (.bool true)), none⟩]
abbrev s90_17 : SC := .seq s90_16 .ret
abbrev s90_18 : SC := .seq s90_15 s90_17
abbrev s90_19 : SC := .seq s90_10 s90_18
abbrev s90_20 : SC := .seq s90_5 s90_19
abbrev s90_21 : SC := .seq s90_0 s90_20
noncomputable def c90 : Code := match Try.f90.body with | some c => c | none => .skip
theorem b90 : Try.f90.body = some c90 := by kernel_rfl
theorem sc90 : toSC C90 c90 = some s90_21 := by kernel_rfl
set_option maxRecDepth 100000 in
theorem run90 {args : List AV} {H : Heap} {R : Out → Heap → Prop} (hl : args.length ≤ 32) (h : SWp Try.prog C90 s90_21 (finK [.cell 6 28, .tmp 7] R) ⟨argSlots 0 args, [], H⟩) : ∃ out H', CallRuns Try.prog 90 args H out H' ∧ R out H' :=
  callRuns_of (C := C90) (by kernel_rfl) hDS hZS Try.func90 b90 Try.ntmps90 Try.call90 sc90 (by kernel_rfl) hl h

-- function 91: portcullis/portcullisref18.without
def C91 : Cfg := ⟨27, [24], zget ztabS⟩
@[simp] theorem L91 : C91.L = [24] := rfl
@[simp] theorem Z91 : C91.Z = zget ztabS := rfl
abbrev s91_0 : SC := .region [⟨(some 4), .assign (.const (.slice none 0 0)), none⟩]
abbrev s91_1 : SC := .region [⟨(some 5), .assign (.const (.slice none 0 0)), none⟩]
abbrev s91_2 : SC := .region [⟨(some 6), .assign (.const (.int .i64 0)), none⟩]
abbrev s91_3 : SC := .region [⟨(some 7), .move (.tmp 6), none⟩, ⟨(some 8), .move (.tmp 0), none⟩, ⟨(some 9), .call ⟨.builtin .len, #[.tmp 8], #[33]⟩, none⟩, ⟨(some 10), .binOp .lss 3 (.tmp 7) (.tmp 9) 3, none⟩]
abbrev s91_4 : SC := .cond (.tmp 10) .skip (.exit 0)
abbrev s91_5 : SC := .seq s91_3 s91_4
abbrev s91_6 : SC := .region [⟨(some 13), .move (.tmp 0), none⟩, ⟨(some 14), .move (.tmp 6), none⟩, ⟨(some 15), .indexAddr 33 (.tmp 13) (.tmp 14), none⟩, ⟨(some 16), .load 3 (.tmp 15), none⟩, ⟨(some 17), .move (.tmp 1), none⟩, ⟨(some 18), .binOp .neq 3 (.tmp 16) (.tmp 17) 3, none⟩]
abbrev s91_7 : SC := .region [⟨(some 19), .move (.tmp 5), none⟩, ⟨(some 20), .move (.tmp 0), none⟩, ⟨(some 21), .move (.tmp 6), none⟩, ⟨(some 22), .indexAddr 33 (.tmp 20) (.tmp 21), none⟩, ⟨(some 23), .load 3 (.tmp 22), none⟩, ⟨(some 24), .buildSlice 33 1 #[(0, .tmp 23)], none⟩, ⟨(some 25), .call ⟨.builtin .append, #[.tmp 19, .tmp 24], #[33, 33]⟩, none⟩, ⟨(some 5), .assign (.tmp 25), none⟩]
abbrev s91_8 : SC := .cond (.tmp 18) s91_7 .skip
abbrev s91_9 : SC := .seq s91_6 s91_8
abbrev s91_10 : SC := .block 1 s91_9
abbrev s91_11 : SC := .region [⟨(some 11), .move (.tmp 6), none⟩, ⟨(some 12), .binOp .add 3 (.tmp 11) (.const (.int .i64 1)) 3, none⟩, ⟨(some 6), .assign (.tmp 12), none⟩]
abbrev s91_12 : SC := .seq s91_10 s91_11
abbrev s91_13 : SC := .seq s91_5 s91_12
abbrev s91_14 : SC := .loop s91_13
abbrev s91_15 : SC := .block 0 s91_14
abbrev s91_16 : SC := .seq s91_2 s91_15
abbrev s91_17 : SC := .region [⟨(some 26), .move (.tmp 5), none⟩, ⟨(some 4), .assign (.tmp 26), none⟩]
abbrev s91_18 : SC := .seq s91_17 .ret
abbrev s91_19 : SC := .seq s91_16 s91_18
abbrev s91_20 : SC := .seq s91_1 s91_19
abbrev s91_21 : SC := .seq s91_0 s91_20
noncomputable def c91 : Code := match Try.f91.body with | some c => c | none => .skip
theorem b91 : Try.f91.body = some c91 := by kernel_rfl
theorem sc91 : toSC C91 c91 = some s91_21 := by kernel_rfl
set_option maxRecDepth 100000 in
theorem run91 {args : List AV} {H : Heap} {R : Out → Heap → Prop} (hl : args.length ≤ 27) (h : SWp Try.prog C91 s91_21 (finK [.tmp 4] R) ⟨argSlots 0 args, [], H⟩) : ∃ out H', CallRuns Try.prog 91 args H out H' ∧ R out H' :=
  callRuns_of (C := C91) (by kernel_rfl) hDS hZS Try.func91 b91 Try.ntmps91 Try.call91 sc91 (by kernel_rfl) hl h

-- function 41: portcullis/portcullisref18.Null
def C41 : Cfg := ⟨60, [3, 6], zget ztabS⟩
@[simp] theorem L41 : C41.L = [3, 6] := rfl
@[simp] theorem Z41 : C41.Z = zget ztabS := rfl
abbrev s41_0 : SC := .region [⟨(some 3), .box 35 (.tmp 0), none⟩, ⟨(some 6), .alloc 35, none⟩]
abbrev s41_1 : SC := .region [⟨(some 9), .load 35 (.tmp 3), none⟩, ⟨(some 10), .call ⟨.value (.func 38), #[.tmp 9], #[35]⟩, none⟩, ⟨none, .store 35 (.tmp 3) (.tmp 10), none⟩]
abbrev s41_2 : SC := .region [⟨(some 7), .assign (.const (.int .i64 0)), none⟩]
abbrev s41_3 : SC := .region [⟨(some 11), .move (.tmp 7), none⟩, ⟨(some 12), .binOp .lss 3 (.tmp 11) (.const (.int .i64 11)) 3, none⟩]
abbrev s41_4 : SC := .cond (.tmp 12) .skip (.exit 0)
abbrev s41_5 : SC := .seq s41_3 s41_4
abbrev s41_6 : SC := .region [⟨(some 16), .move (.tmp 7), none⟩, ⟨(some 17), .move (.tmp 7), none⟩, ⟨(some 18), .fieldAddr 35 (.tmp 3) 0, none⟩, ⟨(some 19), .indexAddr 29 (.tmp 18) (.tmp 17), none⟩, ⟨(some 20), .load 28 (.tmp 19), none⟩, ⟨(some 21), .move (.tmp 1), none⟩, ⟨(some 22), .move (.tmp 2), none⟩, ⟨(some 23), .call ⟨.value (.func 90), #[.tmp 20, .tmp 21, .tmp 22], #[28, 3, 4]⟩, none⟩, ⟨(some 15), .move (.tmp 23), none⟩, ⟨(some 24), .extract (.tmp 15) 0, none⟩, ⟨(some 25), .extract (.tmp 15) 1, none⟩, ⟨(some 26), .fieldAddr 35 (.tmp 3) 0, none⟩, ⟨(some 27), .indexAddr 29 (.tmp 26) (.tmp 16), none⟩, ⟨none, .store 28 (.tmp 27) (.tmp 24), none⟩]
abbrev s41_7 : SC := .block 1 s41_6
abbrev s41_8 : SC := .region [⟨(some 13), .move (.tmp 7), none⟩, ⟨(some 14), .binOp .add 3 (.tmp 13) (.const (.int .i64 1)) 3, none⟩, ⟨(some 7), .assign (.tmp 14), none⟩]
abbrev s41_9 : SC := .seq s41_7 s41_8
abbrev s41_10 : SC := .seq s41_5 s41_9
abbrev s41_11 : SC := .loop s41_10
abbrev s41_12 : SC := .block 0 s41_11
abbrev s41_13 : SC := .seq s41_2 s41_12
abbrev s41_14 : SC := .region [⟨(some 8), .assign (.const (.int .i64 0)), none⟩]
abbrev s41_15 : SC := .region [⟨(some 28), .move (.tmp 8), none⟩, ⟨(some 29), .binOp .lss 3 (.tmp 28) (.const (.int .i64 64)) 3, none⟩]
abbrev s41_16 : SC := .cond (.tmp 29) .skip (.exit 2)
abbrev s41_17 : SC := .seq s41_15 s41_16
abbrev s41_18 : SC := .region [⟨(some 32), .move (.tmp 8), none⟩, ⟨(some 33), .fieldAddr 35 (.tmp 3) 1, none⟩, ⟨(some 34), .indexAddr 32 (.tmp 33) (.tmp 32), none⟩, ⟨(some 35), .fieldAddr 31 (.tmp 34) 0, none⟩, ⟨(some 36), .load 3 (.tmp 35), none⟩, ⟨(some 37), .binOp .eql 3 (.tmp 36) (.const (.int .i64 2)) 3, none⟩]
abbrev s41_19 : SC := .region [⟨(some 39), .move (.tmp 8), none⟩, ⟨(some 40), .move (.tmp 8), none⟩, ⟨(some 41), .fieldAddr 35 (.tmp 3) 1, none⟩, ⟨(some 42), .indexAddr 32 (.tmp 41) (.tmp 40), none⟩, ⟨(some 43), .fieldAddr 31 (.tmp 42) 2, none⟩, ⟨(some 44), .load 28 (.tmp 43), none⟩, ⟨(some 45), .move (.tmp 1), none⟩, ⟨(some 46), .move (.tmp 2), none⟩, ⟨(some 47), .call ⟨.value (.func 90), #[.tmp 44, .tmp 45, .tmp 46], #[28, 3, 4]⟩, none⟩, ⟨(some 38), .move (.tmp 47), none⟩, ⟨(some 48), .extract (.tmp 38) 0, none⟩, ⟨(some 49), .extract (.tmp 38) 1, none⟩, ⟨(some 50), .fieldAddr 35 (.tmp 3) 1, none⟩, ⟨(some 51), .indexAddr 32 (.tmp 50) (.tmp 39), none⟩, ⟨(some 52), .fieldAddr 31 (.tmp 51) 2, none⟩, ⟨none, .store 28 (.tmp 52) (.tmp 48), none⟩]
abbrev s41_20 : SC := .cond (.tmp 37) s41_19 .skip
abbrev s41_21 : SC := .seq s41_18 s41_20
abbrev s41_22 : SC := .block 3 s41_21
abbrev s41_23 : SC := .region [⟨(some 30), .move (.tmp 8), none⟩, ⟨(some 31), .binOp .add 3 (.tmp 30) (.const (.int .i64 1)) 3, none⟩, ⟨(some 8), .assign (.tmp 31), none⟩]
abbrev s41_24 : SC := .seq s41_22 s41_23
abbrev s41_25 : SC := .seq s41_17 s41_24
abbrev s41_26 : SC := .loop s41_25
abbrev s41_27 : SC := .block 2 s41_26
abbrev s41_28 : SC := .seq s41_14 s41_27
abbrev s41_29 : SC := .region [⟨(some 53), .move (.tmp 2), none⟩]
abbrev s41_30 : SC := .region [⟨(some 54), .fieldAddr 35 (.tmp 3) 3, none⟩, ⟨(some 55), .load 33 (.tmp 54), none⟩, ⟨(some 56), .move (.tmp 1), none⟩, ⟨(some 57), .call ⟨.value (.func 91), #[.tmp 55, .tmp 56], #[33, 3]⟩, none⟩, ⟨(some 58), .fieldAddr 35 (.tmp 3) 3, none⟩, ⟨none, .store 33 (.tmp 58) (.tmp 57), none⟩]
abbrev s41_31 : SC := .cond (.tmp 53) s41_30 .skip
abbrev s41_32 : SC := .seq s41_29 s41_31
abbrev s41_33 : SC := .region [⟨(some 59), .load 35 (.tmp 3), none⟩, ⟨none, .store 35 (.tmp 6) (.tmp 59), none⟩]
abbrev s41_34 : SC := .seq s41_33 .ret
abbrev s41_35 : SC := .seq s41_32 s41_34
abbrev s41_36 : SC := .seq s41_28 s41_35
abbrev s41_37 : SC := .seq s41_13 s41_36
abbrev s41_38 : SC := .seq s41_1 s41_37
abbrev s41_39 : SC := .seq s41_0 s41_38
noncomputable def c41 : Code := match Try.f41.body with | some c => c | none => .skip
theorem b41 : Try.f41.body = some c41 := by kernel_rfl
theorem sc41 : toSC C41 c41 = some s41_39 := by kernel_rfl
set_option maxRecDepth 100000 in
theorem run41 {args : List AV} {H : Heap} {R : Out → Heap → Prop} (hl : args.length ≤ 60) (h : SWp Try.prog C41 s41_39 (finK [.cell 6 35] R) ⟨argSlots 0 args, [], H⟩) : ∃ out H', CallRuns Try.prog 41 args H out H' ∧ R out H' :=
  callRuns_of (C := C41) (by kernel_rfl) hDS hZS Try.func41 b41 Try.ntmps41 Try.call41 sc41 (by kernel_rfl) hl h

-- function 39: portcullis/portcullisref18.Same
def C39 : Cfg := ⟨59, [2, 3], zget ztabS⟩
@[simp] theorem L39 : C39.L = [2, 3] := rfl
@[simp] theorem Z39 : C39.Z = zget ztabS := rfl
abbrev s39_0 : SC := .region [⟨(some 2), .box 35 (.tmp 0), none⟩, ⟨(some 3), .box 35 (.tmp 1), none⟩, ⟨(some 4), .assign (.const (.bool false)), none⟩]
abbrev s39_1 : SC := .region [⟨(some 6), .fieldAddr 35 (.tmp 2) 3, none⟩, ⟨(some 7), .load 33 (.tmp 6), none⟩, ⟨(some 8), .call ⟨.builtin .len, #[.tmp 7], #[33]⟩, none⟩, ⟨(some 9), .fieldAddr 35 (.tmp 3) 3, none⟩, ⟨(some 10), .load 33 (.tmp 9), none⟩, ⟨(some 11), .call ⟨.builtin .len, #[.tmp 10], #[33]⟩, none⟩, ⟨(some 12), .binOp .neq 3 (.tmp 8) (.tmp 11) 3, none⟩, ⟨(some 13), .move (.tmp 12), none⟩, ⟨(some 14), .fieldAddr 35 (.tmp 2) 0, (some (13, false))⟩, ⟨(some 15), .load 29 (.tmp 14), (some (13, false))⟩, ⟨(some 16), .fieldAddr 35 (.tmp 3) 0, (some (13, false))⟩, ⟨(some 17), .load 29 (.tmp 16), (some (13, false))⟩, ⟨(some 18), .binOp .neq 29 (.tmp 15) (.tmp 17) 29, (some (13, false))⟩, ⟨(some 19), .pick (.tmp 13) (.const (.bool true)) (.tmp 18), none⟩, ⟨(some 20), .move (.tmp 19), none⟩, ⟨(some 21), .fieldAddr 35 (.tmp 2) 1, (some (20, false))⟩, ⟨(some 22), .load 32 (.tmp 21), (some (20, false))⟩, ⟨(some 23), .fieldAddr 35 (.tmp 3) 1, (some (20, false))⟩, ⟨(some 24), .load 32 (.tmp 23), (some (20, false))⟩, ⟨(some 25), .binOp .neq 32 (.tmp 22) (.tmp 24) 32, (some (20, false))⟩, ⟨(some 26), .pick (.tmp 20) (.const (.bool true)) (.tmp 25), none⟩, ⟨(some 27), .move (.tmp 26), none⟩, ⟨(some 28), .fieldAddr 35 (.tmp 2) 2, (some (27, false))⟩, ⟨(some 29), .load 3 (.tmp 28), (some (27, false))⟩, ⟨(some 30), .fieldAddr 35 (.tmp 3) 2, (some (27, false))⟩, ⟨(some 31), .load 3 (.tmp 30), (some (27, false))⟩, ⟨(some 32), .binOp .neq 3 (.tmp 29) (.tmp 31) 3, (some (27, false))⟩, ⟨(some 33), .pick (.tmp 27) (.const (.bool true)) (.tmp 32), none⟩, ⟨(some 34), .move (.tmp 33), none⟩, ⟨(some 35), .fieldAddr 35 (.tmp 2) 4, (some (34, false))⟩, ⟨(some 36), .load 3 (.tmp 35), (some (34, false))⟩, ⟨(some 37), .fieldAddr 35 (.tmp 3) 4, (some (34, false))⟩, ⟨(some 38), .load 3 (.tmp 37), (some (34, false))⟩, ⟨(some 39), .binOp .neq 3 (.tmp 36) (.tmp 38) 3, (some (34, false))⟩, ⟨(some 40), .pick (.tmp 34) (.const (.bool true)) (.tmp 39), none⟩]
abbrev s39_2 : SC := .region [⟨(some 4), .assign (.const (.bool false)), none⟩]
abbrev s39_3 : SC := .seq s39_2 .ret
abbrev s39_4 : SC := .cond (.tmp 40) s39_3 .skip
abbrev s39_5 : SC := .seq s39_1 s39_4
abbrev s39_6 : SC := .region [⟨(some 5), .assign (.const (.int .i64 0)), none⟩]
abbrev s39_7 : SC := .region [⟨(some 41), .move (.tmp 5), none⟩, ⟨(some 42), .fieldAddr 35 (.tmp 2) 3, none⟩, ⟨(some 43), .load 33 (.tmp 42), none⟩, ⟨(some 44), .call ⟨.builtin .len, #[.tmp 43], #[33]⟩, none⟩, ⟨(some 45), .binOp .lss 3 (.tmp 41) (.tmp 44) 3, none⟩]
abbrev s39_8 : SC := .cond (.tmp 45) .skip (.exit 0)
abbrev s39_9 : SC := .seq s39_7 s39_8
abbrev s39_10 : SC := .draw [(⟨(some 48), .fieldAddr 35 (.tmp 2) 3, none⟩, ⟨[], [], false, false⟩), (⟨(some 49), .load 33 (.tmp 48), none⟩, ⟨[2], [], false, false⟩), (⟨(some 50), .move (.tmp 5), none⟩, ⟨[], [], false, false⟩), (⟨(some 51), .indexAddr 33 (.tmp 49) (.tmp 50), none⟩, ⟨[], [], false, false⟩), (⟨(some 52), .load 3 (.tmp 51), none⟩, ⟨[2, 3], [], true, false⟩), (⟨(some 53), .fieldAddr 35 (.tmp 3) 3, none⟩, ⟨[], [], false, false⟩), (⟨(some 54), .load 33 (.tmp 53), none⟩, ⟨[3], [], false, false⟩), (⟨(some 55), .move (.tmp 5), none⟩, ⟨[], [], false, false⟩), (⟨(some 56), .indexAddr 33 (.tmp 54) (.tmp 55), none⟩, ⟨[], [], false, false⟩), (⟨(some 57), .load 3 (.tmp 56), none⟩, ⟨[2, 3], [], true, false⟩), (⟨(some 58), .binOp .neq 3 (.tmp 52) (.tmp 57) 3, none⟩, ⟨[], [], false, false⟩)]
abbrev s39_11 : SC := .region [⟨(some 4), .assign (.const (.bool false)), none⟩]
abbrev s39_12 : SC := .seq s39_11 .ret
abbrev s39_13 : SC := .cond (.tmp 58) s39_12 .skip
abbrev s39_14 : SC := .seq s39_10 s39_13
abbrev s39_15 : SC := .block 1 s39_14
abbrev s39_16 : SC := .region [⟨(some 46), .move (.tmp 5), none⟩, ⟨(some 47), .binOp .add 3 (.tmp 46) (.const (.int .i64 1)) 3, none⟩, ⟨(some 5), .assign (.tmp 47), none⟩]
abbrev s39_17 : SC := .seq s39_15 s39_16
abbrev s39_18 : SC := .seq s39_9 s39_17
abbrev s39_19 : SC := .loop s39_18
abbrev s39_20 : SC := .block 0 s39_19
abbrev s39_21 : SC := .seq s39_6 s39_20
abbrev s39_22 : SC := .region [⟨(some 4), .assign (.const (.bool true)), none⟩]
abbrev s39_23 : SC := .seq s39_22 .ret
abbrev s39_24 : SC := .seq s39_21 s39_23
abbrev s39_25 : SC := .seq s39_5 s39_24
abbrev s39_26 : SC := .seq s39_0 s39_25
noncomputable def c39 : Code := match Try.f39.body with | some c => c | none => .skip
theorem b39 : Try.f39.body = some c39 := by kernel_rfl
theorem sc39 : toSC C39 c39 = some s39_26 := by kernel_rfl
set_option maxRecDepth 100000 in
theorem run39 {args : List AV} {H : Heap} {R : Out → Heap → Prop} (hl : args.length ≤ 59) (h : SWp Try.prog C39 s39_26 (finK [.tmp 4] R) ⟨argSlots 0 args, [], H⟩) : ∃ out H', CallRuns Try.prog 39 args H out H' ∧ R out H' :=
  callRuns_of (C := C39) (by kernel_rfl) hDS hZS Try.func39 b39 Try.ntmps39 Try.call39 sc39 (by kernel_rfl) hl h

-- function 92: portcullis/state.Lose$1
def C92 : Cfg := ⟨13, [1, 2], zget ztabS⟩
@[simp] theorem L92 : C92.L = [1, 2] := rfl
@[simp] theorem Z92 : C92.Z = zget ztabS := rfl
abbrev s92_0 : SC := .region [⟨(some 1), .box 28 (.tmp 0), none⟩, ⟨(some 2), .alloc 28, none⟩]
abbrev s92_1 : SC := .region [⟨(some 3), .fieldAddr 28 (.tmp 1) 0, none⟩, ⟨(some 4), .load 3 (.tmp 3), none⟩, ⟨(some 5), .binOp .eql 3 (.tmp 4) (.const (.int .i64 4)) 3, none⟩, ⟨(some 6), .move (.tmp 5), none⟩, ⟨(some 7), .fieldAddr 28 (.tmp 1) 0, (some (6, false))⟩, ⟨(some 8), .load 3 (.tmp 7), (some (6, false))⟩, ⟨(some 9), .binOp .eql 3 (.tmp 8) (.const (.int .i64 5)) 3, (some (6, false))⟩, ⟨(some 10), .pick (.tmp 6) (.const (.bool true)) (.tmp 9), none⟩]
abbrev s92_2 : SC := .region [⟨(some 11), .build 28 #[], none⟩, ⟨none, .store 28 (.tmp 2) (.tmp 11), none⟩]
abbrev s92_3 : SC := .seq s92_2 .ret
abbrev s92_4 : SC := .cond (.tmp 10) s92_3 .skip
abbrev s92_5 : SC := .seq s92_1 s92_4
abbrev s92_6 : SC := .region [⟨(some 12), .load 28 (.tmp 1), none⟩, ⟨none, .store 28 (.tmp 2) (.tmp 12), none⟩]
abbrev s92_7 : SC := .seq s92_6 .ret
abbrev s92_8 : SC := .seq s92_5 s92_7
abbrev s92_9 : SC := .seq s92_0 s92_8
noncomputable def c92 : Code := match Try.f92.body with | some c => c | none => .skip
theorem b92 : Try.f92.body = some c92 := by kernel_rfl
theorem sc92 : toSC C92 c92 = some s92_9 := by kernel_rfl
set_option maxRecDepth 100000 in
theorem run92 {args : List AV} {H : Heap} {R : Out → Heap → Prop} (hl : args.length ≤ 13) (h : SWp Try.prog C92 s92_9 (finK [.cell 2 28] R) ⟨argSlots 0 args, [], H⟩) : ∃ out H', CallRuns Try.prog 92 args H out H' ∧ R out H' :=
  callRuns_of (C := C92) (by kernel_rfl) hDS hZS Try.func92 b92 Try.ntmps92 Try.call92 sc92 (by kernel_rfl) hl h

-- function 42: portcullis/state.Lose
def C42 : Cfg := ⟨7, [1, 2], zget ztabS⟩
@[simp] theorem L42 : C42.L = [1, 2] := rfl
@[simp] theorem Z42 : C42.Z = zget ztabS := rfl
abbrev s42_0 : SC := .region [⟨(some 1), .box 35 (.tmp 0), none⟩, ⟨(some 2), .alloc 35, none⟩]
abbrev s42_1 : SC := .region [⟨(some 3), .load 35 (.tmp 1), none⟩, ⟨(some 4), .call ⟨.value (.func 86), #[.tmp 3, .func 92], #[35, 109]⟩, none⟩, ⟨none, .store 35 (.tmp 1) (.tmp 4), none⟩]
abbrev s42_2 : SC := .region [⟨(some 5), .fieldAddr 35 (.tmp 1) 2, none⟩, ⟨none, .store 3 (.tmp 5) (.const (.int .i64 0)), none⟩]
abbrev s42_3 : SC := .region [⟨(some 6), .load 35 (.tmp 1), none⟩, ⟨none, .store 35 (.tmp 2) (.tmp 6), none⟩]
abbrev s42_4 : SC := .seq s42_3 .ret
abbrev s42_5 : SC := .seq s42_2 s42_4
abbrev s42_6 : SC := .seq s42_1 s42_5
abbrev s42_7 : SC := .seq s42_0 s42_6
noncomputable def c42 : Code := match Try.f42.body with | some c => c | none => .skip
theorem b42 : Try.f42.body = some c42 := by kernel_rfl
theorem sc42 : toSC C42 c42 = some s42_7 := by kernel_rfl
set_option maxRecDepth 100000 in
theorem run42 {args : List AV} {H : Heap} {R : Out → Heap → Prop} (hl : args.length ≤ 7) (h : SWp Try.prog C42 s42_7 (finK [.cell 2 35] R) ⟨argSlots 0 args, [], H⟩) : ∃ out H', CallRuns Try.prog 42 args H out H' ∧ R out H' :=
  callRuns_of (C := C42) (by kernel_rfl) hDS hZS Try.func42 b42 Try.ntmps42 Try.call42 sc42 (by kernel_rfl) hl h

-- function 121: portcullis/portcullisref18.gone
def C121 : Cfg := ⟨24, [2], zget ztabS⟩
@[simp] theorem L121 : C121.L = [2] := rfl
@[simp] theorem Z121 : C121.Z = zget ztabS := rfl
abbrev s121_0 : SC := .region [⟨(some 2), .box 28 (.tmp 0), none⟩, ⟨(some 4), .assign (.const (.bool false)), none⟩]
abbrev s121_1 : SC := .region [⟨(some 5), .move (.tmp 1), none⟩, ⟨(some 6), .binOp .lss 3 (.tmp 5) (.const (.int .i64 0)) 3, none⟩]
abbrev s121_2 : SC := .region [⟨(some 7), .fieldAddr 28 (.tmp 2) 0, none⟩, ⟨(some 8), .load 3 (.tmp 7), none⟩, ⟨(some 9), .binOp .eql 3 (.tmp 8) (.const (.int .i64 4)) 3, none⟩, ⟨(some 10), .move (.tmp 9), none⟩, ⟨(some 11), .fieldAddr 28 (.tmp 2) 0, (some (10, false))⟩, ⟨(some 12), .load 3 (.tmp 11), (some (10, false))⟩, ⟨(some 13), .binOp .eql 3 (.tmp 12) (.const (.int .i64 5)) 3, (some (10, false))⟩, ⟨(some 14), .pick (.tmp 10) (.const (.bool true)) (.tmp 13), none⟩, ⟨(some 4), .assign (.tmp 14), none⟩]
abbrev s121_3 : SC := .seq s121_2 .ret
abbrev s121_4 : SC := .cond (.tmp 6) s121_3 .skip
abbrev s121_5 : SC := .seq s121_1 s121_4
abbrev s121_6 : SC := .region [⟨(some 15), .fieldAddr 28 (.tmp 2) 0, none⟩, ⟨(some 16), .load 3 (.tmp 15), none⟩, ⟨(some 17), .binOp .eql 3 (.tmp 16) (.const (.int .i64 9)) 3, none⟩, ⟨(some 18), .move (.tmp 17), none⟩, ⟨(some 19), .fieldAddr 28 (.tmp 2) 3, (some (18, true))⟩, ⟨(some 20), .load 3 (.tmp 19), (some (18, true))⟩, ⟨(some 21), .move (.tmp 1), (some (18, true))⟩, ⟨(some 22), .binOp .eql 3 (.tmp 20) (.tmp 21) 3, (some (18, true))⟩, ⟨(some 23), .pick (.tmp 18) (.tmp 22) (.const (.bool false)), none⟩, ⟨(some 4), .assign (.tmp 23), none⟩]
abbrev s121_7 : SC := .seq s121_6 .ret
abbrev s121_8 : SC := .seq s121_5 s121_7
abbrev s121_9 : SC := .seq s121_0 s121_8
noncomputable def c121 : Code := match Try.f121.body with | some c => c | none => .skip
theorem b121 : Try.f121.body = some c121 := by kernel_rfl
theorem sc121 : toSC C121 c121 = some s121_9 := by kernel_rfl
set_option maxRecDepth 100000 in
theorem run121 {args : List AV} {H : Heap} {R : Out → Heap → Prop} (hl : args.length ≤ 24) (h : SWp Try.prog C121 s121_9 (finK [.tmp 4] R) ⟨argSlots 0 args, [], H⟩) : ∃ out H', CallRuns Try.prog 121 args H out H' ∧ R out H' :=
  callRuns_of (C := C121) (by kernel_rfl) hDS hZS Try.func121 b121 Try.ntmps121 Try.call121 sc121 (by kernel_rfl) hl h

-- function 93: portcullis/portcullisref18.lose
def C93 : Cfg := ⟨47, [2, 4], zget ztabS⟩
@[simp] theorem L93 : C93.L = [2, 4] := rfl
@[simp] theorem Z93 : C93.Z = zget ztabS := rfl
abbrev s93_0 : SC := .region [⟨(some 2), .box 35 (.tmp 0), none⟩, ⟨(some 4), .alloc 35, none⟩]
abbrev s93_1 : SC := .region [⟨(some 7), .load 35 (.tmp 2), none⟩, ⟨(some 8), .call ⟨.value (.func 38), #[.tmp 7], #[35]⟩, none⟩, ⟨none, .store 35 (.tmp 2) (.tmp 8), none⟩]
abbrev s93_2 : SC := .region [⟨(some 5), .assign (.const (.int .i64 0)), none⟩]
abbrev s93_3 : SC := .region [⟨(some 9), .move (.tmp 5), none⟩, ⟨(some 10), .binOp .lss 3 (.tmp 9) (.const (.int .i64 11)) 3, none⟩]
abbrev s93_4 : SC := .cond (.tmp 10) .skip (.exit 0)
abbrev s93_5 : SC := .seq s93_3 s93_4
abbrev s93_6 : SC := .region [⟨(some 13), .move (.tmp 5), none⟩, ⟨(some 14), .fieldAddr 35 (.tmp 2) 0, none⟩, ⟨(some 15), .indexAddr 29 (.tmp 14) (.tmp 13), none⟩, ⟨(some 16), .load 28 (.tmp 15), none⟩, ⟨(some 17), .move (.tmp 1), none⟩, ⟨(some 18), .call ⟨.value (.func 121), #[.tmp 16, .tmp 17], #[28, 3]⟩, none⟩]
abbrev s93_7 : SC := .region [⟨(some 19), .move (.tmp 5), none⟩, ⟨(some 20), .build 28 #[], none⟩, ⟨(some 21), .fieldAddr 35 (.tmp 2) 0, none⟩, ⟨(some 22), .indexAddr 29 (.tmp 21) (.tmp 19), none⟩, ⟨none, .store 28 (.tmp 22) (.tmp 20), none⟩]
abbrev s93_8 : SC := .cond (.tmp 18) s93_7 .skip
abbrev s93_9 : SC := .seq s93_6 s93_8
abbrev s93_10 : SC := .block 1 s93_9
abbrev s93_11 : SC := .region [⟨(some 11), .move (.tmp 5), none⟩, ⟨(some 12), .binOp .add 3 (.tmp 11) (.const (.int .i64 1)) 3, none⟩, ⟨(some 5), .assign (.tmp 12), none⟩]
abbrev s93_12 : SC := .seq s93_10 s93_11
abbrev s93_13 : SC := .seq s93_5 s93_12
abbrev s93_14 : SC := .loop s93_13
abbrev s93_15 : SC := .block 0 s93_14
abbrev s93_16 : SC := .seq s93_2 s93_15
abbrev s93_17 : SC := .region [⟨(some 6), .assign (.const (.int .i64 0)), none⟩]
abbrev s93_18 : SC := .region [⟨(some 23), .move (.tmp 6), none⟩, ⟨(some 24), .binOp .lss 3 (.tmp 23) (.const (.int .i64 64)) 3, none⟩]
abbrev s93_19 : SC := .cond (.tmp 24) .skip (.exit 2)
abbrev s93_20 : SC := .seq s93_18 s93_19
abbrev s93_21 : SC := .region [⟨(some 27), .move (.tmp 6), none⟩, ⟨(some 28), .fieldAddr 35 (.tmp 2) 1, none⟩, ⟨(some 29), .indexAddr 32 (.tmp 28) (.tmp 27), none⟩, ⟨(some 30), .fieldAddr 31 (.tmp 29) 0, none⟩, ⟨(some 31), .load 3 (.tmp 30), none⟩, ⟨(some 32), .binOp .eql 3 (.tmp 31) (.const (.int .i64 2)) 3, none⟩, ⟨(some 33), .move (.tmp 32), none⟩, ⟨(some 34), .move (.tmp 6), (some (33, true))⟩, ⟨(some 35), .fieldAddr 35 (.tmp 2) 1, (some (33, true))⟩, ⟨(some 36), .indexAddr 32 (.tmp 35) (.tmp 34), (some (33, true))⟩, ⟨(some 37), .fieldAddr 31 (.tmp 36) 2, (some (33, true))⟩, ⟨(some 38), .load 28 (.tmp 37), (some (33, true))⟩, ⟨(some 39), .move (.tmp 1), (some (33, true))⟩, ⟨(some 40), .call ⟨.value (.func 121), #[.tmp 38, .tmp 39], #[28, 3]⟩, (some (33, true))⟩, ⟨(some 41), .pick (.tmp 33) (.tmp 40) (.const (.bool false)), none⟩]
abbrev s93_22 : SC := .region [⟨(some 42), .move (.tmp 6), none⟩, ⟨(some 43), .build 31 #[], none⟩, ⟨(some 44), .fieldAddr 35 (.tmp 2) 1, none⟩, ⟨(some 45), .indexAddr 32 (.tmp 44) (.tmp 42), none⟩, ⟨none, .store 31 (.tmp 45) (.tmp 43), none⟩]
abbrev s93_23 : SC := .cond (.tmp 41) s93_22 .skip
abbrev s93_24 : SC := .seq s93_21 s93_23
abbrev s93_25 : SC := .block 3 s93_24
abbrev s93_26 : SC := .region [⟨(some 25), .move (.tmp 6), none⟩, ⟨(some 26), .binOp .add 3 (.tmp 25) (.const (.int .i64 1)) 3, none⟩, ⟨(some 6), .assign (.tmp 26), none⟩]
abbrev s93_27 : SC := .seq s93_25 s93_26
abbrev s93_28 : SC := .seq s93_20 s93_27
abbrev s93_29 : SC := .loop s93_28
abbrev s93_30 : SC := .block 2 s93_29
abbrev s93_31 : SC := .seq s93_17 s93_30
abbrev s93_32 : SC := .region [⟨(some 46), .load 35 (.tmp 2), none⟩, ⟨none, .store 35 (.tmp 4) (.tmp 46), none⟩]
abbrev s93_33 : SC := .seq s93_32 .ret
abbrev s93_34 : SC := .seq s93_31 s93_33
abbrev s93_35 : SC := .seq s93_16 s93_34
abbrev s93_36 : SC := .seq s93_1 s93_35
abbrev s93_37 : SC := .seq s93_0 s93_36
noncomputable def c93 : Code := match Try.f93.body with | some c => c | none => .skip
theorem b93 : Try.f93.body = some c93 := by kernel_rfl
theorem sc93 : toSC C93 c93 = some s93_37 := by kernel_rfl
set_option maxRecDepth 100000 in
theorem run93 {args : List AV} {H : Heap} {R : Out → Heap → Prop} (hl : args.length ≤ 47) (h : SWp Try.prog C93 s93_37 (finK [.cell 4 35] R) ⟨argSlots 0 args, [], H⟩) : ∃ out H', CallRuns Try.prog 93 args H out H' ∧ R out H' :=
  callRuns_of (C := C93) (by kernel_rfl) hDS hZS Try.func93 b93 Try.ntmps93 Try.call93 sc93 (by kernel_rfl) hl h

-- function 43: portcullis/portcullisref18.Lose
def C43 : Cfg := ⟨7, [1, 2], zget ztabS⟩
@[simp] theorem L43 : C43.L = [1, 2] := rfl
@[simp] theorem Z43 : C43.Z = zget ztabS := rfl
abbrev s43_0 : SC := .region [⟨(some 1), .box 35 (.tmp 0), none⟩, ⟨(some 2), .alloc 35, none⟩]
abbrev s43_1 : SC := .region [⟨(some 3), .load 35 (.tmp 1), none⟩, ⟨(some 4), .call ⟨.value (.func 93), #[.tmp 3, .const (.int .i64 (-1))], #[35, 3]⟩, none⟩, ⟨none, .store 35 (.tmp 1) (.tmp 4), none⟩]
abbrev s43_2 : SC := .region [⟨(some 5), .fieldAddr 35 (.tmp 1) 2, none⟩, ⟨none, .store 3 (.tmp 5) (.const (.int .i64 0)), none⟩]
abbrev s43_3 : SC := .region [⟨(some 6), .load 35 (.tmp 1), none⟩, ⟨none, .store 35 (.tmp 2) (.tmp 6), none⟩]
abbrev s43_4 : SC := .seq s43_3 .ret
abbrev s43_5 : SC := .seq s43_2 s43_4
abbrev s43_6 : SC := .seq s43_1 s43_5
abbrev s43_7 : SC := .seq s43_0 s43_6
noncomputable def c43 : Code := match Try.f43.body with | some c => c | none => .skip
theorem b43 : Try.f43.body = some c43 := by kernel_rfl
theorem sc43 : toSC C43 c43 = some s43_7 := by kernel_rfl
set_option maxRecDepth 100000 in
theorem run43 {args : List AV} {H : Heap} {R : Out → Heap → Prop} (hl : args.length ≤ 7) (h : SWp Try.prog C43 s43_7 (finK [.cell 2 35] R) ⟨argSlots 0 args, [], H⟩) : ∃ out H', CallRuns Try.prog 43 args H out H' ∧ R out H' :=
  callRuns_of (C := C43) (by kernel_rfl) hDS hZS Try.func43 b43 Try.ntmps43 Try.call43 sc43 (by kernel_rfl) hl h

-- function 94: portcullis/state.Forget$1
def C94 : Cfg := ⟨15, [2, 3], zget ztabS⟩
@[simp] theorem L94 : C94.L = [2, 3] := rfl
@[simp] theorem Z94 : C94.Z = zget ztabS := rfl
abbrev s94_0 : SC := .region [⟨(some 2), .box 28 (.tmp 0), none⟩, ⟨(some 3), .alloc 28, none⟩]
abbrev s94_1 : SC := .region [⟨(some 4), .fieldAddr 28 (.tmp 2) 0, none⟩, ⟨(some 5), .load 3 (.tmp 4), none⟩, ⟨(some 6), .binOp .eql 3 (.tmp 5) (.const (.int .i64 9)) 3, none⟩, ⟨(some 7), .move (.tmp 6), none⟩, ⟨(some 8), .fieldAddr 28 (.tmp 2) 3, (some (7, true))⟩, ⟨(some 9), .load 3 (.tmp 8), (some (7, true))⟩, ⟨(some 10), .load 3 (.tmp 1), (some (7, true))⟩, ⟨(some 11), .binOp .eql 3 (.tmp 9) (.tmp 10) 3, (some (7, true))⟩, ⟨(some 12), .pick (.tmp 7) (.tmp 11) (.const (.bool false)), none⟩]
abbrev s94_2 : SC := .region [⟨(some 13), .build 28 #[], none⟩, ⟨none, .store 28 (.tmp 3) (.tmp 13), none⟩]
abbrev s94_3 : SC := .seq s94_2 .ret
abbrev s94_4 : SC := .cond (.tmp 12) s94_3 .skip
abbrev s94_5 : SC := .seq s94_1 s94_4
abbrev s94_6 : SC := .region [⟨(some 14), .load 28 (.tmp 2), none⟩, ⟨none, .store 28 (.tmp 3) (.tmp 14), none⟩]
abbrev s94_7 : SC := .seq s94_6 .ret
abbrev s94_8 : SC := .seq s94_5 s94_7
abbrev s94_9 : SC := .seq s94_0 s94_8
noncomputable def c94 : Code := match Try.f94.body with | some c => c | none => .skip
theorem b94 : Try.f94.body = some c94 := by kernel_rfl
theorem sc94 : toSC C94 c94 = some s94_9 := by kernel_rfl
set_option maxRecDepth 100000 in
theorem run94 {args : List AV} {H : Heap} {R : Out → Heap → Prop} (hl : args.length ≤ 15) (h : SWp Try.prog C94 s94_9 (finK [.cell 3 28] R) ⟨argSlots 0 args, [], H⟩) : ∃ out H', CallRuns Try.prog 94 args H out H' ∧ R out H' :=
  callRuns_of (C := C94) (by kernel_rfl) hDS hZS Try.func94 b94 Try.ntmps94 Try.call94 sc94 (by kernel_rfl) hl h

-- function 44: portcullis/state.Forget
def C44 : Cfg := ⟨10, [2, 4], zget ztabS⟩
@[simp] theorem L44 : C44.L = [2, 4] := rfl
@[simp] theorem Z44 : C44.Z = zget ztabS := rfl
abbrev s44_0 : SC := .region [⟨(some 2), .box 35 (.tmp 0), none⟩, ⟨(some 3), .box 3 (.tmp 1), none⟩, ⟨(some 4), .alloc 35, none⟩]
abbrev s44_1 : SC := .draws 4 [(⟨(some 5), .load 35 (.tmp 2), none⟩, ⟨[2], [], false, false⟩), (⟨(some 6), .makeFunc (.func 94) #[] #[.tmp 3], none⟩, ⟨[], [], false, false⟩), (⟨(some 7), .call ⟨.value (.func 86), #[.tmp 5, .tmp 6], #[35, 109]⟩, none⟩, ⟨[], [], true, true⟩), (⟨(some 8), .load 3 (.tmp 3), none⟩, ⟨[1000000], [], false, false⟩), (⟨(some 9), .call ⟨.value (.func 89), #[.tmp 7, .tmp 8], #[35, 3]⟩, none⟩, ⟨[], [], true, true⟩), (⟨none, .store 35 (.tmp 4) (.tmp 9), none⟩, ⟨[], [4], false, false⟩)]
abbrev s44_2 : SC := .seq s44_1 .ret
abbrev s44_3 : SC := .seq s44_0 s44_2
noncomputable def c44 : Code := match Try.f44.body with | some c => c | none => .skip
theorem b44 : Try.f44.body = some c44 := by kernel_rfl
theorem sc44 : toSC C44 c44 = some s44_3 := by kernel_rfl
set_option maxRecDepth 100000 in
theorem run44 {args : List AV} {H : Heap} {R : Out → Heap → Prop} (hl : args.length ≤ 10) (h : SWp Try.prog C44 s44_3 (finK [.cell 4 35] R) ⟨argSlots 0 args, [], H⟩) : ∃ out H', CallRuns Try.prog 44 args H out H' ∧ R out H' :=
  callRuns_of (C := C44) (by kernel_rfl) hDS hZS Try.func44 b44 Try.ntmps44 Try.call44 sc44 (by kernel_rfl) hl h

-- function 45: portcullis/portcullisref18.Forget
def C45 : Cfg := ⟨18, [2, 4], zget ztabS⟩
@[simp] theorem L45 : C45.L = [2, 4] := rfl
@[simp] theorem Z45 : C45.Z = zget ztabS := rfl
abbrev s45_0 : SC := .region [⟨(some 2), .box 35 (.tmp 0), none⟩, ⟨(some 4), .alloc 35, none⟩]
abbrev s45_1 : SC := .region [⟨(some 5), .move (.tmp 1), none⟩, ⟨(some 6), .binOp .geq 3 (.tmp 5) (.const (.int .i64 0)) 3, none⟩]
abbrev s45_2 : SC := .region [⟨(some 7), .load 35 (.tmp 2), none⟩, ⟨(some 8), .move (.tmp 1), none⟩, ⟨(some 9), .call ⟨.value (.func 93), #[.tmp 7, .tmp 8], #[35, 3]⟩, none⟩, ⟨none, .store 35 (.tmp 2) (.tmp 9), none⟩]
abbrev s45_3 : SC := .cond (.tmp 6) s45_2 .skip
abbrev s45_4 : SC := .seq s45_1 s45_3
abbrev s45_5 : SC := .region [⟨(some 10), .load 35 (.tmp 2), none⟩, ⟨(some 11), .call ⟨.value (.func 38), #[.tmp 10], #[35]⟩, none⟩, ⟨none, .store 35 (.tmp 2) (.tmp 11), none⟩]
abbrev s45_6 : SC := .region [⟨(some 12), .fieldAddr 35 (.tmp 2) 3, none⟩, ⟨(some 13), .load 33 (.tmp 12), none⟩, ⟨(some 14), .move (.tmp 1), none⟩, ⟨(some 15), .call ⟨.value (.func 91), #[.tmp 13, .tmp 14], #[33, 3]⟩, none⟩, ⟨(some 16), .fieldAddr 35 (.tmp 2) 3, none⟩, ⟨none, .store 33 (.tmp 16) (.tmp 15), none⟩]
abbrev s45_7 : SC := .region [⟨(some 17), .load 35 (.tmp 2), none⟩, ⟨none, .store 35 (.tmp 4) (.tmp 17), none⟩]
abbrev s45_8 : SC := .seq s45_7 .ret
abbrev s45_9 : SC := .seq s45_6 s45_8
abbrev s45_10 : SC := .seq s45_5 s45_9
abbrev s45_11 : SC := .seq s45_4 s45_10
abbrev s45_12 : SC := .seq s45_0 s45_11
noncomputable def c45 : Code := match Try.f45.body with | some c => c | none => .skip
theorem b45 : Try.f45.body = some c45 := by kernel_rfl
theorem sc45 : toSC C45 c45 = some s45_12 := by kernel_rfl
set_option maxRecDepth 100000 in
theorem run45 {args : List AV} {H : Heap} {R : Out → Heap → Prop} (hl : args.length ≤ 18) (h : SWp Try.prog C45 s45_12 (finK [.cell 4 35] R) ⟨argSlots 0 args, [], H⟩) : ∃ out H', CallRuns Try.prog 45 args H out H' ∧ R out H' :=
  callRuns_of (C := C45) (by kernel_rfl) hDS hZS Try.func45 b45 Try.ntmps45 Try.call45 sc45 (by kernel_rfl) hl h

-- function 10: portcullis/portcullislaw18.StateChanges
def C10 : Cfg := ⟨53, [3, 7], zget ztabS⟩
@[simp] theorem L10 : C10.L = [3, 7] := rfl
@[simp] theorem Z10 : C10.Z = zget ztabS := rfl
abbrev s10_0 : SC := .region [⟨(some 3), .box 35 (.tmp 0), none⟩, ⟨(some 6), .assign (.const (.bool false)), none⟩]
abbrev s10_1 : SC := .region [⟨(some 9), .load 35 (.tmp 3), none⟩, ⟨(some 10), .call ⟨.value (.func 14), #[.tmp 9], #[35]⟩, none⟩, ⟨(some 11), .unOp .not 4 (.tmp 10), none⟩]
abbrev s10_2 : SC := .region [⟨(some 12), .call ⟨.value (.func 15), #[], #[]⟩, none⟩, ⟨(some 6), .assign (.tmp 12), none⟩]
abbrev s10_3 : SC := .seq s10_2 .ret
abbrev s10_4 : SC := .cond (.tmp 11) s10_3 .skip
abbrev s10_5 : SC := .seq s10_1 s10_4
abbrev s10_6 : SC := .region [⟨(some 13), .load 35 (.tmp 3), none⟩, ⟨(some 14), .call ⟨.value (.func 38), #[.tmp 13], #[35]⟩, none⟩, ⟨(some 7), .alloc 35, none⟩, ⟨none, .store 35 (.tmp 7) (.tmp 14), none⟩]
abbrev s10_7 : SC := .draw [(⟨(some 15), .load 35 (.tmp 3), none⟩, ⟨[3], [], false, false⟩), (⟨(some 16), .move (.tmp 1), none⟩, ⟨[], [], false, false⟩), (⟨(some 17), .move (.tmp 2), none⟩, ⟨[], [], false, false⟩), (⟨(some 18), .call ⟨.value (.func 40), #[.tmp 15, .tmp 16, .tmp 17], #[35, 3, 4]⟩, none⟩, ⟨[], [], true, true⟩), (⟨(some 19), .load 35 (.tmp 7), none⟩, ⟨[7], [], false, false⟩), (⟨(some 20), .move (.tmp 1), none⟩, ⟨[], [], false, false⟩), (⟨(some 21), .move (.tmp 2), none⟩, ⟨[], [], false, false⟩), (⟨(some 22), .call ⟨.value (.func 41), #[.tmp 19, .tmp 20, .tmp 21], #[35, 3, 4]⟩, none⟩, ⟨[], [], true, true⟩), (⟨(some 23), .call ⟨.value (.func 39), #[.tmp 18, .tmp 22], #[35, 35]⟩, none⟩, ⟨[], [], true, true⟩), (⟨(some 24), .move (.tmp 23), none⟩, ⟨[], [], false, false⟩), (⟨(some 25), .load 35 (.tmp 3), (some (24, true))⟩, ⟨[3], [], false, false⟩), (⟨(some 26), .call ⟨.value (.func 42), #[.tmp 25], #[35]⟩, (some (24, true))⟩, ⟨[], [], true, true⟩), (⟨(some 27), .load 35 (.tmp 7), (some (24, true))⟩, ⟨[7], [], false, false⟩), (⟨(some 28), .call ⟨.value (.func 43), #[.tmp 27], #[35]⟩, (some (24, true))⟩, ⟨[], [], true, true⟩), (⟨(some 29), .call ⟨.value (.func 39), #[.tmp 26, .tmp 28], #[35, 35]⟩, (some (24, true))⟩, ⟨[], [], true, true⟩), (⟨(some 30), .pick (.tmp 24) (.tmp 29) (.const (.bool false)), none⟩, ⟨[], [], false, false⟩), (⟨(some 31), .move (.tmp 30), none⟩, ⟨[], [], false, false⟩), (⟨(some 32), .move (.tmp 1), (some (31, true))⟩, ⟨[], [], false, false⟩), (⟨(some 33), .binOp .lss 3 (.tmp 32) (.const (.int .i64 0)) 3, (some (31, true))⟩, ⟨[], [], false, false⟩), (⟨(some 34), .move (.tmp 33), (some (31, true))⟩, ⟨[], [], false, false⟩), (⟨(some 35), .load 35 (.tmp 3), (some (34, false))⟩, ⟨[3], [], false, false⟩), (⟨(some 36), .move (.tmp 1), (some (34, false))⟩, ⟨[], [], false, false⟩), (⟨(some 37), .call ⟨.value (.func 44), #[.tmp 35, .tmp 36], #[35, 3]⟩, (some (34, false))⟩, ⟨[], [], true, true⟩), (⟨(some 38), .load 35 (.tmp 7), (some (34, false))⟩, ⟨[7], [], false, false⟩), (⟨(some 39), .move (.tmp 1), (some (34, false))⟩, ⟨[], [], false, false⟩), (⟨(some 40), .call ⟨.value (.func 45), #[.tmp 38, .tmp 39], #[35, 3]⟩, (some (34, false))⟩, ⟨[], [], true, true⟩), (⟨(some 41), .call ⟨.value (.func 39), #[.tmp 37, .tmp 40], #[35, 35]⟩, (some (34, false))⟩, ⟨[], [], true, true⟩), (⟨(some 42), .pick (.tmp 34) (.const (.bool true)) (.tmp 41), (some (31, true))⟩, ⟨[], [], false, false⟩), (⟨(some 43), .pick (.tmp 31) (.tmp 42) (.const (.bool false)), none⟩, ⟨[], [], false, false⟩), (⟨(some 8), .assign (.tmp 43), none⟩, ⟨[], [], false, false⟩)]
abbrev s10_8 : SC := .region [⟨(some 44), .move (.tmp 8), none⟩, ⟨(some 45), .move (.tmp 44), none⟩, ⟨(some 46), .load 35 (.tmp 3), (some (45, true))⟩, ⟨(some 47), .load 35 (.tmp 7), (some (45, true))⟩, ⟨(some 48), .call ⟨.value (.func 39), #[.tmp 46, .tmp 47], #[35, 35]⟩, (some (45, true))⟩, ⟨(some 49), .pick (.tmp 45) (.tmp 48) (.const (.bool false)), none⟩, ⟨(some 50), .move (.tmp 49), none⟩, ⟨(some 51), .call ⟨.value (.func 15), #[], #[]⟩, (some (50, true))⟩, ⟨(some 52), .pick (.tmp 50) (.tmp 51) (.const (.bool false)), none⟩, ⟨(some 6), .assign (.tmp 52), none⟩]
abbrev s10_9 : SC := .seq s10_8 .ret
abbrev s10_10 : SC := .seq s10_7 s10_9
abbrev s10_11 : SC := .seq s10_6 s10_10
abbrev s10_12 : SC := .seq s10_5 s10_11
abbrev s10_13 : SC := .seq s10_0 s10_12
noncomputable def c10 : Code := match Try.f10.body with | some c => c | none => .skip
theorem b10 : Try.f10.body = some c10 := by kernel_rfl
theorem sc10 : toSC C10 c10 = some s10_13 := by kernel_rfl
set_option maxRecDepth 100000 in
theorem run10 {args : List AV} {H : Heap} {R : Out → Heap → Prop} (hl : args.length ≤ 53) (h : SWp Try.prog C10 s10_13 (finK [.tmp 6] R) ⟨argSlots 0 args, [], H⟩) : ∃ out H', CallRuns Try.prog 10 args H out H' ∧ R out H' :=
  callRuns_of (C := C10) (by kernel_rfl) hDS hZS Try.func10 b10 Try.ntmps10 Try.call10 sc10 (by kernel_rfl) hl h

end Go.Proofs.Ytlonpljlojgclaa
