/- Part 4 of a proof: a layer that walks through Go code by evaluation, and contracts of functions; no condition. -/
import Derived.Test.YthihgffbljnbcaaGreatDoorK2
import Derived.KernelRfl
import Derived.Shelf.LaysM
import Derived.Shelf.Strconv.Itoa3
import Derived.Shelf.Sort.Plain
import Derived.Shelf.Slices.In.SortNone
import Derived.Test.YthihgffbljnbcaaGreatDoorProg
set_option linter.all false
section
set_option maxRecDepth 10000
namespace Go.Ly.Tr
def af65 : AF := ⟨2, 27, [.tmp 4], true, .seq (.rg false [ ⟨some 4, .mv (.c (.d .top (.bool false))), none⟩]) (.seq (.seq (.rg false [ ⟨some 6, .mv (.s 0), none⟩,  ⟨some 7, .len false (.s 6), none⟩,  ⟨some 8, .mv (.s 1), none⟩,  ⟨some 9, .len false (.s 8), none⟩,  ⟨some 10, .bin .neq 0 (.s 7) (.s 9), none⟩]) (.cond (.s 10) (.seq (.rg false [ ⟨some 4, .mv (.c (.d .top (.bool false))), none⟩]) .ret) .skip)) (.seq (.seq (.rg false [ ⟨some 5, .mv (.c (.d .top (.int .i64 0))), none⟩]) (.block 0 (.loop (.seq (.seq (.rg false [ ⟨some 11, .mv (.s 5), none⟩,  ⟨some 12, .mv (.s 0), none⟩,  ⟨some 13, .len false (.s 12), none⟩,  ⟨some 14, .bin .lss 0 (.s 11) (.s 13), none⟩]) (.cond (.s 14) .skip (.exit 0))) (.seq (.block 1 (.seq (.rg true [ ⟨some 17, .mv (.s 0), none⟩,  ⟨some 18, .mv (.s 5), none⟩,  ⟨some 19, .ia (.s 17) (.s 18) 4, none⟩,  ⟨some 20, .ld (.s 19) 4 true, none⟩,  ⟨some 21, .mv (.s 1), none⟩,  ⟨some 22, .mv (.s 5), none⟩,  ⟨some 23, .ia (.s 21) (.s 22) 4, none⟩,  ⟨some 24, .ld (.s 23) 4 true, none⟩,  ⟨some 25, .call false (.c (.fn 23 [] [])) [.s 20, .s 24], none⟩,  ⟨some 26, .un .not (.s 25), none⟩]) (.cond (.s 26) (.seq (.rg false [ ⟨some 4, .mv (.c (.d .top (.bool false))), none⟩]) .ret) .skip))) (.rg false [ ⟨some 15, .mv (.s 5), none⟩,  ⟨some 16, .bin .add 0 (.s 15) (.c (.d .top (.int .i64 1))), none⟩,  ⟨some 5, .mv (.s 16), none⟩])))))) (.seq (.rg false [ ⟨some 4, .mv (.c (.d .top (.bool true))), none⟩]) .ret)))⟩
theorem has65 : Has E 65 af65 := ⟨Go.Proofs.Tryz.f65, [], true, Go.Proofs.Tryz.func65, by decide, by kernel_rfl⟩
def af67 : AF := ⟨1, 4, [.tmp 2], true, .seq (.rg false [ ⟨some 1, .box (.s 0), none⟩,  ⟨some 2, .mv (.c (.d .top .nf)), none⟩]) (.seq (.rg false [ ⟨some 3, .mkfn 109 [] [.s 1], none⟩,  ⟨some 2, .mv (.s 3), none⟩]) .ret)⟩
theorem has67 : Has E 67 af67 := ⟨Go.Proofs.Tryz.f67, [], true, Go.Proofs.Tryz.func67, by decide, by kernel_rfl⟩
def af68 : AF := ⟨3, 48, [.cell 6 4 true], true, .seq (.rg false [ ⟨some 3, .box (.s 0), none⟩,  ⟨some 4, .box (.s 1), none⟩,  ⟨some 5, .box (.s 2), none⟩,  ⟨some 6, .alloc [.int .u8 0, .str [], .row 3 [], .row 4 []], none⟩]) (.seq (.seq (.rg false [ ⟨some 9, .ld (.s 3) 4 true, none⟩,  ⟨some 10, .call false (.c (.fn 102 [] [])) [.s 9], none⟩,  ⟨some 11, .un .not (.s 10), none⟩]) (.cond (.s 11) (.seq (.rg false [ ⟨some 12, .fa (.s 3) 2, none⟩,  ⟨some 13, .ld (.s 12) 1 false, none⟩,  ⟨some 14, .ld (.s 5) 1 false, none⟩,  ⟨some 15, .mkfn 72 [.s 14] [], none⟩,  ⟨some 16, .call false (.c (.fn 103 [] [])) [.s 13, .s 15], none⟩,  ⟨some 17, .fa (.s 3) 2, none⟩,  ⟨none, .st (.s 17) (.s 16) 1, none⟩]) (.seq (.rg false [ ⟨some 18, .fa (.s 3) 3, none⟩,  ⟨some 19, .ld (.s 18) 1 false, none⟩,  ⟨some 20, .mkfn 110 [] [.s 4, .s 5], none⟩,  ⟨some 21, .call false (.c (.fn 104 [] [])) [.s 19, .s 20], none⟩,  ⟨some 22, .fa (.s 3) 3, none⟩,  ⟨none, .st (.s 22) (.s 21) 1, none⟩]) (.seq (.rg false [ ⟨some 23, .ld (.s 3) 4 true, none⟩,  ⟨none, .st (.s 6) (.s 23) 4, none⟩]) .ret))) .skip)) (.seq (.rg false [ ⟨some 24, .ld (.s 4) 1 false, none⟩,  ⟨some 25, .call false (.c (.fn 52 [] [])) [.s 24], none⟩,  ⟨some 7, .mv (.s 25), none⟩]) (.seq (.rg false [ ⟨some 26, .fa (.s 3) 1, none⟩,  ⟨some 27, .ld (.s 26) 1 false, none⟩,  ⟨some 28, .mv (.s 7), none⟩,  ⟨some 29, .build [.bool false, .str [], .row 3 []] [(0, 1, .c (.d .top (.bool true))), (1, 1, .s 28)], none⟩,  ⟨some 30, .build [.str [], .bool false, .str [], .row 3 []] [(0, 1, .s 27), (1, 3, .s 29)], none⟩,  ⟨some 31, .bslice 1 4 [.s 30], none⟩,  ⟨some 32, .ld (.s 5) 1 false, none⟩,  ⟨some 33, .app (.s 31) (.s 32) 4 64, none⟩,  ⟨some 8, .alloc [.row 4 []], none⟩,  ⟨none, .st (.s 8) (.s 33) 1, none⟩]) (.seq (.rg false [ ⟨some 34, .ld (.s 4) 1 false, none⟩,  ⟨some 35, .call false (.c (.fn 111 [] [])) [.s 34], none⟩,  ⟨some 36, .mv (.s 7), none⟩,  ⟨some 37, .bslice 0 1 [.s 36], none⟩,  ⟨some 38, .app (.s 35) (.s 37) 1 16, none⟩,  ⟨none, .st (.s 4) (.s 38) 1, none⟩]) (.seq (.rg false [ ⟨some 39, .mv (.s 7), none⟩,  ⟨some 40, .fa (.s 3) 1, none⟩,  ⟨none, .st (.s 40) (.s 39) 1, none⟩,  ⟨some 41, .fa (.s 3) 2, none⟩,  ⟨none, .st (.s 41) (.c (.d .top (.row 3 []))) 1, none⟩]) (.seq (.rg false [ ⟨some 42, .fa (.s 3) 3, none⟩,  ⟨some 43, .ld (.s 42) 1 false, none⟩,  ⟨some 44, .mkfn 112 [] [.s 4, .s 8], none⟩,  ⟨some 45, .call false (.c (.fn 104 [] [])) [.s 43, .s 44], none⟩,  ⟨some 46, .fa (.s 3) 3, none⟩,  ⟨none, .st (.s 46) (.s 45) 1, none⟩]) (.seq (.rg false [ ⟨some 47, .ld (.s 3) 4 true, none⟩,  ⟨none, .st (.s 6) (.s 47) 4, none⟩]) .ret)))))))⟩
theorem has68 : Has E 68 af68 := ⟨Go.Proofs.Tryz.f68, [], true, Go.Proofs.Tryz.func68, by decide, by kernel_rfl⟩
def af69 : AF := ⟨2, 9, [.tmp 4], true, .seq (.rg false [ ⟨some 2, .box (.s 0), none⟩,  ⟨some 3, .box (.s 1), none⟩,  ⟨some 4, .mv (.c (.d .top (.bool false))), none⟩]) (.seq (.rg false [ ⟨some 5, .ld (.s 2) 4 true, none⟩,  ⟨some 6, .ld (.s 3) 4 true, none⟩,  ⟨some 7, .call false (.c (.fn 113 [] [])) [.s 5, .s 6], none⟩,  ⟨some 8, .bin .eql 0 (.s 7) (.c (.d .top (.int .i64 0))), none⟩,  ⟨some 4, .mv (.s 8), none⟩]) .ret)⟩
theorem has69 : Has E 69 af69 := ⟨Go.Proofs.Tryz.f69, [], true, Go.Proofs.Tryz.func69, by decide, by kernel_rfl⟩
def af70 : AF := ⟨1, 4, [.tmp 2], true, .seq (.rg false [ ⟨some 1, .box (.s 0), none⟩,  ⟨some 2, .mv (.c (.d .top .nf)), none⟩]) (.seq (.rg false [ ⟨some 3, .mkfn 114 [] [.s 1], none⟩,  ⟨some 2, .mv (.s 3), none⟩]) .ret)⟩
theorem has70 : Has E 70 af70 := ⟨Go.Proofs.Tryz.f70, [], true, Go.Proofs.Tryz.func70, by decide, by kernel_rfl⟩
def af71 : AF := ⟨1, 4, [.tmp 2], true, .seq (.rg false [ ⟨some 1, .box (.s 0), none⟩,  ⟨some 2, .mv (.c (.d .top .nf)), none⟩]) (.seq (.rg false [ ⟨some 3, .mkfn 116 [] [.s 1], none⟩,  ⟨some 2, .mv (.s 3), none⟩]) .ret)⟩
theorem has71 : Has E 71 af71 := ⟨Go.Proofs.Tryz.f71, [], true, Go.Proofs.Tryz.func71, by decide, by kernel_rfl⟩
def af72 : AF := ⟨2, 27, [.cell 4 3 true], true, .seq (.rg false [ ⟨some 3, .box (.s 1), none⟩,  ⟨some 4, .alloc [.bool false, .str [], .row 3 []], none⟩]) (.seq (.seq (.rg false [ ⟨some 6, .fa (.s 3) 0, none⟩,  ⟨some 7, .ld (.s 6) 1 false, none⟩]) (.cond (.s 7) (.seq (.rg false [ ⟨some 8, .mv (.s 0), none⟩,  ⟨some 9, .fa (.s 3) 1, none⟩,  ⟨some 10, .ld (.s 9) 1 false, none⟩,  ⟨some 11, .call false (.c (.fn 59 [] [])) [.s 8, .s 10], none⟩,  ⟨some 5, .mv (.s 11), none⟩]) (.seq (.rg false [ ⟨some 12, .mv (.s 5), none⟩,  ⟨some 13, .bin .geq 0 (.s 12) (.c (.d .top (.int .i64 0))), none⟩]) (.cond (.s 13) (.seq (.rg false [ ⟨some 14, .mv (.s 0), none⟩,  ⟨some 15, .mv (.s 5), none⟩,  ⟨some 16, .ia (.s 14) (.s 15) 4, none⟩,  ⟨some 17, .fa (.s 16) 1, none⟩,  ⟨some 18, .ld (.s 17) 3 true, none⟩,  ⟨some 19, .call false (.c (.fn 117 [] [])) [.s 18], none⟩,  ⟨none, .st (.s 4) (.s 19) 3, none⟩]) .ret) .skip))) .skip)) (.seq (.rg false [ ⟨some 20, .fa (.s 3) 2, none⟩,  ⟨some 21, .ld (.s 20) 1 false, none⟩,  ⟨some 22, .mv (.s 0), none⟩,  ⟨some 23, .mkfn 72 [.s 22] [], none⟩,  ⟨some 24, .call false (.c (.fn 103 [] [])) [.s 21, .s 23], none⟩,  ⟨some 25, .fa (.s 3) 2, none⟩,  ⟨none, .st (.s 25) (.s 24) 1, none⟩]) (.seq (.rg false [ ⟨some 26, .ld (.s 3) 3 true, none⟩,  ⟨none, .st (.s 4) (.s 26) 3, none⟩]) .ret)))⟩
theorem has72 : Has E 72 af72 := ⟨Go.Proofs.Tryz.f72, [], true, Go.Proofs.Tryz.func72, by decide, by kernel_rfl⟩
def af73 : AF := ⟨1, 4, [.tmp 2], true, .seq (.rg false [ ⟨some 1, .box (.s 0), none⟩,  ⟨some 2, .mv (.c (.d .top .nf)), none⟩]) (.seq (.rg false [ ⟨some 3, .mkfn 118 [] [.s 1], none⟩,  ⟨some 2, .mv (.s 3), none⟩]) .ret)⟩
theorem has73 : Has E 73 af73 := ⟨Go.Proofs.Tryz.f73, [], true, Go.Proofs.Tryz.func73, by decide, by kernel_rfl⟩
def af88 : AF := ⟨0, 24, [.cell 0 68 true], true, .seq (.rg false [ ⟨some 0, .alloc [.nf, .int .i64 0, .int .i64 0, .int .i64 0, .nf, .int .i64 0, .int .i64 0, .int .i64 0, .nf, .int .i64 0, .int .i64 0, .int .i64 0, .nf, .int .i64 0, .int .i64 0, .int .i64 0, .nf, .int .i64 0, .int .i64 0, .int .i64 0, .nf, .int .i64 0, .int .i64 0, .int .i64 0, .nf, .int .i64 0, .int .i64 0, .int .i64 0, .nf, .int .i64 0, .int .i64 0, .int .i64 0, .nf, .int .i64 0, .int .i64 0, .int .i64 0, .nf, .int .i64 0, .int .i64 0, .int .i64 0, .nf, .int .i64 0, .int .i64 0, .int .i64 0, .nf, .int .i64 0, .int .i64 0, .int .i64 0, .nf, .int .i64 0, .int .i64 0, .int .i64 0, .nf, .int .i64 0, .int .i64 0, .int .i64 0, .nf, .int .i64 0, .int .i64 0, .int .i64 0, .nf, .int .i64 0, .int .i64 0, .int .i64 0, .nf, .int .i64 0, .int .i64 0, .int .i64 0], none⟩]) (.seq (.rg false [ ⟨some 4, .build [.nf, .int .i64 0, .int .i64 0, .int .i64 0] [(0, 1, .c (.fn 133 [] [])), (1, 1, .c (.d .top (.int .i64 0))), (2, 1, .c (.d .top (.int .i64 1))), (3, 1, .c (.d .top (.int .i64 0)))], none⟩,  ⟨some 5, .build [.nf, .int .i64 0, .int .i64 0, .int .i64 0] [(0, 1, .c (.fn 133 [] [])), (1, 1, .c (.d .top (.int .i64 0))), (2, 1, .c (.d .top (.int .i64 2))), (3, 1, .c (.d .top (.int .i64 0)))], none⟩,  ⟨some 6, .build [.nf, .int .i64 0, .int .i64 0, .int .i64 0] [(0, 1, .c (.fn 18 [] [])), (1, 1, .c (.d .top (.int .i64 0))), (2, 1, .c (.d .top (.int .i64 1))), (3, 1, .c (.d .top (.int .i64 0)))], none⟩,  ⟨some 1, .alloc [.nf, .int .i64 0, .int .i64 0, .int .i64 0], none⟩,  ⟨some 2, .alloc [.nf, .int .i64 0, .int .i64 0, .int .i64 0], none⟩,  ⟨some 3, .alloc [.nf, .int .i64 0, .int .i64 0, .int .i64 0], none⟩,  ⟨none, .st (.s 1) (.s 4) 4, none⟩,  ⟨none, .st (.s 2) (.s 5) 4, none⟩,  ⟨none, .st (.s 3) (.s 6) 4, none⟩]) (.seq (.rg false [ ⟨some 7, .build [.nf, .int .i64 0, .int .i64 0, .int .i64 0] [(0, 1, .c (.fn 134 [] [])), (1, 1, .c (.d .top (.int .i64 4))), (2, 1, .c (.d .top (.int .i64 0))), (3, 1, .c (.d .top (.int .i64 0)))], none⟩,  ⟨some 8, .build [.nf, .int .i64 0, .int .i64 0, .int .i64 0] [(0, 1, .c (.fn 133 [] [])), (1, 1, .c (.d .top (.int .i64 0))), (2, 1, .c (.d .top (.int .i64 0))), (3, 1, .c (.d .top (.int .i64 0)))], none⟩,  ⟨some 9, .ld (.s 1) 4 true, none⟩,  ⟨some 10, .ld (.s 1) 4 true, none⟩,  ⟨some 11, .ld (.s 1) 4 true, none⟩,  ⟨some 12, .ld (.s 1) 4 true, none⟩,  ⟨some 13, .ld (.s 1) 4 true, none⟩,  ⟨some 14, .ld (.s 2) 4 true, none⟩,  ⟨some 15, .ld (.s 2) 4 true, none⟩,  ⟨some 16, .ld (.s 2) 4 true, none⟩,  ⟨some 17, .ld (.s 2) 4 true, none⟩,  ⟨some 18, .ld (.s 2) 4 true, none⟩,  ⟨some 19, .ld (.s 3) 4 true, none⟩,  ⟨some 20, .ld (.s 3) 4 true, none⟩,  ⟨some 21, .build [.nf, .int .i64 0, .int .i64 0, .int .i64 0] [(0, 1, .c (.fn 135 [] [])), (1, 1, .c (.d .top (.int .i64 0))), (2, 1, .c (.d .top (.int .i64 0))), (3, 1, .c (.d .top (.int .i64 1)))], none⟩,  ⟨some 22, .build [.nf, .int .i64 0, .int .i64 0, .int .i64 0] [(0, 1, .c (.fn 135 [] [])), (1, 1, .c (.d .top (.int .i64 2))), (2, 1, .c (.d .top (.int .i64 0))), (3, 1, .c (.d .top (.int .i64 1)))], none⟩,  ⟨some 23, .build [.nf, .int .i64 0, .int .i64 0, .int .i64 0, .nf, .int .i64 0, .int .i64 0, .int .i64 0, .nf, .int .i64 0, .int .i64 0, .int .i64 0, .nf, .int .i64 0, .int .i64 0, .int .i64 0, .nf, .int .i64 0, .int .i64 0, .int .i64 0, .nf, .int .i64 0, .int .i64 0, .int .i64 0, .nf, .int .i64 0, .int .i64 0, .int .i64 0, .nf, .int .i64 0, .int .i64 0, .int .i64 0, .nf, .int .i64 0, .int .i64 0, .int .i64 0, .nf, .int .i64 0, .int .i64 0, .int .i64 0, .nf, .int .i64 0, .int .i64 0, .int .i64 0, .nf, .int .i64 0, .int .i64 0, .int .i64 0, .nf, .int .i64 0, .int .i64 0, .int .i64 0, .nf, .int .i64 0, .int .i64 0, .int .i64 0, .nf, .int .i64 0, .int .i64 0, .int .i64 0, .nf, .int .i64 0, .int .i64 0, .int .i64 0, .nf, .int .i64 0, .int .i64 0, .int .i64 0] [(4, 4, .s 7), (8, 4, .s 8), (12, 4, .s 9), (40, 4, .s 10), (44, 4, .s 11), (48, 4, .s 12), (52, 4, .s 13), (16, 4, .s 14), (20, 4, .s 15), (24, 4, .s 16), (28, 4, .s 17), (56, 4, .s 18), (32, 4, .s 19), (36, 4, .s 20), (60, 4, .s 21), (64, 4, .s 22)], none⟩,  ⟨none, .st (.s 0) (.s 23) 68, none⟩]) .ret))⟩
theorem has88 : Has E 88 af88 := ⟨Go.Proofs.Tryz.f88, [], true, Go.Proofs.Tryz.func88, by decide, by kernel_rfl⟩
def af90 : AF := ⟨2, 9, [.tmp 4], true, .seq (.rg false [ ⟨some 4, .mv (.c (.d .top (.bool false))), none⟩]) (.seq (.rg false [ ⟨some 5, .mv (.s 0), none⟩,  ⟨some 6, .mv (.s 1), none⟩,  ⟨some 7, .call false (.c (.fn 137 [] [])) [.s 5, .s 6], none⟩,  ⟨some 8, .bin .geq 0 (.s 7) (.c (.d .top (.int .i64 0))), none⟩,  ⟨some 4, .mv (.s 8), none⟩]) .ret)⟩
theorem has90 : Has E 90 af90 := ⟨Go.Proofs.Tryz.f90, [], true, Go.Proofs.Tryz.func90, by decide, by kernel_rfl⟩
def af91 : AF := ⟨2, 8, [.tmp 3], true, .seq (.rg false [ ⟨some 2, .box (.s 0), none⟩,  ⟨some 3, .mv (.c (.d .top (.bool false))), none⟩]) (.seq (.rg false [ ⟨some 4, .ld (.s 2) 3 true, none⟩,  ⟨some 5, .ld (.s 1) 1 false, none⟩,  ⟨some 6, .call false (.c (.fn 58 [] [])) [.s 4, .s 5], none⟩,  ⟨some 7, .un .not (.s 6), none⟩,  ⟨some 3, .mv (.s 7), none⟩]) .ret)⟩
theorem has91 : Has E 91 af91 := ⟨Go.Proofs.Tryz.f91, [], true, Go.Proofs.Tryz.func91, by decide, by kernel_rfl⟩
def af92 : AF := ⟨2, 9, [.tmp 4], true, .seq (.rg false [ ⟨some 4, .mv (.c (.d .top (.bool false))), none⟩]) (.seq (.rg false [ ⟨some 5, .mv (.s 0), none⟩,  ⟨some 6, .mv (.s 1), none⟩,  ⟨some 7, .call false (.c (.fn 138 [] [])) [.s 5, .s 6], none⟩,  ⟨some 8, .bin .geq 0 (.s 7) (.c (.d .top (.int .i64 0))), none⟩,  ⟨some 4, .mv (.s 8), none⟩]) .ret)⟩
theorem has92 : Has E 92 af92 := ⟨Go.Proofs.Tryz.f92, [], true, Go.Proofs.Tryz.func92, by decide, by kernel_rfl⟩
def af93 : AF := ⟨2, 8, [.tmp 3], true, .seq (.rg false [ ⟨some 2, .box (.s 0), none⟩,  ⟨some 3, .mv (.c (.d .top (.bool false))), none⟩]) (.seq (.rg false [ ⟨some 4, .ld (.s 2) 4 true, none⟩,  ⟨some 5, .ld (.s 1) 1 false, none⟩,  ⟨some 6, .call false (.c (.fn 54 [] [])) [.s 4, .s 5], none⟩,  ⟨some 7, .un .not (.s 6), none⟩,  ⟨some 3, .mv (.s 7), none⟩]) .ret)⟩
theorem has93 : Has E 93 af93 := ⟨Go.Proofs.Tryz.f93, [], true, Go.Proofs.Tryz.func93, by decide, by kernel_rfl⟩
def af94 : AF := ⟨2, 9, [.tmp 4], true, .seq (.rg false [ ⟨some 4, .mv (.c (.d .top (.bool false))), none⟩]) (.seq (.rg false [ ⟨some 5, .mv (.s 0), none⟩,  ⟨some 6, .mv (.s 1), none⟩,  ⟨some 7, .call false (.c (.fn 139 [] [])) [.s 5, .s 6], none⟩,  ⟨some 8, .bin .geq 0 (.s 7) (.c (.d .top (.int .i64 0))), none⟩,  ⟨some 4, .mv (.s 8), none⟩]) .ret)⟩
theorem has94 : Has E 94 af94 := ⟨Go.Proofs.Tryz.f94, [], true, Go.Proofs.Tryz.func94, by decide, by kernel_rfl⟩
def af95 : AF := ⟨2, 8, [.tmp 3], true, .seq (.rg false [ ⟨some 3, .mv (.c (.d .top (.bool false))), none⟩]) (.seq (.rg false [ ⟨some 4, .ld (.s 1) 1 false, none⟩,  ⟨some 5, .mv (.s 0), none⟩,  ⟨some 6, .call false (.s 4) [.s 5], none⟩,  ⟨some 7, .un .not (.s 6), none⟩,  ⟨some 3, .mv (.s 7), none⟩]) .ret)⟩
theorem has95 : Has E 95 af95 := ⟨Go.Proofs.Tryz.f95, [], true, Go.Proofs.Tryz.func95, by decide, by kernel_rfl⟩
def af96 : AF := ⟨1, 5, [.tmp 2], true, .seq (.rg false [ ⟨some 2, .mv (.c (.d .top (.bool false))), none⟩]) (.seq (.rg false [ ⟨some 3, .mv (.s 0), none⟩,  ⟨some 4, .call false (.c (.fn 55 [] [])) [.s 3, .c (.fn 140 [] []), .c (.fn 141 [] [])], none⟩,  ⟨some 2, .mv (.s 4), none⟩]) .ret)⟩
theorem has96 : Has E 96 af96 := ⟨Go.Proofs.Tryz.f96, [], true, Go.Proofs.Tryz.func96, by decide, by kernel_rfl⟩
def af97 : AF := ⟨2, 8, [.tmp 3], true, .seq (.rg false [ ⟨some 2, .box (.s 0), none⟩,  ⟨some 3, .mv (.c (.d .top (.bool false))), none⟩]) (.seq (.rg false [ ⟨some 4, .ld (.s 2) 3 true, none⟩,  ⟨some 5, .ld (.s 1) 1 false, none⟩,  ⟨some 6, .call false (.c (.fn 58 [] [])) [.s 4, .s 5], none⟩,  ⟨some 7, .un .not (.s 6), none⟩,  ⟨some 3, .mv (.s 7), none⟩]) .ret)⟩
theorem has97 : Has E 97 af97 := ⟨Go.Proofs.Tryz.f97, [], true, Go.Proofs.Tryz.func97, by decide, by kernel_rfl⟩
def af98 : AF := ⟨2, 19, [.tmp 4], true, .seq (.rg false [ ⟨some 4, .mv (.c (.d .top (.int .i64 0))), none⟩]) (.seq (.seq (.rg false [ ⟨some 6, .mv (.s 0), none⟩,  ⟨some 7, .len false (.s 6), none⟩,  ⟨some 8, .mv (.c (.d .top (.int .i64 0))), none⟩]) (.block 0 (.loop (.seq (.rg false [ ⟨some 9, .bin .lss 0 (.s 8) (.s 7), none⟩]) (.seq (.cond (.s 9) .skip (.exit 0)) (.seq (.block 1 (.seq (.rg false [ ⟨some 10, .mv (.s 8), none⟩,  ⟨some 5, .mv (.s 10), none⟩]) (.seq (.rg false [ ⟨some 11, .mv (.s 1), none⟩,  ⟨some 12, .mv (.s 0), none⟩,  ⟨some 13, .mv (.s 5), none⟩,  ⟨some 14, .ia (.s 12) (.s 13) 4, none⟩,  ⟨some 15, .ld (.s 14) 4 true, none⟩,  ⟨some 16, .call false (.s 11) [.s 15], none⟩]) (.cond (.s 16) (.seq (.rg false [ ⟨some 17, .mv (.s 5), none⟩,  ⟨some 4, .mv (.s 17), none⟩]) .ret) .skip)))) (.rg false [ ⟨some 18, .bin .add 0 (.s 8) (.c (.d .top (.int .i64 1))), none⟩,  ⟨some 8, .mv (.s 18), none⟩]))))))) (.seq (.rg false [ ⟨some 4, .mv (.c (.d .top (.int .i64 (-1)))), none⟩]) .ret))⟩
theorem has98 : Has E 98 af98 := ⟨Go.Proofs.Tryz.f98, [], true, Go.Proofs.Tryz.func98, by decide, by kernel_rfl⟩
def af99 : AF := ⟨2, 8, [.tmp 3], true, .seq (.rg false [ ⟨some 2, .box (.s 0), none⟩,  ⟨some 3, .mv (.c (.d .top (.bool false))), none⟩]) (.seq (.rg false [ ⟨some 4, .fa (.s 2) 0, none⟩,  ⟨some 5, .ld (.s 4) 1 false, none⟩,  ⟨some 6, .ld (.s 1) 1 false, none⟩,  ⟨some 7, .bin .eql 1 (.s 5) (.s 6), none⟩,  ⟨some 3, .mv (.s 7), none⟩]) .ret)⟩
theorem has99 : Has E 99 af99 := ⟨Go.Proofs.Tryz.f99, [], true, Go.Proofs.Tryz.func99, by decide, by kernel_rfl⟩
def af100 : AF := ⟨2, 19, [.tmp 4], true, .seq (.rg false [ ⟨some 4, .mv (.c (.d .top (.int .i64 0))), none⟩]) (.seq (.seq (.rg false [ ⟨some 6, .mv (.s 0), none⟩,  ⟨some 7, .len false (.s 6), none⟩,  ⟨some 8, .mv (.c (.d .top (.int .i64 0))), none⟩]) (.block 0 (.loop (.seq (.rg false [ ⟨some 9, .bin .lss 0 (.s 8) (.s 7), none⟩]) (.seq (.cond (.s 9) .skip (.exit 0)) (.seq (.block 1 (.seq (.rg false [ ⟨some 10, .mv (.s 8), none⟩,  ⟨some 5, .mv (.s 10), none⟩]) (.seq (.rg false [ ⟨some 11, .mv (.s 1), none⟩,  ⟨some 12, .mv (.s 0), none⟩,  ⟨some 13, .mv (.s 5), none⟩,  ⟨some 14, .ia (.s 12) (.s 13) 4, none⟩,  ⟨some 15, .ld (.s 14) 4 true, none⟩,  ⟨some 16, .call false (.s 11) [.s 15], none⟩]) (.cond (.s 16) (.seq (.rg false [ ⟨some 17, .mv (.s 5), none⟩,  ⟨some 4, .mv (.s 17), none⟩]) .ret) .skip)))) (.rg false [ ⟨some 18, .bin .add 0 (.s 8) (.c (.d .top (.int .i64 1))), none⟩,  ⟨some 8, .mv (.s 18), none⟩]))))))) (.seq (.rg false [ ⟨some 4, .mv (.c (.d .top (.int .i64 (-1)))), none⟩]) .ret))⟩
theorem has100 : Has E 100 af100 := ⟨Go.Proofs.Tryz.f100, [], true, Go.Proofs.Tryz.func100, by decide, by kernel_rfl⟩
def af101 : AF := ⟨2, 19, [.tmp 4], true, .seq (.rg false [ ⟨some 4, .mv (.c (.d .top (.int .i64 0))), none⟩]) (.seq (.seq (.rg false [ ⟨some 6, .mv (.s 0), none⟩,  ⟨some 7, .len false (.s 6), none⟩,  ⟨some 8, .mv (.c (.d .top (.int .i64 0))), none⟩]) (.block 0 (.loop (.seq (.rg false [ ⟨some 9, .bin .lss 0 (.s 8) (.s 7), none⟩]) (.seq (.cond (.s 9) .skip (.exit 0)) (.seq (.block 1 (.seq (.rg false [ ⟨some 10, .mv (.s 8), none⟩,  ⟨some 5, .mv (.s 10), none⟩]) (.seq (.rg false [ ⟨some 11, .mv (.s 1), none⟩,  ⟨some 12, .mv (.s 0), none⟩,  ⟨some 13, .mv (.s 5), none⟩,  ⟨some 14, .ia (.s 12) (.s 13) 1, none⟩,  ⟨some 15, .ld (.s 14) 1 false, none⟩,  ⟨some 16, .bin .eql 1 (.s 11) (.s 15), none⟩]) (.cond (.s 16) (.seq (.rg false [ ⟨some 17, .mv (.s 5), none⟩,  ⟨some 4, .mv (.s 17), none⟩]) .ret) .skip)))) (.rg false [ ⟨some 18, .bin .add 0 (.s 8) (.c (.d .top (.int .i64 1))), none⟩,  ⟨some 8, .mv (.s 18), none⟩]))))))) (.seq (.rg false [ ⟨some 4, .mv (.c (.d .top (.int .i64 (-1)))), none⟩]) .ret))⟩
theorem has101 : Has E 101 af101 := ⟨Go.Proofs.Tryz.f101, [], true, Go.Proofs.Tryz.func101, by decide, by kernel_rfl⟩
def af102 : AF := ⟨1, 11, [.tmp 2], true, .seq (.rg false [ ⟨some 1, .box (.s 0), none⟩,  ⟨some 2, .mv (.c (.d .top (.bool false))), none⟩]) (.seq (.rg false [ ⟨some 3, .fa (.s 1) 0, none⟩,  ⟨some 4, .ld (.s 3) 1 false, none⟩,  ⟨some 5, .bin .eql 0 (.s 4) (.c (.d .top (.int .u8 8))), none⟩,  ⟨some 6, .mv (.s 5), none⟩,  ⟨some 7, .fa (.s 1) 0, some (6, false)⟩,  ⟨some 8, .ld (.s 7) 1 false, some (6, false)⟩,  ⟨some 9, .bin .eql 0 (.s 8) (.c (.d .top (.int .u8 9))), some (6, false)⟩,  ⟨some 10, .pick (.s 6) (.c (.d .top (.bool true))) (.s 9), none⟩,  ⟨some 2, .mv (.s 10), none⟩]) .ret)⟩
theorem has102 : Has E 102 af102 := ⟨Go.Proofs.Tryz.f102, [], true, Go.Proofs.Tryz.func102, by decide, by kernel_rfl⟩
def af103 : AF := ⟨2, 22, [.tmp 4], true, .seq (.rg false [ ⟨some 4, .nil false 3, none⟩]) (.seq (.rg false [ ⟨some 5, .nil false 3, none⟩]) (.seq (.seq (.rg false [ ⟨some 8, .mv (.s 0), none⟩,  ⟨some 9, .len false (.s 8), none⟩,  ⟨some 10, .mv (.c (.d .top (.int .i64 0))), none⟩]) (.block 0 (.loop (.seq (.rg false [ ⟨some 11, .bin .lss 0 (.s 10) (.s 9), none⟩]) (.seq (.cond (.s 11) .skip (.exit 0)) (.seq (.block 1 (.seq (.rg false [ ⟨some 12, .ia (.s 8) (.s 10) 3, none⟩,  ⟨some 13, .ld (.s 12) 3 true, none⟩,  ⟨some 7, .alloc [.bool false, .str [], .row 3 []], none⟩,  ⟨none, .st (.s 7) (.s 13) 3, none⟩]) (.rg false [ ⟨some 14, .mv (.s 5), none⟩,  ⟨some 15, .mv (.s 1), none⟩,  ⟨some 16, .ld (.s 7) 3 true, none⟩,  ⟨some 17, .call false (.s 15) [.s 16], none⟩,  ⟨some 18, .bslice 0 3 [.s 17], none⟩,  ⟨some 19, .app (.s 14) (.s 18) 3 48, none⟩,  ⟨some 5, .mv (.s 19), none⟩]))) (.rg false [ ⟨some 20, .bin .add 0 (.s 10) (.c (.d .top (.int .i64 1))), none⟩,  ⟨some 10, .mv (.s 20), none⟩]))))))) (.seq (.rg false [ ⟨some 21, .mv (.s 5), none⟩,  ⟨some 4, .mv (.s 21), none⟩]) .ret)))⟩
theorem has103 : Has E 103 af103 := ⟨Go.Proofs.Tryz.f103, [], true, Go.Proofs.Tryz.func103, by decide, by kernel_rfl⟩
def af104 : AF := ⟨2, 22, [.tmp 4], true, .seq (.rg false [ ⟨some 4, .nil false 4, none⟩]) (.seq (.rg false [ ⟨some 5, .nil false 4, none⟩]) (.seq (.seq (.rg false [ ⟨some 8, .mv (.s 0), none⟩,  ⟨some 9, .len false (.s 8), none⟩,  ⟨some 10, .mv (.c (.d .top (.int .i64 0))), none⟩]) (.block 0 (.loop (.seq (.rg false [ ⟨some 11, .bin .lss 0 (.s 10) (.s 9), none⟩]) (.seq (.cond (.s 11) .skip (.exit 0)) (.seq (.block 1 (.seq (.rg false [ ⟨some 12, .ia (.s 8) (.s 10) 4, none⟩,  ⟨some 13, .ld (.s 12) 4 true, none⟩,  ⟨some 7, .alloc [.int .u8 0, .str [], .row 3 [], .row 4 []], none⟩,  ⟨none, .st (.s 7) (.s 13) 4, none⟩]) (.rg false [ ⟨some 14, .mv (.s 5), none⟩,  ⟨some 15, .mv (.s 1), none⟩,  ⟨some 16, .ld (.s 7) 4 true, none⟩,  ⟨some 17, .call false (.s 15) [.s 16], none⟩,  ⟨some 18, .bslice 0 4 [.s 17], none⟩,  ⟨some 19, .app (.s 14) (.s 18) 4 72, none⟩,  ⟨some 5, .mv (.s 19), none⟩]))) (.rg false [ ⟨some 20, .bin .add 0 (.s 10) (.c (.d .top (.int .i64 1))), none⟩,  ⟨some 10, .mv (.s 20), none⟩]))))))) (.seq (.rg false [ ⟨some 21, .mv (.s 5), none⟩,  ⟨some 4, .mv (.s 21), none⟩]) .ret)))⟩
theorem has104 : Has E 104 af104 := ⟨Go.Proofs.Tryz.f104, [], true, Go.Proofs.Tryz.func104, by decide, by kernel_rfl⟩
def af105 : AF := ⟨1, 5, [.tmp 2], true, .seq (.rg false [ ⟨some 2, .nil false 1, none⟩]) (.seq (.rg false [ ⟨some 3, .mv (.s 0), none⟩,  ⟨some 4, .call false (.c (.fn 142 [] [])) [.c (.d .top (.row 1 [])), .s 3], none⟩,  ⟨some 2, .mv (.s 4), none⟩]) .ret)⟩
theorem has105 : Has E 105 af105 := ⟨Go.Proofs.Tryz.f105, [], true, Go.Proofs.Tryz.func105, by decide, by kernel_rfl⟩
def af106 : AF := ⟨1, 12, [.cell 2 4 true], true, .seq (.rg false [ ⟨some 1, .box (.s 0), none⟩,  ⟨some 2, .alloc [.int .u8 0, .str [], .row 3 [], .row 4 []], none⟩]) (.seq (.rg true [ ⟨some 3, .fa (.s 1) 2, none⟩,  ⟨some 4, .ld (.s 3) 1 false, none⟩,  ⟨some 5, .call false (.c (.fn 143 [] [])) [.s 4, .c (.fn 144 [] [])], none⟩,  ⟨some 6, .fa (.s 1) 3, none⟩,  ⟨some 7, .ld (.s 6) 1 false, none⟩,  ⟨some 8, .call false (.c (.fn 145 [] [])) [.s 7, .c (.fn 106 [] [])], none⟩,  ⟨some 9, .fa (.s 1) 2, none⟩,  ⟨none, .st (.s 9) (.s 5) 1, none⟩,  ⟨some 10, .fa (.s 1) 3, none⟩,  ⟨none, .st (.s 10) (.s 8) 1, none⟩]) (.seq (.rg false [ ⟨some 11, .ld (.s 1) 4 true, none⟩,  ⟨none, .st (.s 2) (.s 11) 4, none⟩]) .ret))⟩
theorem has106 : Has E 106 af106 := ⟨Go.Proofs.Tryz.f106, [], true, Go.Proofs.Tryz.func106, by decide, by kernel_rfl⟩
def af107 : AF := ⟨1, 20, [.tmp 2], true, .seq (.rg false [ ⟨some 2, .mv (.c (.d .top (.int .i64 0))), none⟩]) (.seq (.rg false [ ⟨some 3, .mv (.c (.d .top (.int .i64 0))), none⟩]) (.seq (.seq (.rg false [ ⟨some 6, .mv (.s 0), none⟩,  ⟨some 7, .len false (.s 6), none⟩,  ⟨some 8, .mv (.c (.d .top (.int .i64 0))), none⟩]) (.block 0 (.loop (.seq (.rg false [ ⟨some 9, .bin .lss 0 (.s 8) (.s 7), none⟩]) (.seq (.cond (.s 9) .skip (.exit 0)) (.seq (.block 1 (.seq (.rg false [ ⟨some 10, .ia (.s 6) (.s 8) 3, none⟩,  ⟨some 11, .ld (.s 10) 3 true, none⟩,  ⟨some 5, .alloc [.bool false, .str [], .row 3 []], none⟩,  ⟨none, .st (.s 5) (.s 11) 3, none⟩]) (.rg false [ ⟨some 12, .mv (.s 3), none⟩,  ⟨some 13, .fa (.s 5) 2, none⟩,  ⟨some 14, .ld (.s 13) 1 false, none⟩,  ⟨some 15, .call false (.c (.fn 107 [] [])) [.s 14], none⟩,  ⟨some 16, .bin .add 0 (.c (.d .top (.int .i64 1))) (.s 15), none⟩,  ⟨some 17, .mx [.s 12, .s 16], none⟩,  ⟨some 3, .mv (.s 17), none⟩]))) (.rg false [ ⟨some 18, .bin .add 0 (.s 8) (.c (.d .top (.int .i64 1))), none⟩,  ⟨some 8, .mv (.s 18), none⟩]))))))) (.seq (.rg false [ ⟨some 19, .mv (.s 3), none⟩,  ⟨some 2, .mv (.s 19), none⟩]) .ret)))⟩
theorem has107 : Has E 107 af107 := ⟨Go.Proofs.Tryz.f107, [], true, Go.Proofs.Tryz.func107, by decide, by kernel_rfl⟩
def af108 : AF := ⟨1, 11, [], true, .seq (.rg false [ ⟨some 3, .mv (.s 0), none⟩,  ⟨some 4, .len false (.s 3), none⟩,  ⟨some 2, .mv (.s 4), none⟩]) (.rg false [ ⟨some 5, .mv (.s 0), none⟩,  ⟨some 6, .mv (.s 2), none⟩,  ⟨some 7, .mv (.s 2), none⟩,  ⟨some 8, .conv (.toInt .u64) (.s 7), none⟩,  ⟨some 9, .call false (.c (.fn 147 [] [])) [.s 8], none⟩,  ⟨some 10, .call false (.c (.fn 146 [] [])) [.s 5, .c (.d .top (.int .i64 0)), .s 6, .s 9], none⟩])⟩
theorem has108 : Has E 108 af108 := ⟨Go.Proofs.Tryz.f108, [], true, Go.Proofs.Tryz.func108, by decide, by kernel_rfl⟩
def af109 : AF := ⟨2, 38, [], true, .seq (.rg false [ ⟨some 2, .box (.s 0), none⟩]) (.seq (.seq (.rg false [ ⟨some 7, .fa (.s 1) 2, none⟩,  ⟨some 8, .ld (.s 7) 1 false, none⟩,  ⟨some 9, .call false (.c (.fn 73 [] [])) [.s 8], none⟩]) (.block 0 (.rf (.s 9) [10] (.rg false [ ⟨some 3, .mv (.s 10), none⟩]) (.block 1 (.seq (.rg false [ ⟨some 11, .ld (.s 2) 1 false, none⟩,  ⟨some 12, .mv (.s 3), none⟩,  ⟨some 13, .call false (.s 11) [.s 12], none⟩,  ⟨some 14, .un .not (.s 13), none⟩]) (.cond (.s 14) .ret .skip)))))) (.seq (.rg false [ ⟨some 15, .fa (.s 1) 3, none⟩,  ⟨some 16, .ld (.s 15) 1 false, none⟩,  ⟨some 17, .len false (.s 16), none⟩,  ⟨some 18, .mv (.c (.d .top (.int .i64 0))), none⟩]) (.block 2 (.loop (.seq (.rg false [ ⟨some 19, .bin .lss 0 (.s 18) (.s 17), none⟩]) (.seq (.cond (.s 19) .skip (.exit 2)) (.seq (.block 3 (.seq (.rg false [ ⟨some 20, .ia (.s 16) (.s 18) 4, none⟩,  ⟨some 21, .ld (.s 20) 4 true, none⟩,  ⟨some 5, .alloc [.int .u8 0, .str [], .row 3 [], .row 4 []], none⟩,  ⟨none, .st (.s 5) (.s 21) 4, none⟩]) (.seq (.rg false [ ⟨some 22, .ld (.s 5) 4 true, none⟩,  ⟨some 23, .call false (.c (.fn 67 [] [])) [.s 22], none⟩]) (.block 4 (.rf (.s 23) [24] (.rg false [ ⟨some 6, .mv (.s 24), none⟩]) (.block 5 (.seq (.seq (.rg false [ ⟨some 25, .ld (.s 1) 4 true, none⟩,  ⟨some 26, .call false (.c (.fn 102 [] [])) [.s 25], none⟩,  ⟨some 27, .mv (.s 26), none⟩,  ⟨some 28, .mv (.s 6), some (27, true)⟩,  ⟨some 29, .fa (.s 1) 1, some (27, true)⟩,  ⟨some 30, .ld (.s 29) 1 false, some (27, true)⟩,  ⟨some 31, .bin .eql 1 (.s 28) (.s 30), some (27, true)⟩,  ⟨some 32, .pick (.s 27) (.s 31) (.c (.d .top (.bool false))), none⟩]) (.cond (.s 32) (.exit 5) .skip)) (.seq (.rg false [ ⟨some 33, .ld (.s 2) 1 false, none⟩,  ⟨some 34, .mv (.s 6), none⟩,  ⟨some 35, .call false (.s 33) [.s 34], none⟩,  ⟨some 36, .un .not (.s 35), none⟩]) (.cond (.s 36) .ret .skip))))))))) (.rg false [ ⟨some 37, .bin .add 0 (.s 18) (.c (.d .top (.int .i64 1))), none⟩,  ⟨some 18, .mv (.s 37), none⟩]))))))))⟩
theorem has109 : Has E 109 af109 := ⟨Go.Proofs.Tryz.f109, [], true, Go.Proofs.Tryz.func109, by decide, by kernel_rfl⟩
def af110 : AF := ⟨3, 9, [.cell 4 4 true], true, .seq (.rg false [ ⟨some 3, .box (.s 0), none⟩,  ⟨some 4, .alloc [.int .u8 0, .str [], .row 3 [], .row 4 []], none⟩]) (.seq (.rg false [ ⟨some 5, .ld (.s 3) 4 true, none⟩,  ⟨some 6, .ld (.s 1) 1 false, none⟩,  ⟨some 7, .ld (.s 2) 1 false, none⟩,  ⟨some 8, .call false (.c (.fn 68 [] [])) [.s 5, .s 6, .s 7], none⟩,  ⟨none, .st (.s 4) (.s 8) 4, none⟩]) .ret)⟩
theorem has110 : Has E 110 af110 := ⟨Go.Proofs.Tryz.f110, [], true, Go.Proofs.Tryz.func110, by decide, by kernel_rfl⟩
def af111 : AF := ⟨1, 8, [.tmp 2], true, .seq (.rg false [ ⟨some 2, .nil false 1, none⟩]) (.seq (.seq (.rg false [ ⟨some 3, .mv (.s 0), none⟩,  ⟨some 4, .isnil false (.s 3), none⟩]) (.cond (.s 4) (.seq (.rg false [ ⟨some 2, .nil false 1, none⟩]) .ret) .skip)) (.seq (.rg false [ ⟨some 5, .bslice 1 1 [], none⟩,  ⟨some 6, .mv (.s 0), none⟩,  ⟨some 7, .app (.s 5) (.s 6) 1 16, none⟩,  ⟨some 2, .mv (.s 7), none⟩]) .ret))⟩
theorem has111 : Has E 111 af111 := ⟨Go.Proofs.Tryz.f111, [], true, Go.Proofs.Tryz.func111, by decide, by kernel_rfl⟩
def af112 : AF := ⟨3, 9, [.cell 4 4 true], true, .seq (.rg false [ ⟨some 3, .box (.s 0), none⟩,  ⟨some 4, .alloc [.int .u8 0, .str [], .row 3 [], .row 4 []], none⟩]) (.seq (.rg false [ ⟨some 5, .ld (.s 3) 4 true, none⟩,  ⟨some 6, .ld (.s 1) 1 false, none⟩,  ⟨some 7, .ld (.s 2) 1 false, none⟩,  ⟨some 8, .call false (.c (.fn 68 [] [])) [.s 5, .s 6, .s 7], none⟩,  ⟨none, .st (.s 4) (.s 8) 4, none⟩]) .ret)⟩
theorem has112 : Has E 112 af112 := ⟨Go.Proofs.Tryz.f112, [], true, Go.Proofs.Tryz.func112, by decide, by kernel_rfl⟩
end Go.Ly.Tr
end
section
set_option maxRecDepth 10000
namespace Go.Ly.Tr
def af113 : AF := ⟨2, 27, [.tmp 4], true, .seq (.rg false [ ⟨some 2, .box (.s 0), none⟩,  ⟨some 3, .box (.s 1), none⟩,  ⟨some 4, .mv (.c (.d .top (.int .i64 0))), none⟩]) (.seq (.rg true [ ⟨some 5, .fa (.s 2) 0, none⟩,  ⟨some 6, .ld (.s 5) 1 false, none⟩,  ⟨some 7, .fa (.s 3) 0, none⟩,  ⟨some 8, .ld (.s 7) 1 false, none⟩,  ⟨some 9, .call false (.c (.fn 149 [] [])) [.s 6, .s 8], none⟩,  ⟨some 10, .fa (.s 2) 1, none⟩,  ⟨some 11, .ld (.s 10) 1 false, none⟩,  ⟨some 12, .fa (.s 3) 1, none⟩,  ⟨some 13, .ld (.s 12) 1 false, none⟩,  ⟨some 14, .call false (.c (.fn 150 [] [])) [.s 11, .s 13], none⟩,  ⟨some 15, .fa (.s 2) 2, none⟩,  ⟨some 16, .ld (.s 15) 1 false, none⟩,  ⟨some 17, .fa (.s 3) 2, none⟩,  ⟨some 18, .ld (.s 17) 1 false, none⟩,  ⟨some 19, .call false (.c (.fn 151 [] [])) [.s 16, .s 18, .c (.fn 152 [] [])], none⟩,  ⟨some 20, .fa (.s 2) 3, none⟩,  ⟨some 21, .ld (.s 20) 1 false, none⟩,  ⟨some 22, .fa (.s 3) 3, none⟩,  ⟨some 23, .ld (.s 22) 1 false, none⟩,  ⟨some 24, .call false (.c (.fn 153 [] [])) [.s 21, .s 23, .c (.fn 113 [] [])], none⟩,  ⟨some 25, .bslice 0 1 [.s 9, .s 14, .s 19, .s 24], none⟩,  ⟨some 26, .call false (.c (.fn 148 [] [])) [.s 25], none⟩,  ⟨some 4, .mv (.s 26), none⟩]) .ret)⟩
theorem has113 : Has E 113 af113 := ⟨Go.Proofs.Tryz.f113, [], true, Go.Proofs.Tryz.func113, by decide, by kernel_rfl⟩
def af114 : AF := ⟨2, 6, [], true, .rg false [ ⟨some 3, .ld (.s 1) 4 true, none⟩,  ⟨some 4, .mv (.s 0), none⟩,  ⟨some 5, .call false (.c (.fn 115 [] [])) [.s 3, .s 4], none⟩]⟩
theorem has114 : Has E 114 af114 := ⟨Go.Proofs.Tryz.f114, [], true, Go.Proofs.Tryz.func114, by decide, by kernel_rfl⟩
def af115 : AF := ⟨2, 23, [.tmp 4], true, .seq (.rg false [ ⟨some 2, .box (.s 0), none⟩,  ⟨some 4, .mv (.c (.d .top (.bool false))), none⟩]) (.seq (.seq (.rg false [ ⟨some 7, .mv (.s 1), none⟩,  ⟨some 8, .ld (.s 2) 4 true, none⟩,  ⟨some 9, .call false (.s 7) [.s 8], none⟩,  ⟨some 10, .un .not (.s 9), none⟩]) (.cond (.s 10) (.seq (.rg false [ ⟨some 4, .mv (.c (.d .top (.bool false))), none⟩]) .ret) .skip)) (.seq (.seq (.rg false [ ⟨some 11, .fa (.s 2) 3, none⟩,  ⟨some 12, .ld (.s 11) 1 false, none⟩,  ⟨some 13, .len false (.s 12), none⟩,  ⟨some 14, .mv (.c (.d .top (.int .i64 0))), none⟩]) (.block 0 (.loop (.seq (.rg false [ ⟨some 15, .bin .lss 0 (.s 14) (.s 13), none⟩]) (.seq (.cond (.s 15) .skip (.exit 0)) (.seq (.block 1 (.seq (.rg false [ ⟨some 16, .ia (.s 12) (.s 14) 4, none⟩,  ⟨some 17, .ld (.s 16) 4 true, none⟩,  ⟨some 6, .alloc [.int .u8 0, .str [], .row 3 [], .row 4 []], none⟩,  ⟨none, .st (.s 6) (.s 17) 4, none⟩]) (.seq (.rg false [ ⟨some 18, .ld (.s 6) 4 true, none⟩,  ⟨some 19, .mv (.s 1), none⟩,  ⟨some 20, .call false (.c (.fn 115 [] [])) [.s 18, .s 19], none⟩,  ⟨some 21, .un .not (.s 20), none⟩]) (.cond (.s 21) (.seq (.rg false [ ⟨some 4, .mv (.c (.d .top (.bool false))), none⟩]) .ret) .skip)))) (.rg false [ ⟨some 22, .bin .add 0 (.s 14) (.c (.d .top (.int .i64 1))), none⟩,  ⟨some 14, .mv (.s 22), none⟩]))))))) (.seq (.rg false [ ⟨some 4, .mv (.c (.d .top (.bool true))), none⟩]) .ret)))⟩
theorem has115 : Has E 115 af115 := ⟨Go.Proofs.Tryz.f115, [], true, Go.Proofs.Tryz.func115, by decide, by kernel_rfl⟩
def af116 : AF := ⟨2, 25, [], true, .seq (.rg false [ ⟨some 2, .box (.s 0), none⟩]) (.seq (.rg false [ ⟨some 6, .ld (.s 1) 1 false, none⟩,  ⟨some 7, .len false (.s 6), none⟩,  ⟨some 8, .mv (.c (.d .top (.int .i64 0))), none⟩]) (.block 0 (.loop (.seq (.rg false [ ⟨some 9, .bin .lss 0 (.s 8) (.s 7), none⟩]) (.seq (.cond (.s 9) .skip (.exit 0)) (.seq (.block 1 (.seq (.rg false [ ⟨some 10, .ia (.s 6) (.s 8) 3, none⟩,  ⟨some 11, .ld (.s 10) 3 true, none⟩,  ⟨some 4, .alloc [.bool false, .str [], .row 3 []], none⟩,  ⟨none, .st (.s 4) (.s 11) 3, none⟩]) (.seq (.seq (.rg false [ ⟨some 12, .ld (.s 2) 1 false, none⟩,  ⟨some 13, .ld (.s 4) 3 true, none⟩,  ⟨some 14, .call false (.s 12) [.s 13], none⟩,  ⟨some 15, .un .not (.s 14), none⟩]) (.cond (.s 15) .ret .skip)) (.seq (.rg false [ ⟨some 16, .fa (.s 4) 2, none⟩,  ⟨some 17, .ld (.s 16) 1 false, none⟩,  ⟨some 18, .call false (.c (.fn 71 [] [])) [.s 17], none⟩]) (.block 2 (.rf (.s 18) [19] (.rg false [ ⟨some 5, .alloc [.bool false, .str [], .row 3 []], none⟩,  ⟨none, .st (.s 5) (.s 19) 3, none⟩]) (.block 3 (.seq (.rg false [ ⟨some 20, .ld (.s 2) 1 false, none⟩,  ⟨some 21, .ld (.s 5) 3 true, none⟩,  ⟨some 22, .call false (.s 20) [.s 21], none⟩,  ⟨some 23, .un .not (.s 22), none⟩]) (.cond (.s 23) .ret .skip))))))))) (.rg false [ ⟨some 24, .bin .add 0 (.s 8) (.c (.d .top (.int .i64 1))), none⟩,  ⟨some 8, .mv (.s 24), none⟩])))))))⟩
theorem has116 : Has E 116 af116 := ⟨Go.Proofs.Tryz.f116, [], true, Go.Proofs.Tryz.func116, by decide, by kernel_rfl⟩
def af117 : AF := ⟨1, 22, [.cell 2 3 true], true, .seq (.rg false [ ⟨some 1, .box (.s 0), none⟩,  ⟨some 2, .alloc [.bool false, .str [], .row 3 []], none⟩]) (.seq (.rg false [ ⟨some 3, .nil false 3, none⟩]) (.seq (.seq (.rg false [ ⟨some 6, .fa (.s 1) 2, none⟩,  ⟨some 7, .ld (.s 6) 1 false, none⟩,  ⟨some 8, .len false (.s 7), none⟩,  ⟨some 9, .mv (.c (.d .top (.int .i64 0))), none⟩]) (.block 0 (.loop (.seq (.rg false [ ⟨some 10, .bin .lss 0 (.s 9) (.s 8), none⟩]) (.seq (.cond (.s 10) .skip (.exit 0)) (.seq (.block 1 (.seq (.rg false [ ⟨some 11, .ia (.s 7) (.s 9) 3, none⟩,  ⟨some 12, .ld (.s 11) 3 true, none⟩,  ⟨some 5, .alloc [.bool false, .str [], .row 3 []], none⟩,  ⟨none, .st (.s 5) (.s 12) 3, none⟩]) (.rg false [ ⟨some 13, .mv (.s 3), none⟩,  ⟨some 14, .ld (.s 5) 3 true, none⟩,  ⟨some 15, .call false (.c (.fn 117 [] [])) [.s 14], none⟩,  ⟨some 16, .bslice 0 3 [.s 15], none⟩,  ⟨some 17, .app (.s 13) (.s 16) 3 48, none⟩,  ⟨some 3, .mv (.s 17), none⟩]))) (.rg false [ ⟨some 18, .bin .add 0 (.s 9) (.c (.d .top (.int .i64 1))), none⟩,  ⟨some 9, .mv (.s 18), none⟩]))))))) (.seq (.rg false [ ⟨some 19, .mv (.s 3), none⟩,  ⟨some 20, .fa (.s 1) 2, none⟩,  ⟨none, .st (.s 20) (.s 19) 1, none⟩]) (.seq (.rg false [ ⟨some 21, .ld (.s 1) 3 true, none⟩,  ⟨none, .st (.s 2) (.s 21) 3, none⟩]) .ret))))⟩
theorem has117 : Has E 117 af117 := ⟨Go.Proofs.Tryz.f117, [], true, Go.Proofs.Tryz.func117, by decide, by kernel_rfl⟩
def af118 : AF := ⟨2, 30, [], true, .seq (.rg false [ ⟨some 2, .box (.s 0), none⟩]) (.seq (.rg false [ ⟨some 6, .ld (.s 1) 1 false, none⟩,  ⟨some 7, .len false (.s 6), none⟩,  ⟨some 8, .mv (.c (.d .top (.int .i64 0))), none⟩]) (.block 0 (.loop (.seq (.rg false [ ⟨some 9, .bin .lss 0 (.s 8) (.s 7), none⟩]) (.seq (.cond (.s 9) .skip (.exit 0)) (.seq (.block 1 (.seq (.rg false [ ⟨some 10, .ia (.s 6) (.s 8) 3, none⟩,  ⟨some 11, .ld (.s 10) 3 true, none⟩,  ⟨some 4, .alloc [.bool false, .str [], .row 3 []], none⟩,  ⟨none, .st (.s 4) (.s 11) 3, none⟩]) (.seq (.seq (.rg false [ ⟨some 12, .fa (.s 4) 0, none⟩,  ⟨some 13, .ld (.s 12) 1 false, none⟩,  ⟨some 14, .mv (.s 13), none⟩,  ⟨some 15, .ld (.s 2) 1 false, some (14, true)⟩,  ⟨some 16, .fa (.s 4) 1, some (14, true)⟩,  ⟨some 17, .ld (.s 16) 1 false, some (14, true)⟩,  ⟨some 18, .call false (.s 15) [.s 17], some (14, true)⟩,  ⟨some 19, .un .not (.s 18), some (14, true)⟩,  ⟨some 20, .pick (.s 14) (.s 19) (.c (.d .top (.bool false))), none⟩]) (.cond (.s 20) .ret .skip)) (.seq (.rg false [ ⟨some 21, .fa (.s 4) 2, none⟩,  ⟨some 22, .ld (.s 21) 1 false, none⟩,  ⟨some 23, .call false (.c (.fn 73 [] [])) [.s 22], none⟩]) (.block 2 (.rf (.s 23) [24] (.rg false [ ⟨some 5, .mv (.s 24), none⟩]) (.block 3 (.seq (.rg false [ ⟨some 25, .ld (.s 2) 1 false, none⟩,  ⟨some 26, .mv (.s 5), none⟩,  ⟨some 27, .call false (.s 25) [.s 26], none⟩,  ⟨some 28, .un .not (.s 27), none⟩]) (.cond (.s 28) .ret .skip))))))))) (.rg false [ ⟨some 29, .bin .add 0 (.s 8) (.c (.d .top (.int .i64 1))), none⟩,  ⟨some 8, .mv (.s 29), none⟩])))))))⟩
theorem has118 : Has E 118 af118 := ⟨Go.Proofs.Tryz.f118, [], true, Go.Proofs.Tryz.func118, by decide, by kernel_rfl⟩
def af133 : AF := ⟨1, 5, [.tmp 2], true, .seq (.rg false [ ⟨some 2, .mv (.c (.d .top (.bool false))), none⟩]) (.seq (.rg false [ ⟨some 3, .mv (.s 0), none⟩,  ⟨some 4, .bin .eql 1 (.s 3) (.c (.d .top (.str []))), none⟩,  ⟨some 2, .mv (.s 4), none⟩]) .ret)⟩
theorem has133 : Has E 133 af133 := ⟨Go.Proofs.Tryz.f133, [], true, Go.Proofs.Tryz.func133, by decide, by kernel_rfl⟩
def af134 : AF := ⟨1, 5, [.tmp 2], true, .seq (.rg false [ ⟨some 2, .mv (.c (.d .top (.bool false))), none⟩]) (.seq (.rg false [ ⟨some 3, .mv (.s 0), none⟩,  ⟨some 4, .call false (.c (.fn 55 [] [])) [.s 3, .c (.fn 163 [] []), .c (.fn 141 [] [])], none⟩,  ⟨some 2, .mv (.s 4), none⟩]) .ret)⟩
theorem has134 : Has E 134 af134 := ⟨Go.Proofs.Tryz.f134, [], true, Go.Proofs.Tryz.func134, by decide, by kernel_rfl⟩
def af137 : AF := ⟨2, 19, [.tmp 4], true, .seq (.rg false [ ⟨some 4, .mv (.c (.d .top (.int .i64 0))), none⟩]) (.seq (.seq (.rg false [ ⟨some 6, .mv (.s 0), none⟩,  ⟨some 7, .len false (.s 6), none⟩,  ⟨some 8, .mv (.c (.d .top (.int .i64 0))), none⟩]) (.block 0 (.loop (.seq (.rg false [ ⟨some 9, .bin .lss 0 (.s 8) (.s 7), none⟩]) (.seq (.cond (.s 9) .skip (.exit 0)) (.seq (.block 1 (.seq (.rg false [ ⟨some 10, .mv (.s 8), none⟩,  ⟨some 5, .mv (.s 10), none⟩]) (.seq (.rg false [ ⟨some 11, .mv (.s 1), none⟩,  ⟨some 12, .mv (.s 0), none⟩,  ⟨some 13, .mv (.s 5), none⟩,  ⟨some 14, .ia (.s 12) (.s 13) 3, none⟩,  ⟨some 15, .ld (.s 14) 3 true, none⟩,  ⟨some 16, .call false (.s 11) [.s 15], none⟩]) (.cond (.s 16) (.seq (.rg false [ ⟨some 17, .mv (.s 5), none⟩,  ⟨some 4, .mv (.s 17), none⟩]) .ret) .skip)))) (.rg false [ ⟨some 18, .bin .add 0 (.s 8) (.c (.d .top (.int .i64 1))), none⟩,  ⟨some 8, .mv (.s 18), none⟩]))))))) (.seq (.rg false [ ⟨some 4, .mv (.c (.d .top (.int .i64 (-1)))), none⟩]) .ret))⟩
theorem has137 : Has E 137 af137 := ⟨Go.Proofs.Tryz.f137, [], true, Go.Proofs.Tryz.func137, by decide, by kernel_rfl⟩
def af138 : AF := ⟨2, 19, [.tmp 4], true, .seq (.rg false [ ⟨some 4, .mv (.c (.d .top (.int .i64 0))), none⟩]) (.seq (.seq (.rg false [ ⟨some 6, .mv (.s 0), none⟩,  ⟨some 7, .len false (.s 6), none⟩,  ⟨some 8, .mv (.c (.d .top (.int .i64 0))), none⟩]) (.block 0 (.loop (.seq (.rg false [ ⟨some 9, .bin .lss 0 (.s 8) (.s 7), none⟩]) (.seq (.cond (.s 9) .skip (.exit 0)) (.seq (.block 1 (.seq (.rg false [ ⟨some 10, .mv (.s 8), none⟩,  ⟨some 5, .mv (.s 10), none⟩]) (.seq (.rg false [ ⟨some 11, .mv (.s 1), none⟩,  ⟨some 12, .mv (.s 0), none⟩,  ⟨some 13, .mv (.s 5), none⟩,  ⟨some 14, .ia (.s 12) (.s 13) 4, none⟩,  ⟨some 15, .ld (.s 14) 4 true, none⟩,  ⟨some 16, .call false (.s 11) [.s 15], none⟩]) (.cond (.s 16) (.seq (.rg false [ ⟨some 17, .mv (.s 5), none⟩,  ⟨some 4, .mv (.s 17), none⟩]) .ret) .skip)))) (.rg false [ ⟨some 18, .bin .add 0 (.s 8) (.c (.d .top (.int .i64 1))), none⟩,  ⟨some 8, .mv (.s 18), none⟩]))))))) (.seq (.rg false [ ⟨some 4, .mv (.c (.d .top (.int .i64 (-1)))), none⟩]) .ret))⟩
theorem has138 : Has E 138 af138 := ⟨Go.Proofs.Tryz.f138, [], true, Go.Proofs.Tryz.func138, by decide, by kernel_rfl⟩
def af139 : AF := ⟨2, 19, [.tmp 4], true, .seq (.rg false [ ⟨some 4, .mv (.c (.d .top (.int .i64 0))), none⟩]) (.seq (.seq (.rg false [ ⟨some 6, .mv (.s 0), none⟩,  ⟨some 7, .len false (.s 6), none⟩,  ⟨some 8, .mv (.c (.d .top (.int .i64 0))), none⟩]) (.block 0 (.loop (.seq (.rg false [ ⟨some 9, .bin .lss 0 (.s 8) (.s 7), none⟩]) (.seq (.cond (.s 9) .skip (.exit 0)) (.seq (.block 1 (.seq (.rg false [ ⟨some 10, .mv (.s 8), none⟩,  ⟨some 5, .mv (.s 10), none⟩]) (.seq (.rg false [ ⟨some 11, .mv (.s 1), none⟩,  ⟨some 12, .mv (.s 0), none⟩,  ⟨some 13, .mv (.s 5), none⟩,  ⟨some 14, .ia (.s 12) (.s 13) 1, none⟩,  ⟨some 15, .ld (.s 14) 1 false, none⟩,  ⟨some 16, .call false (.s 11) [.s 15], none⟩]) (.cond (.s 16) (.seq (.rg false [ ⟨some 17, .mv (.s 5), none⟩,  ⟨some 4, .mv (.s 17), none⟩]) .ret) .skip)))) (.rg false [ ⟨some 18, .bin .add 0 (.s 8) (.c (.d .top (.int .i64 1))), none⟩,  ⟨some 8, .mv (.s 18), none⟩]))))))) (.seq (.rg false [ ⟨some 4, .mv (.c (.d .top (.int .i64 (-1)))), none⟩]) .ret))⟩
theorem has139 : Has E 139 af139 := ⟨Go.Proofs.Tryz.f139, [], true, Go.Proofs.Tryz.func139, by decide, by kernel_rfl⟩
def af140 : AF := ⟨1, 9, [.tmp 2], true, .seq (.rg false [ ⟨some 2, .mv (.c (.d .top (.bool false))), none⟩]) (.seq (.rg false [ ⟨some 3, .mv (.s 0), none⟩,  ⟨some 4, .bin .geq 0 (.s 3) (.c (.d .top (.int .u8 97))), none⟩,  ⟨some 5, .mv (.s 4), none⟩,  ⟨some 6, .mv (.s 0), some (5, true)⟩,  ⟨some 7, .bin .leq 0 (.s 6) (.c (.d .top (.int .u8 116))), some (5, true)⟩,  ⟨some 8, .pick (.s 5) (.s 7) (.c (.d .top (.bool false))), none⟩,  ⟨some 2, .mv (.s 8), none⟩]) .ret)⟩
theorem has140 : Has E 140 af140 := ⟨Go.Proofs.Tryz.f140, [], true, Go.Proofs.Tryz.func140, by decide, by kernel_rfl⟩
def af141 : AF := ⟨1, 13, [.tmp 2], true, .seq (.rg false [ ⟨some 2, .mv (.c (.d .top (.bool false))), none⟩]) (.seq (.rg false [ ⟨some 3, .mv (.s 0), none⟩,  ⟨some 4, .call false (.c (.fn 164 [] [])) [.s 3], none⟩,  ⟨some 5, .mv (.s 4), none⟩,  ⟨some 6, .mv (.s 0), some (5, false)⟩,  ⟨some 7, .call false (.c (.fn 163 [] [])) [.s 6], some (5, false)⟩,  ⟨some 8, .pick (.s 5) (.c (.d .top (.bool true))) (.s 7), none⟩,  ⟨some 9, .mv (.s 8), none⟩,  ⟨some 10, .mv (.s 0), some (9, false)⟩,  ⟨some 11, .call false (.c (.fn 57 [] [])) [.s 10], some (9, false)⟩,  ⟨some 12, .pick (.s 9) (.c (.d .top (.bool true))) (.s 11), none⟩,  ⟨some 2, .mv (.s 12), none⟩]) .ret)⟩
theorem has141 : Has E 141 af141 := ⟨Go.Proofs.Tryz.f141, [], true, Go.Proofs.Tryz.func141, by decide, by kernel_rfl⟩
def af142 : AF := ⟨2, 13, [.tmp 4], true, .seq (.rg false [ ⟨some 2, .box (.s 0), none⟩,  ⟨some 4, .nil false 1, none⟩]) (.seq (.seq (.rg false [ ⟨some 6, .mv (.s 1), none⟩]) (.block 0 (.rf (.s 6) [7] (.rg false [ ⟨some 5, .mv (.s 7), none⟩]) (.block 1 (.rg false [ ⟨some 8, .ld (.s 2) 1 false, none⟩,  ⟨some 9, .mv (.s 5), none⟩,  ⟨some 10, .bslice 0 1 [.s 9], none⟩,  ⟨some 11, .app (.s 8) (.s 10) 1 16, none⟩,  ⟨none, .st (.s 2) (.s 11) 1, none⟩]))))) (.seq (.rg false [ ⟨some 12, .ld (.s 2) 1 false, none⟩,  ⟨some 4, .mv (.s 12), none⟩]) .ret))⟩
theorem has142 : Has E 142 af142 := ⟨Go.Proofs.Tryz.f142, [], true, Go.Proofs.Tryz.func142, by decide, by kernel_rfl⟩
def af143 : AF := ⟨2, 22, [.tmp 4], true, .seq (.rg false [ ⟨some 4, .nil false 3, none⟩]) (.seq (.rg false [ ⟨some 5, .nil false 3, none⟩]) (.seq (.seq (.rg false [ ⟨some 8, .mv (.s 0), none⟩,  ⟨some 9, .len false (.s 8), none⟩,  ⟨some 10, .mv (.c (.d .top (.int .i64 0))), none⟩]) (.block 0 (.loop (.seq (.rg false [ ⟨some 11, .bin .lss 0 (.s 10) (.s 9), none⟩]) (.seq (.cond (.s 11) .skip (.exit 0)) (.seq (.block 1 (.seq (.rg false [ ⟨some 12, .ia (.s 8) (.s 10) 3, none⟩,  ⟨some 13, .ld (.s 12) 3 true, none⟩,  ⟨some 7, .alloc [.bool false, .str [], .row 3 []], none⟩,  ⟨none, .st (.s 7) (.s 13) 3, none⟩]) (.rg false [ ⟨some 14, .mv (.s 5), none⟩,  ⟨some 15, .mv (.s 1), none⟩,  ⟨some 16, .ld (.s 7) 3 true, none⟩,  ⟨some 17, .call false (.s 15) [.s 16], none⟩,  ⟨some 18, .bslice 0 3 [.s 17], none⟩,  ⟨some 19, .app (.s 14) (.s 18) 3 48, none⟩,  ⟨some 5, .mv (.s 19), none⟩]))) (.rg false [ ⟨some 20, .bin .add 0 (.s 10) (.c (.d .top (.int .i64 1))), none⟩,  ⟨some 10, .mv (.s 20), none⟩]))))))) (.seq (.rg false [ ⟨some 21, .mv (.s 5), none⟩,  ⟨some 4, .mv (.s 21), none⟩]) .ret)))⟩
theorem has143 : Has E 143 af143 := ⟨Go.Proofs.Tryz.f143, [], true, Go.Proofs.Tryz.func143, by decide, by kernel_rfl⟩
def af144 : AF := ⟨1, 8, [.cell 2 3 true], true, .seq (.rg false [ ⟨some 1, .box (.s 0), none⟩,  ⟨some 2, .alloc [.bool false, .str [], .row 3 []], none⟩]) (.seq (.rg false [ ⟨some 3, .fa (.s 1) 2, none⟩,  ⟨some 4, .ld (.s 3) 1 false, none⟩,  ⟨some 5, .call false (.c (.fn 143 [] [])) [.s 4, .c (.fn 144 [] [])], none⟩,  ⟨some 6, .fa (.s 1) 2, none⟩,  ⟨none, .st (.s 6) (.s 5) 1, none⟩]) (.seq (.rg false [ ⟨some 7, .ld (.s 1) 3 true, none⟩,  ⟨none, .st (.s 2) (.s 7) 3, none⟩]) .ret))⟩
theorem has144 : Has E 144 af144 := ⟨Go.Proofs.Tryz.f144, [], true, Go.Proofs.Tryz.func144, by decide, by kernel_rfl⟩
def af145 : AF := ⟨2, 22, [.tmp 4], true, .seq (.rg false [ ⟨some 4, .nil false 4, none⟩]) (.seq (.rg false [ ⟨some 5, .nil false 4, none⟩]) (.seq (.seq (.rg false [ ⟨some 8, .mv (.s 0), none⟩,  ⟨some 9, .len false (.s 8), none⟩,  ⟨some 10, .mv (.c (.d .top (.int .i64 0))), none⟩]) (.block 0 (.loop (.seq (.rg false [ ⟨some 11, .bin .lss 0 (.s 10) (.s 9), none⟩]) (.seq (.cond (.s 11) .skip (.exit 0)) (.seq (.block 1 (.seq (.rg false [ ⟨some 12, .ia (.s 8) (.s 10) 4, none⟩,  ⟨some 13, .ld (.s 12) 4 true, none⟩,  ⟨some 7, .alloc [.int .u8 0, .str [], .row 3 [], .row 4 []], none⟩,  ⟨none, .st (.s 7) (.s 13) 4, none⟩]) (.rg false [ ⟨some 14, .mv (.s 5), none⟩,  ⟨some 15, .mv (.s 1), none⟩,  ⟨some 16, .ld (.s 7) 4 true, none⟩,  ⟨some 17, .call false (.s 15) [.s 16], none⟩,  ⟨some 18, .bslice 0 4 [.s 17], none⟩,  ⟨some 19, .app (.s 14) (.s 18) 4 72, none⟩,  ⟨some 5, .mv (.s 19), none⟩]))) (.rg false [ ⟨some 20, .bin .add 0 (.s 10) (.c (.d .top (.int .i64 1))), none⟩,  ⟨some 10, .mv (.s 20), none⟩]))))))) (.seq (.rg false [ ⟨some 21, .mv (.s 5), none⟩,  ⟨some 4, .mv (.s 21), none⟩]) .ret)))⟩
theorem has145 : Has E 145 af145 := ⟨Go.Proofs.Tryz.f145, [], true, Go.Proofs.Tryz.func145, by decide, by kernel_rfl⟩
def af148 : AF := ⟨1, 18, [.tmp 2], true, .seq (.rg false [ ⟨some 2, .mv (.c (.d .top (.int .i64 0))), none⟩]) (.seq (.rg false [ ⟨some 3, .mv (.c (.d .top (.int .i64 0))), none⟩]) (.seq (.seq (.rg false [ ⟨some 6, .mv (.s 0), none⟩,  ⟨some 7, .len false (.s 6), none⟩,  ⟨some 8, .mv (.c (.d .top (.int .i64 0))), none⟩]) (.block 0 (.loop (.seq (.rg false [ ⟨some 9, .bin .lss 0 (.s 8) (.s 7), none⟩]) (.seq (.cond (.s 9) .skip (.exit 0)) (.seq (.block 1 (.seq (.rg false [ ⟨some 10, .ia (.s 6) (.s 8) 1, none⟩,  ⟨some 11, .ld (.s 10) 1 false, none⟩,  ⟨some 5, .mv (.s 11), none⟩]) (.seq (.rg false [ ⟨some 12, .mv (.s 5), none⟩,  ⟨some 13, .mv (.s 3), none⟩,  ⟨some 14, .bin .neq 0 (.s 12) (.s 13), none⟩]) (.cond (.s 14) (.seq (.rg false [ ⟨some 15, .mv (.s 5), none⟩,  ⟨some 2, .mv (.s 15), none⟩]) .ret) .skip)))) (.rg false [ ⟨some 16, .bin .add 0 (.s 8) (.c (.d .top (.int .i64 1))), none⟩,  ⟨some 8, .mv (.s 16), none⟩]))))))) (.seq (.rg false [ ⟨some 17, .mv (.s 3), none⟩,  ⟨some 2, .mv (.s 17), none⟩]) .ret)))⟩
theorem has148 : Has E 148 af148 := ⟨Go.Proofs.Tryz.f148, [], true, Go.Proofs.Tryz.func148, by decide, by kernel_rfl⟩
def af149 : AF := ⟨2, 20, [.tmp 4], true, .seq (.rg false [ ⟨some 4, .mv (.c (.d .top (.int .i64 0))), none⟩]) (.seq (.rg false [ ⟨some 7, .mv (.s 0), none⟩,  ⟨some 8, .call false (.c (.fn 176 [] [])) [.s 7], none⟩,  ⟨some 5, .mv (.s 8), none⟩]) (.seq (.rg false [ ⟨some 9, .mv (.s 1), none⟩,  ⟨some 10, .call false (.c (.fn 176 [] [])) [.s 9], none⟩,  ⟨some 6, .mv (.s 10), none⟩]) (.seq (.seq (.rg false [ ⟨some 11, .mv (.s 5), none⟩]) (.cond (.s 11) (.seq (.seq (.rg false [ ⟨some 12, .mv (.s 6), none⟩]) (.cond (.s 12) (.seq (.rg false [ ⟨some 4, .mv (.c (.d .top (.int .i64 0))), none⟩]) .ret) .skip)) (.seq (.rg false [ ⟨some 4, .mv (.c (.d .top (.int .i64 (-1)))), none⟩]) .ret)) .skip)) (.seq (.seq (.rg false [ ⟨some 13, .mv (.s 6), none⟩]) (.cond (.s 13) (.seq (.rg false [ ⟨some 4, .mv (.c (.d .top (.int .i64 1))), none⟩]) .ret) .skip)) (.seq (.seq (.rg false [ ⟨some 14, .mv (.s 0), none⟩,  ⟨some 15, .mv (.s 1), none⟩,  ⟨some 16, .bin .lss 0 (.s 14) (.s 15), none⟩]) (.cond (.s 16) (.seq (.rg false [ ⟨some 4, .mv (.c (.d .top (.int .i64 (-1)))), none⟩]) .ret) .skip)) (.seq (.seq (.rg false [ ⟨some 17, .mv (.s 0), none⟩,  ⟨some 18, .mv (.s 1), none⟩,  ⟨some 19, .bin .gtr 0 (.s 17) (.s 18), none⟩]) (.cond (.s 19) (.seq (.rg false [ ⟨some 4, .mv (.c (.d .top (.int .i64 1))), none⟩]) .ret) .skip)) (.seq (.rg false [ ⟨some 4, .mv (.c (.d .top (.int .i64 0))), none⟩]) .ret)))))))⟩
theorem has149 : Has E 149 af149 := ⟨Go.Proofs.Tryz.f149, [], true, Go.Proofs.Tryz.func149, by decide, by kernel_rfl⟩
def af150 : AF := ⟨2, 20, [.tmp 4], true, .seq (.rg false [ ⟨some 4, .mv (.c (.d .top (.int .i64 0))), none⟩]) (.seq (.rg false [ ⟨some 7, .mv (.s 0), none⟩,  ⟨some 8, .call false (.c (.fn 177 [] [])) [.s 7], none⟩,  ⟨some 5, .mv (.s 8), none⟩]) (.seq (.rg false [ ⟨some 9, .mv (.s 1), none⟩,  ⟨some 10, .call false (.c (.fn 177 [] [])) [.s 9], none⟩,  ⟨some 6, .mv (.s 10), none⟩]) (.seq (.seq (.rg false [ ⟨some 11, .mv (.s 5), none⟩]) (.cond (.s 11) (.seq (.seq (.rg false [ ⟨some 12, .mv (.s 6), none⟩]) (.cond (.s 12) (.seq (.rg false [ ⟨some 4, .mv (.c (.d .top (.int .i64 0))), none⟩]) .ret) .skip)) (.seq (.rg false [ ⟨some 4, .mv (.c (.d .top (.int .i64 (-1)))), none⟩]) .ret)) .skip)) (.seq (.seq (.rg false [ ⟨some 13, .mv (.s 6), none⟩]) (.cond (.s 13) (.seq (.rg false [ ⟨some 4, .mv (.c (.d .top (.int .i64 1))), none⟩]) .ret) .skip)) (.seq (.seq (.rg false [ ⟨some 14, .mv (.s 0), none⟩,  ⟨some 15, .mv (.s 1), none⟩,  ⟨some 16, .bin .lss 1 (.s 14) (.s 15), none⟩]) (.cond (.s 16) (.seq (.rg false [ ⟨some 4, .mv (.c (.d .top (.int .i64 (-1)))), none⟩]) .ret) .skip)) (.seq (.seq (.rg false [ ⟨some 17, .mv (.s 0), none⟩,  ⟨some 18, .mv (.s 1), none⟩,  ⟨some 19, .bin .gtr 1 (.s 17) (.s 18), none⟩]) (.cond (.s 19) (.seq (.rg false [ ⟨some 4, .mv (.c (.d .top (.int .i64 1))), none⟩]) .ret) .skip)) (.seq (.rg false [ ⟨some 4, .mv (.c (.d .top (.int .i64 0))), none⟩]) .ret)))))))⟩
theorem has150 : Has E 150 af150 := ⟨Go.Proofs.Tryz.f150, [], true, Go.Proofs.Tryz.func150, by decide, by kernel_rfl⟩
def af151 : AF := ⟨3, 21, [.tmp 6], true, .seq (.rg false [ ⟨some 6, .mv (.c (.d .top (.int .i64 0))), none⟩]) (.seq (.seq (.rg false [ ⟨some 7, .mv (.s 0), none⟩,  ⟨some 8, .len false (.s 7), none⟩,  ⟨some 9, .mv (.s 1), none⟩,  ⟨some 10, .len false (.s 9), none⟩,  ⟨some 11, .bin .neq 0 (.s 8) (.s 10), none⟩]) (.cond (.s 11) (.seq (.rg false [ ⟨some 12, .mv (.s 0), none⟩,  ⟨some 13, .len false (.s 12), none⟩,  ⟨some 14, .mv (.s 1), none⟩,  ⟨some 15, .len false (.s 14), none⟩,  ⟨some 16, .call false (.c (.fn 178 [] [])) [.s 13, .s 15], none⟩,  ⟨some 6, .mv (.s 16), none⟩]) .ret) .skip)) (.seq (.rg false [ ⟨some 17, .mv (.s 0), none⟩,  ⟨some 18, .mv (.s 1), none⟩,  ⟨some 19, .mv (.s 2), none⟩,  ⟨some 20, .call false (.c (.fn 179 [] [])) [.s 17, .s 18, .s 19], none⟩,  ⟨some 6, .mv (.s 20), none⟩]) .ret))⟩
theorem has151 : Has E 151 af151 := ⟨Go.Proofs.Tryz.f151, [], true, Go.Proofs.Tryz.func151, by decide, by kernel_rfl⟩
def af152 : AF := ⟨2, 33, [.tmp 4], true, .seq (.rg false [ ⟨some 2, .box (.s 0), none⟩,  ⟨some 3, .box (.s 1), none⟩,  ⟨some 4, .mv (.c (.d .top (.int .i64 0))), none⟩]) (.seq (.block 0 (.seq (.rg false [ ⟨some 6, .fa (.s 2) 0, none⟩,  ⟨some 7, .ld (.s 6) 1 false, none⟩,  ⟨some 8, .mv (.s 7), none⟩,  ⟨some 9, .fa (.s 3) 0, some (8, true)⟩,  ⟨some 10, .ld (.s 9) 1 false, some (8, true)⟩,  ⟨some 11, .un .not (.s 10), some (8, true)⟩,  ⟨some 12, .pick (.s 8) (.s 11) (.c (.d .top (.bool false))), none⟩,  ⟨some 5, .mv (.s 12), none⟩]) (.cond (.s 5) (.seq (.rg false [ ⟨some 4, .mv (.c (.d .top (.int .i64 (-1)))), none⟩]) .ret) (.seq (.rg false [ ⟨some 14, .fa (.s 3) 0, none⟩,  ⟨some 15, .ld (.s 14) 1 false, none⟩,  ⟨some 16, .mv (.s 15), none⟩,  ⟨some 17, .fa (.s 2) 0, some (16, true)⟩,  ⟨some 18, .ld (.s 17) 1 false, some (16, true)⟩,  ⟨some 19, .un .not (.s 18), some (16, true)⟩,  ⟨some 20, .pick (.s 16) (.s 19) (.c (.d .top (.bool false))), none⟩,  ⟨some 13, .mv (.s 20), none⟩]) (.cond (.s 13) (.seq (.rg false [ ⟨some 4, .mv (.c (.d .top (.int .i64 1))), none⟩]) .ret) .skip))))) (.seq (.rg true [ ⟨some 21, .fa (.s 2) 1, none⟩,  ⟨some 22, .ld (.s 21) 1 false, none⟩,  ⟨some 23, .fa (.s 3) 1, none⟩,  ⟨some 24, .ld (.s 23) 1 false, none⟩,  ⟨some 25, .call false (.c (.fn 150 [] [])) [.s 22, .s 24], none⟩,  ⟨some 26, .fa (.s 2) 2, none⟩,  ⟨some 27, .ld (.s 26) 1 false, none⟩,  ⟨some 28, .fa (.s 3) 2, none⟩,  ⟨some 29, .ld (.s 28) 1 false, none⟩,  ⟨some 30, .call false (.c (.fn 151 [] [])) [.s 27, .s 29, .c (.fn 152 [] [])], none⟩,  ⟨some 31, .bslice 0 1 [.s 25, .s 30], none⟩,  ⟨some 32, .call false (.c (.fn 148 [] [])) [.s 31], none⟩,  ⟨some 4, .mv (.s 32), none⟩]) .ret))⟩
theorem has152 : Has E 152 af152 := ⟨Go.Proofs.Tryz.f152, [], true, Go.Proofs.Tryz.func152, by decide, by kernel_rfl⟩
def af153 : AF := ⟨3, 21, [.tmp 6], true, .seq (.rg false [ ⟨some 6, .mv (.c (.d .top (.int .i64 0))), none⟩]) (.seq (.seq (.rg false [ ⟨some 7, .mv (.s 0), none⟩,  ⟨some 8, .len false (.s 7), none⟩,  ⟨some 9, .mv (.s 1), none⟩,  ⟨some 10, .len false (.s 9), none⟩,  ⟨some 11, .bin .neq 0 (.s 8) (.s 10), none⟩]) (.cond (.s 11) (.seq (.rg false [ ⟨some 12, .mv (.s 0), none⟩,  ⟨some 13, .len false (.s 12), none⟩,  ⟨some 14, .mv (.s 1), none⟩,  ⟨some 15, .len false (.s 14), none⟩,  ⟨some 16, .call false (.c (.fn 178 [] [])) [.s 13, .s 15], none⟩,  ⟨some 6, .mv (.s 16), none⟩]) .ret) .skip)) (.seq (.rg false [ ⟨some 17, .mv (.s 0), none⟩,  ⟨some 18, .mv (.s 1), none⟩,  ⟨some 19, .mv (.s 2), none⟩,  ⟨some 20, .call false (.c (.fn 180 [] [])) [.s 17, .s 18, .s 19], none⟩,  ⟨some 6, .mv (.s 20), none⟩]) .ret))⟩
theorem has153 : Has E 153 af153 := ⟨Go.Proofs.Tryz.f153, [], true, Go.Proofs.Tryz.func153, by decide, by kernel_rfl⟩
def af163 : AF := ⟨1, 9, [.tmp 2], true, .seq (.rg false [ ⟨some 2, .mv (.c (.d .top (.bool false))), none⟩]) (.seq (.rg false [ ⟨some 3, .mv (.s 0), none⟩,  ⟨some 4, .bin .geq 0 (.s 3) (.c (.d .top (.int .u8 65))), none⟩,  ⟨some 5, .mv (.s 4), none⟩,  ⟨some 6, .mv (.s 0), some (5, true)⟩,  ⟨some 7, .bin .leq 0 (.s 6) (.c (.d .top (.int .u8 90))), some (5, true)⟩,  ⟨some 8, .pick (.s 5) (.s 7) (.c (.d .top (.bool false))), none⟩,  ⟨some 2, .mv (.s 8), none⟩]) .ret)⟩
theorem has163 : Has E 163 af163 := ⟨Go.Proofs.Tryz.f163, [], true, Go.Proofs.Tryz.func163, by decide, by kernel_rfl⟩
def af164 : AF := ⟨1, 9, [.tmp 2], true, .seq (.rg false [ ⟨some 2, .mv (.c (.d .top (.bool false))), none⟩]) (.seq (.rg false [ ⟨some 3, .mv (.s 0), none⟩,  ⟨some 4, .bin .geq 0 (.s 3) (.c (.d .top (.int .u8 97))), none⟩,  ⟨some 5, .mv (.s 4), none⟩,  ⟨some 6, .mv (.s 0), some (5, true)⟩,  ⟨some 7, .bin .leq 0 (.s 6) (.c (.d .top (.int .u8 122))), some (5, true)⟩,  ⟨some 8, .pick (.s 5) (.s 7) (.c (.d .top (.bool false))), none⟩,  ⟨some 2, .mv (.s 8), none⟩]) .ret)⟩
theorem has164 : Has E 164 af164 := ⟨Go.Proofs.Tryz.f164, [], true, Go.Proofs.Tryz.func164, by decide, by kernel_rfl⟩
def af176 : AF := ⟨1, 6, [.tmp 2], true, .seq (.rg false [ ⟨some 2, .mv (.c (.d .top (.bool false))), none⟩]) (.seq (.rg false [ ⟨some 3, .mv (.s 0), none⟩,  ⟨some 4, .mv (.s 0), none⟩,  ⟨some 5, .bin .neq 0 (.s 3) (.s 4), none⟩,  ⟨some 2, .mv (.s 5), none⟩]) .ret)⟩
theorem has176 : Has E 176 af176 := ⟨Go.Proofs.Tryz.f176, [], true, Go.Proofs.Tryz.func176, by decide, by kernel_rfl⟩
def af177 : AF := ⟨1, 6, [.tmp 2], true, .seq (.rg false [ ⟨some 2, .mv (.c (.d .top (.bool false))), none⟩]) (.seq (.rg false [ ⟨some 3, .mv (.s 0), none⟩,  ⟨some 4, .mv (.s 0), none⟩,  ⟨some 5, .bin .neq 1 (.s 3) (.s 4), none⟩,  ⟨some 2, .mv (.s 5), none⟩]) .ret)⟩
theorem has177 : Has E 177 af177 := ⟨Go.Proofs.Tryz.f177, [], true, Go.Proofs.Tryz.func177, by decide, by kernel_rfl⟩
def af178 : AF := ⟨2, 20, [.tmp 4], true, .seq (.rg false [ ⟨some 4, .mv (.c (.d .top (.int .i64 0))), none⟩]) (.seq (.rg false [ ⟨some 7, .mv (.s 0), none⟩,  ⟨some 8, .call false (.c (.fn 194 [] [])) [.s 7], none⟩,  ⟨some 5, .mv (.s 8), none⟩]) (.seq (.rg false [ ⟨some 9, .mv (.s 1), none⟩,  ⟨some 10, .call false (.c (.fn 194 [] [])) [.s 9], none⟩,  ⟨some 6, .mv (.s 10), none⟩]) (.seq (.seq (.rg false [ ⟨some 11, .mv (.s 5), none⟩]) (.cond (.s 11) (.seq (.seq (.rg false [ ⟨some 12, .mv (.s 6), none⟩]) (.cond (.s 12) (.seq (.rg false [ ⟨some 4, .mv (.c (.d .top (.int .i64 0))), none⟩]) .ret) .skip)) (.seq (.rg false [ ⟨some 4, .mv (.c (.d .top (.int .i64 (-1)))), none⟩]) .ret)) .skip)) (.seq (.seq (.rg false [ ⟨some 13, .mv (.s 6), none⟩]) (.cond (.s 13) (.seq (.rg false [ ⟨some 4, .mv (.c (.d .top (.int .i64 1))), none⟩]) .ret) .skip)) (.seq (.seq (.rg false [ ⟨some 14, .mv (.s 0), none⟩,  ⟨some 15, .mv (.s 1), none⟩,  ⟨some 16, .bin .lss 0 (.s 14) (.s 15), none⟩]) (.cond (.s 16) (.seq (.rg false [ ⟨some 4, .mv (.c (.d .top (.int .i64 (-1)))), none⟩]) .ret) .skip)) (.seq (.seq (.rg false [ ⟨some 17, .mv (.s 0), none⟩,  ⟨some 18, .mv (.s 1), none⟩,  ⟨some 19, .bin .gtr 0 (.s 17) (.s 18), none⟩]) (.cond (.s 19) (.seq (.rg false [ ⟨some 4, .mv (.c (.d .top (.int .i64 1))), none⟩]) .ret) .skip)) (.seq (.rg false [ ⟨some 4, .mv (.c (.d .top (.int .i64 0))), none⟩]) .ret)))))))⟩
theorem has178 : Has E 178 af178 := ⟨Go.Proofs.Tryz.f178, [], true, Go.Proofs.Tryz.func178, by decide, by kernel_rfl⟩
def af179 : AF := ⟨3, 39, [.tmp 6], true, .seq (.rg false [ ⟨some 6, .mv (.c (.d .top (.int .i64 0))), none⟩]) (.seq (.seq (.rg false [ ⟨some 11, .mv (.s 0), none⟩,  ⟨some 12, .len false (.s 11), none⟩,  ⟨some 13, .mv (.c (.d .top (.int .i64 0))), none⟩]) (.block 0 (.loop (.seq (.rg false [ ⟨some 14, .bin .lss 0 (.s 13) (.s 12), none⟩]) (.seq (.cond (.s 14) .skip (.exit 0)) (.seq (.block 1 (.seq (.rg false [ ⟨some 15, .mv (.s 13), none⟩,  ⟨some 16, .ia (.s 11) (.s 13) 3, none⟩,  ⟨some 17, .ld (.s 16) 3 true, none⟩,  ⟨some 8, .alloc [.bool false, .str [], .row 3 []], none⟩,  ⟨some 7, .mv (.s 15), none⟩,  ⟨none, .st (.s 8) (.s 17) 3, none⟩]) (.seq (.seq (.rg false [ ⟨some 18, .mv (.s 7), none⟩,  ⟨some 19, .mv (.s 1), none⟩,  ⟨some 20, .len false (.s 19), none⟩,  ⟨some 21, .bin .geq 0 (.s 18) (.s 20), none⟩]) (.cond (.s 21) (.seq (.rg false [ ⟨some 6, .mv (.c (.d .top (.int .i64 1))), none⟩]) .ret) .skip)) (.seq (.rg false [ ⟨some 22, .mv (.s 1), none⟩,  ⟨some 23, .mv (.s 7), none⟩,  ⟨some 24, .ia (.s 22) (.s 23) 3, none⟩,  ⟨some 25, .ld (.s 24) 3 true, none⟩,  ⟨some 9, .alloc [.bool false, .str [], .row 3 []], none⟩,  ⟨none, .st (.s 9) (.s 25) 3, none⟩]) (.seq (.rg false [ ⟨some 26, .mv (.s 2), none⟩,  ⟨some 27, .ld (.s 8) 3 true, none⟩,  ⟨some 28, .ld (.s 9) 3 true, none⟩,  ⟨some 29, .call false (.s 26) [.s 27, .s 28], none⟩,  ⟨some 10, .mv (.s 29), none⟩]) (.seq (.rg false [ ⟨some 30, .mv (.s 10), none⟩,  ⟨some 31, .bin .neq 0 (.s 30) (.c (.d .top (.int .i64 0))), none⟩]) (.cond (.s 31) (.seq (.rg false [ ⟨some 32, .mv (.s 10), none⟩,  ⟨some 6, .mv (.s 32), none⟩]) .ret) .skip))))))) (.rg false [ ⟨some 33, .bin .add 0 (.s 13) (.c (.d .top (.int .i64 1))), none⟩,  ⟨some 13, .mv (.s 33), none⟩]))))))) (.seq (.seq (.rg false [ ⟨some 34, .mv (.s 0), none⟩,  ⟨some 35, .len false (.s 34), none⟩,  ⟨some 36, .mv (.s 1), none⟩,  ⟨some 37, .len false (.s 36), none⟩,  ⟨some 38, .bin .lss 0 (.s 35) (.s 37), none⟩]) (.cond (.s 38) (.seq (.rg false [ ⟨some 6, .mv (.c (.d .top (.int .i64 (-1)))), none⟩]) .ret) .skip)) (.seq (.rg false [ ⟨some 6, .mv (.c (.d .top (.int .i64 0))), none⟩]) .ret)))⟩
theorem has179 : Has E 179 af179 := ⟨Go.Proofs.Tryz.f179, [], true, Go.Proofs.Tryz.func179, by decide, by kernel_rfl⟩
def af180 : AF := ⟨3, 39, [.tmp 6], true, .seq (.rg false [ ⟨some 6, .mv (.c (.d .top (.int .i64 0))), none⟩]) (.seq (.seq (.rg false [ ⟨some 11, .mv (.s 0), none⟩,  ⟨some 12, .len false (.s 11), none⟩,  ⟨some 13, .mv (.c (.d .top (.int .i64 0))), none⟩]) (.block 0 (.loop (.seq (.rg false [ ⟨some 14, .bin .lss 0 (.s 13) (.s 12), none⟩]) (.seq (.cond (.s 14) .skip (.exit 0)) (.seq (.block 1 (.seq (.rg false [ ⟨some 15, .mv (.s 13), none⟩,  ⟨some 16, .ia (.s 11) (.s 13) 4, none⟩,  ⟨some 17, .ld (.s 16) 4 true, none⟩,  ⟨some 8, .alloc [.int .u8 0, .str [], .row 3 [], .row 4 []], none⟩,  ⟨some 7, .mv (.s 15), none⟩,  ⟨none, .st (.s 8) (.s 17) 4, none⟩]) (.seq (.seq (.rg false [ ⟨some 18, .mv (.s 7), none⟩,  ⟨some 19, .mv (.s 1), none⟩,  ⟨some 20, .len false (.s 19), none⟩,  ⟨some 21, .bin .geq 0 (.s 18) (.s 20), none⟩]) (.cond (.s 21) (.seq (.rg false [ ⟨some 6, .mv (.c (.d .top (.int .i64 1))), none⟩]) .ret) .skip)) (.seq (.rg false [ ⟨some 22, .mv (.s 1), none⟩,  ⟨some 23, .mv (.s 7), none⟩,  ⟨some 24, .ia (.s 22) (.s 23) 4, none⟩,  ⟨some 25, .ld (.s 24) 4 true, none⟩,  ⟨some 9, .alloc [.int .u8 0, .str [], .row 3 [], .row 4 []], none⟩,  ⟨none, .st (.s 9) (.s 25) 4, none⟩]) (.seq (.rg false [ ⟨some 26, .mv (.s 2), none⟩,  ⟨some 27, .ld (.s 8) 4 true, none⟩,  ⟨some 28, .ld (.s 9) 4 true, none⟩,  ⟨some 29, .call false (.s 26) [.s 27, .s 28], none⟩,  ⟨some 10, .mv (.s 29), none⟩]) (.seq (.rg false [ ⟨some 30, .mv (.s 10), none⟩,  ⟨some 31, .bin .neq 0 (.s 30) (.c (.d .top (.int .i64 0))), none⟩]) (.cond (.s 31) (.seq (.rg false [ ⟨some 32, .mv (.s 10), none⟩,  ⟨some 6, .mv (.s 32), none⟩]) .ret) .skip))))))) (.rg false [ ⟨some 33, .bin .add 0 (.s 13) (.c (.d .top (.int .i64 1))), none⟩,  ⟨some 13, .mv (.s 33), none⟩]))))))) (.seq (.seq (.rg false [ ⟨some 34, .mv (.s 0), none⟩,  ⟨some 35, .len false (.s 34), none⟩,  ⟨some 36, .mv (.s 1), none⟩,  ⟨some 37, .len false (.s 36), none⟩,  ⟨some 38, .bin .lss 0 (.s 35) (.s 37), none⟩]) (.cond (.s 38) (.seq (.rg false [ ⟨some 6, .mv (.c (.d .top (.int .i64 (-1)))), none⟩]) .ret) .skip)) (.seq (.rg false [ ⟨some 6, .mv (.c (.d .top (.int .i64 0))), none⟩]) .ret)))⟩
theorem has180 : Has E 180 af180 := ⟨Go.Proofs.Tryz.f180, [], true, Go.Proofs.Tryz.func180, by decide, by kernel_rfl⟩
end Go.Ly.Tr
end
section
namespace Go.Ly.Tr
set_option maxRecDepth 4000
mutual
def Tm.hi : Tm → Nat
  | .mk _ _ us => Tm.his us + 1
def Tm.his : List Tm → Nat
  | [] => 0
  | t :: ts => max t.hi (Tm.his ts)
end
theorem his_app : ∀ a b : List Tm, Tm.his (a ++ b) = max (Tm.his a) (Tm.his b)
  | [], b => by simp [Tm.his]
  | t :: a, b => by simp only [List.cons_append, Tm.his, his_app a b]; omega
theorem hi_le : ∀ (n : Nat), (∀ t : Tm, t.size ≤ n → t.hi ≤ t.size) ∧ (∀ l : List Tm, Tm.size.sizes l ≤ n → Tm.his l ≤ Tm.size.sizes l) := by
  have main : ∀ n, ∀ t : Tm, t.size ≤ n → t.hi ≤ t.size := by
    intro n
    induction n with
    | zero => intro t ht; cases t; simp [Tm.size] at ht
    | succ n ih =>
      intro t ht
      obtain ⟨v, nm, us⟩ := t
      simp only [Tm.size, Tm.hi] at ht ⊢
      have : ∀ l : List Tm, Tm.size.sizes l ≤ n → Tm.his l ≤ Tm.size.sizes l := by
        intro l
        induction l with
        | nil => intro _; exact Nat.le_refl _
        | cons a l ihl =>
          intro h
          simp only [Tm.size.sizes, Tm.his] at h ⊢
          have := ih a (by omega)
          have := ihl (by omega)
          omega
      have := this us (by omega)
      omega
  refine fun n => ⟨main n, fun l => ?_⟩
  induction l with
  | nil => intro _; exact Nat.le_refl _
  | cons a l ihl =>
    intro h
    simp only [Tm.size.sizes, Tm.his] at h ⊢
    have := main _ a (Nat.le_refl _)
    have := ihl (by omega)
    omega
theorem Tm.sizes_app : ∀ a b : List Tm, Tm.size.sizes (a ++ b) = Tm.size.sizes a + Tm.size.sizes b
  | [], b => by simp [Tm.size.sizes]
  | t :: a, b => by simp only [List.cons_append, Tm.size.sizes, Tm.sizes_app a b]; omega
theorem high_ok (l : List Tm) (hs : Tm.size.sizes l ≤ 1000000) : Pure E 107 [.d .old (.row 3 (Tm.ds l))] (.d .top (.int .i64 (Tm.his l))) := by
  obtain ⟨n, hn⟩ : ∃ n, Tm.size.sizes l < n := ⟨_, Nat.lt_succ_self _⟩
  induction n generalizing l with
  | zero => omega
  | succ n ih =>
  have hlen := Tm.len_size l
  refine pure_by has107 ?_
  generalize hp : std = p
  (generalize cq0 : Tm.ds = cy0; generalize cq1 : Tm.his = cy1; cbv <;> subst cq0 cq1)
  subst hp
  refine loopA_list l (fun d r => mkF 20 [(3, .d .top (.int .i64 (Tm.his d))), (6, .d .old (.row 3 (Tm.ds l))), (7, .d .top (.int .i64 (std.dlen (Tm.ds l)))), (8, .d .top (.int .i64 (std.dlen (Tm.ds d))))])
    (fun d r => []) (fun _ _ => ()) ?_ rfl (fun _ _ => rfl) ?_ ?_
  · generalize hp : std = p
    (generalize cq0 : Tm.ds = cy0; generalize cq1 : Tm.his = cy1; cbv <;> subst cq0 cq1)
    subst hp
    simp [std, Tm.his, Tm.ds]
  · generalize hp : std = p
    (generalize cq0 : Tm.ds = cy0; generalize cq1 : Tm.his = cy1; cbv <;> subst cq0 cq1)
    simp only [end_ltT hp]
    (generalize cq0 : Tm.ds = cy0; generalize cq1 : Tm.his = cy1; cbv <;> subst cq0 cq1)
  · intro d e r d' hes hd'
    obtain ⟨v, nm, us⟩ := e
    have hsz : Tm.size.sizes l = Tm.size.sizes d + (Tm.size.sizes us + 1 + Tm.size.sizes r) := by rw [hes, Tm.sizes_app]; simp [Tm.size.sizes, Tm.size]
    have hhi := (hi_le _).2 us (Nat.le_refl _)
    generalize hp : std = p
    (generalize cq0 : Tm.ds = cy0; generalize cq1 : Tm.his = cy1; cbv <;> subst cq0 cq1)
    simp only [at_ltT hp hes]
    (generalize cq0 : Tm.ds = cy0; generalize cq1 : Tm.his = cy1; cbv <;> subst cq0 cq1)
    refine ⟨_, at_getT hp hes, ?_⟩
    (generalize cq0 : Tm.ds = cy0; generalize cq1 : Tm.his = cy1; cbv <;> subst cq0 cq1)
    refine callA.pure (ih us (by omega) (by omega)) rfl ?_
    (generalize cq0 : Tm.ds = cy0; generalize cq1 : Tm.his = cy1; cbv <;> subst cq0 cq1)
    subst hp hd'
    have hdl : d.length + (r.length + 1) = l.length := by rw [hes]; simp
    simp [std, his_app, Tm.his, Tm.hi, Tm.ds_len]
    omega
end Go.Ly.Tr
end
section
namespace Go.Ly.Tr
set_option maxRecDepth 4000
mutual
def Frm.hi : Frm → Nat
  | .mk _ _ us fs => max (Tm.his us) (Frm.his fs) + 1
def Frm.his : List Frm → Nat
  | [] => 0
  | t :: ts => max t.hi (Frm.his ts)
end
theorem Frm.his_app : ∀ a b : List Frm, Frm.his (a ++ b) = max (Frm.his a) (Frm.his b)
  | [], b => by simp [Frm.his]
  | t :: a, b => by simp only [List.cons_append, Frm.his, Frm.his_app a b]; omega
theorem Frm.sizes_app : ∀ a b : List Frm, Frm.size.sizes (a ++ b) = Frm.size.sizes a + Frm.size.sizes b
  | [], b => by simp [Frm.size.sizes]
  | t :: a, b => by simp only [List.cons_append, Frm.size.sizes, Frm.sizes_app a b]; omega
theorem Frm.hi_le (f : Frm) : f.hi ≤ f.size := by
  induction f using Frm.ind with
  | h o n us fs ih =>
    simp only [Frm.hi, Frm.size]
    have h1 := (Go.Ly.Tr.hi_le _).2 us (Nat.le_refl _)
    have : ∀ l : List Frm, (∀ a ∈ l, a.hi ≤ a.size) → Frm.his l ≤ Frm.size.sizes l := by
      intro l
      induction l with
      | nil => intro _; exact Nat.le_refl _
      | cons a l ihl =>
        intro h
        have g1 := h a (by simp)
        have g2 := ihl fun b hb => h b (by simp [hb])
        simp only [Frm.his, Frm.size.sizes]
        omega
    have := this fs ih
    omega
theorem Frm.his_le : ∀ l : List Frm, Frm.his l ≤ Frm.size.sizes l
  | [] => Nat.le_refl _
  | a :: l => by
    have := Frm.hi_le a
    have := Frm.his_le l
    simp only [Frm.his, Frm.size.sizes]
    omega
def mxI (a b : Nat) : Int := (max a b : Nat)
theorem depth_ok (f : Frm) : f.size ≤ 1000000 → Pure E 64 [.d .old f.d] (.d .top (.int .i64 f.hi)) := by
  induction f using Frm.ind with
  | h o n us fs ih =>
  intro hs
  simp only [Frm.d]
  have hs' : Tm.size.sizes us + Frm.size.sizes fs + 1 ≤ 1000000 := hs
  have hlen := Frm.len_size fs
  have h1 := (Go.Ly.Tr.hi_le _).2 us (Nat.le_refl _)
  have h2 := Frm.his_le fs
  refine pure_by has64 ?_
  generalize hp : std = p
  (generalize cq0 : Frm.ds = cy0; generalize cq1 : Frm.hi = cy1; generalize cq2 : Tm.ds = cy2; generalize cq3 : opI = cy3; cbv <;> subst cq0 cq1 cq2 cq3)
  refine callA.pure (high_ok us (by omega)) rfl ?_
  (generalize cq0 : Frm.ds = cy0; generalize cq1 : Frm.hi = cy1; generalize cq2 : Tm.ds = cy2; generalize cq3 : Tm.his = cy3; generalize cq4 : opI = cy4; cbv <;> subst cq0 cq1 cq2 cq3 cq4)
  subst hp
  refine loopA_list fs (fun d r => mkF 23 [(1, .ptr 0 0), (3, .d .top (.int .i64 (mxI (Tm.his us) (Frm.his d)))), (10, .d .old (.row 4 (Frm.ds fs))), (11, .d .top (.int .i64 (std.dlen (Frm.ds fs)))), (12, .d .top (.int .i64 (std.dlen (Frm.ds d))))])
    (fun d r => [.bx [.d .old (.int .u8 (opI o)), .d .old (.str n), .d .old (.row 3 (Tm.ds us)), .d .old (.row 4 (Frm.ds fs))]]) (fun _ _ => ()) ?_ rfl (fun _ _ => rfl) ?_ ?_
  · generalize hp : std = p
    (generalize cq0 : Frm.ds = cy0; generalize cq1 : Frm.his = cy1; generalize cq2 : Tm.ds = cy2; generalize cq3 : Tm.his = cy3; generalize cq4 : mxI = cy4; generalize cq5 : opI = cy5; cbv <;> subst cq0 cq1 cq2 cq3 cq4 cq5)
    subst hp
    simp [std, mxI, Frm.his, Frm.ds]
  · generalize hp : std = p
    (generalize cq0 : Frm.ds = cy0; generalize cq1 : Frm.hi = cy1; generalize cq2 : Frm.his = cy2; generalize cq3 : Tm.ds = cy3; generalize cq4 : Tm.his = cy4; generalize cq5 : mxI = cy5; generalize cq6 : opI = cy6; cbv <;> subst cq0 cq1 cq2 cq3 cq4 cq5 cq6)
    simp only [end_ltF hp]
    (generalize cq0 : Frm.ds = cy0; generalize cq1 : Frm.hi = cy1; generalize cq2 : Frm.his = cy2; generalize cq3 : Tm.ds = cy3; generalize cq4 : Tm.his = cy4; generalize cq5 : mxI = cy5; generalize cq6 : opI = cy6; cbv <;> subst cq0 cq1 cq2 cq3 cq4 cq5 cq6)
    subst hp
    simp [std, mxI, Frm.hi]
    omega
  · intro d e r d' hes hd'
    have hm : e ∈ fs := by rw [hes]; simp
    have hsz := Frm.size_mem hm
    have hok := ih e hm (by omega)
    obtain ⟨o', n', us', fs'⟩ := e
    simp only [Frm.d] at hok
    generalize hp : std = p
    (generalize cq0 : Frm.ds = cy0; generalize cq1 : Frm.hi = cy1; generalize cq2 : Frm.his = cy2; generalize cq3 : Tm.ds = cy3; generalize cq4 : Tm.his = cy4; generalize cq5 : mxI = cy5; generalize cq6 : opI = cy6; cbv <;> subst cq0 cq1 cq2 cq3 cq4 cq5 cq6)
    simp only [at_ltF hp hes]
    (generalize cq0 : Frm.ds = cy0; generalize cq1 : Frm.hi = cy1; generalize cq2 : Frm.his = cy2; generalize cq3 : Tm.ds = cy3; generalize cq4 : Tm.his = cy4; generalize cq5 : mxI = cy5; generalize cq6 : opI = cy6; cbv <;> subst cq0 cq1 cq2 cq3 cq4 cq5 cq6)
    refine ⟨_, at_getF hp hes, ?_⟩
    (generalize cq0 : Frm.ds = cy0; generalize cq1 : Frm.hi = cy1; generalize cq2 : Frm.his = cy2; generalize cq3 : Tm.ds = cy3; generalize cq4 : Tm.his = cy4; generalize cq5 : mxI = cy5; generalize cq6 : opI = cy6; cbv <;> subst cq0 cq1 cq2 cq3 cq4 cq5 cq6)
    refine callA.pure hok rfl ?_
    (generalize cq0 : Frm.ds = cy0; generalize cq1 : Frm.hi = cy1; generalize cq2 : Frm.his = cy2; generalize cq3 : Tm.ds = cy3; generalize cq4 : Tm.his = cy4; generalize cq5 : mxI = cy5; generalize cq6 : opI = cy6; cbv <;> subst cq0 cq1 cq2 cq3 cq4 cq5 cq6)
    subst hp hd'
    have hdl : d.length + (r.length + 1) = fs.length := by rw [hes]; simp
    simp [std, mxI, Frm.his_app, Frm.his, Frm.ds_len]
    omega
end Go.Ly.Tr
end
section
namespace Go.Ly.Tr
set_option maxRecDepth 4000
def yb {E : Env} (O : Outer E) (i : Nat) : List (List AV) → O.Ω → (Bool → O.Ω → Prop) → Prop
  | [], ω, K => K true ω
  | x :: xs, ω, K => O.call i x ω fun r ω' => (r = .d .top (.bool true) ∧ yb O i xs ω' K) ∨ (r = .d .top (.bool false) ∧ K false ω')
theorem yb_app {E : Env} {O : Outer E} {i : Nat} : ∀ (a b : List (List AV)) (ω : O.Ω) (K : Bool → O.Ω → Prop), yb O i (a ++ b) ω K → yb O i a ω fun q ω' => (q = true ∧ yb O i b ω' K) ∨ (q = false ∧ K false ω')
  | [], b, ω, K, h => .inl ⟨rfl, h⟩
  | x :: a, b, ω, K, h => O.mono h fun r ω' hr => by
    rcases hr with ⟨h1, h2⟩ | ⟨h1, h2⟩
    · exact .inl ⟨h1, yb_app a b ω' K h2⟩
    · exact .inr ⟨h1, .inr ⟨rfl, h2⟩⟩
theorem yb_ys {E : Env} {O : Outer E} {i : Nat} : ∀ (a : List (List AV)) (ω : O.Ω) (K : O.Ω → Prop), ys O i a ω K → yb O i a ω fun _ ω' => K ω'
  | [], ω, K, h => h
  | x :: a, ω, K, h => O.mono h fun r ω' hr => by
    rcases hr with ⟨h1, h2⟩ | ⟨h1, h2⟩
    · exact .inl ⟨h1, yb_ys a ω' K h2⟩
    · exact .inr ⟨h1, h2⟩
mutual
def Frm.parts : Frm → List Frm
  | .mk o n us fs => .mk o n us fs :: Frm.partss fs
def Frm.partss : List Frm → List Frm
  | [] => []
  | f :: fs => f.parts ++ Frm.partss fs
end
def Frm.items (l : List Frm) : List (List AV) := l.map fun f => [.d .old f.d]
theorem Frm.items_app (a b : List Frm) : Frm.items (a ++ b) = Frm.items a ++ Frm.items b := by simp [Frm.items]
theorem every_ok {O : Outer E} {i : Nat} (f : Frm) : f.size ≤ 1000000 → ∀ (ω : O.Ω) (K : Bool → O.Ω → Prop), yb O i (Frm.items f.parts) ω K → Fun E O 115 [.d .old f.d, .ext i] [] ω fun r _ ω' => ∃ b, r = .d .top (.bool b) ∧ K b ω' := by
  induction f using Frm.ind with
  | h o n us fs ih =>
  intro hs ω K hy
  rw [Frm.parts, Frm.items, List.map_cons, yb] at hy
  have hs' : Tm.size.sizes us + Frm.size.sizes fs + 1 ≤ 1000000 := hs
  have hlen := Frm.len_size fs
  refine fun_by has115 ?_
  simp only [Frm.d] at hy ⊢
  generalize hp : std = p
  (generalize cq0 : Frm.ds = cy0; generalize cq1 : Tm.ds = cy1; generalize cq2 : opI = cy2; cbv <;> subst cq0 cq1 cq2)
  refine callA.ext rfl (O.mono hy fun r ω' hr => ?_)
  rcases hr with ⟨rfl, hr⟩ | ⟨rfl, hr⟩
  rotate_left
  · (generalize cq0 : Frm.ds = cy0; generalize cq1 : Tm.ds = cy1; generalize cq2 : opI = cy2; cbv <;> subst cq0 cq1 cq2)
    simp only [not_f hp]
    (generalize cq0 : Frm.ds = cy0; generalize cq1 : Tm.ds = cy1; generalize cq2 : opI = cy2; cbv <;> subst cq0 cq1 cq2)
    exact ⟨false, rfl, hr⟩
  have hr' : yb O i (Frm.items (Frm.partss fs)) ω' K := hr
  clear hr hy
  (generalize cq0 : Frm.ds = cy0; generalize cq1 : Tm.ds = cy1; generalize cq2 : opI = cy2; cbv <;> subst cq0 cq1 cq2)
  simp only [not_t hp]
  (generalize cq0 : Frm.ds = cy0; generalize cq1 : Tm.ds = cy1; generalize cq2 : opI = cy2; cbv <;> subst cq0 cq1 cq2)
  subst hp
  refine loopA_inv (ι := List Frm × List Frm × O.Ω) (fun j => fs = j.1 ++ j.2.1 ∧ yb O i (Frm.items (Frm.partss j.2.1)) j.2.2 K) (fun j => j.2.1.length)
    (fun j => mkF 23 [(1, .ext i), (2, .ptr 0 0), (12, .d .old (.row 4 (Frm.ds fs))), (13, .d .top (.int .i64 (std.dlen (Frm.ds fs)))), (14, .d .top (.int .i64 (std.dlen (Frm.ds j.1))))])
    (fun j => [.bx [.d .old (.int .u8 (opI o)), .d .old (.str n), .d .old (.row 3 (Tm.ds us)), .d .old (.row 4 (Frm.ds fs))]]) (fun j => j.2.2) ([], fs, ω') ⟨rfl, hr'⟩ ?_ rfl (fun _ => rfl) ?_
  · generalize hp : std = p
    (generalize cq0 : Frm.ds = cy0; generalize cq1 : Tm.ds = cy1; generalize cq2 : opI = cy2; cbv <;> subst cq0 cq1 cq2)
    subst hp
    simp [std, Frm.ds]
  · rintro ⟨d, r, ω1⟩ ⟨hes, hyr⟩
    simp only at hes hyr ⊢
    cases r with
    | nil =>
      rw [List.append_nil] at hes
      subst hes
      generalize hp : std = p
      (generalize cq0 : Frm.ds = cy0; generalize cq1 : Frm.items = cy1; generalize cq2 : Frm.partss = cy2; generalize cq3 : Tm.ds = cy3; generalize cq4 : opI = cy4; cbv <;> subst cq0 cq1 cq2 cq3 cq4)
      simp only [end_ltF hp]
      (generalize cq0 : Frm.ds = cy0; generalize cq1 : Frm.items = cy1; generalize cq2 : Frm.partss = cy2; generalize cq3 : Tm.ds = cy3; generalize cq4 : opI = cy4; cbv <;> subst cq0 cq1 cq2 cq3 cq4)
      exact ⟨true, rfl, hyr⟩
    | cons e r =>
      have hm : e ∈ fs := by rw [hes]; simp
      have hsz := Frm.size_mem hm
      rw [Frm.partss, Frm.items_app] at hyr
      have hok := ih e hm (by omega) ω1 _ (yb_app _ _ _ _ hyr)
      obtain ⟨o', n', us', fs'⟩ := e
      simp only [Frm.d] at hok
      generalize hp : std = p
      (generalize cq0 : Frm.ds = cy0; generalize cq1 : Frm.items = cy1; generalize cq2 : Frm.partss = cy2; generalize cq3 : Tm.ds = cy3; generalize cq4 : opI = cy4; cbv <;> subst cq0 cq1 cq2 cq3 cq4)
      simp only [at_ltF hp hes]
      (generalize cq0 : Frm.ds = cy0; generalize cq1 : Frm.items = cy1; generalize cq2 : Frm.partss = cy2; generalize cq3 : Tm.ds = cy3; generalize cq4 : opI = cy4; cbv <;> subst cq0 cq1 cq2 cq3 cq4)
      refine ⟨_, at_getF hp hes, ?_⟩
      (generalize cq0 : Frm.ds = cy0; generalize cq1 : Frm.items = cy1; generalize cq2 : Frm.partss = cy2; generalize cq3 : Tm.ds = cy3; generalize cq4 : opI = cy4; cbv <;> subst cq0 cq1 cq2 cq3 cq4)
      refine callA.outer [] rfl rfl (Fun.mono hok fun q _ ω2 hq => ?_)
      obtain ⟨b, rfl, hb⟩ := hq
      rcases hb with ⟨rfl, hb⟩ | ⟨rfl, hb⟩
      · (generalize cq0 : Frm.ds = cy0; generalize cq1 : Frm.items = cy1; generalize cq2 : Frm.partss = cy2; generalize cq3 : Tm.ds = cy3; generalize cq4 : opI = cy4; cbv <;> subst cq0 cq1 cq2 cq3 cq4)
        simp only [not_t hp]
        (generalize cq0 : Frm.ds = cy0; generalize cq1 : Frm.items = cy1; generalize cq2 : Frm.partss = cy2; generalize cq3 : Tm.ds = cy3; generalize cq4 : opI = cy4; cbv <;> subst cq0 cq1 cq2 cq3 cq4)
        have hdl : d.length + (r.length + 1) = fs.length := by rw [hes]; simp
        refine ⟨by subst hp; simp [std, Frm.ds_len]; omega, (d ++ [.mk o' n' us' fs'], r, ω2), ⟨by rw [hes]; simp, hb⟩, by simp, ?_, rfl⟩
        generalize hd' : d ++ [Frm.mk o' n' us' fs'] = d'
        (generalize cq0 : Frm.ds = cy0; generalize cq1 : Tm.ds = cy1; generalize cq2 : opI = cy2; cbv <;> subst cq0 cq1 cq2)
        subst hp hd'
        simp [std, Frm.ds_len]
      · (generalize cq0 : Frm.ds = cy0; generalize cq1 : Frm.items = cy1; generalize cq2 : Frm.partss = cy2; generalize cq3 : Tm.ds = cy3; generalize cq4 : opI = cy4; cbv <;> subst cq0 cq1 cq2 cq3 cq4)
        simp only [not_f hp]
        (generalize cq0 : Frm.ds = cy0; generalize cq1 : Frm.items = cy1; generalize cq2 : Frm.partss = cy2; generalize cq3 : Tm.ds = cy3; generalize cq4 : opI = cy4; cbv <;> subst cq0 cq1 cq2 cq3 cq4)
        exact ⟨false, rfl, hb⟩
end Go.Ly.Tr
end
section
namespace Go.Ly.Tr
set_option maxRecDepth 4000
theorem all_iter (o : UInt8) (n : Nm) (us : List Tm) (fs : List Frm) (hs : (Frm.mk o n us fs).size ≤ 1000000) :
    IterOK E 114 [] [.cb [.d .old (.int .u8 (opI o)), .d .old (.str n), .d .old (.row 3 (Tm.ds us)), .d .old (.row 4 (Frm.ds fs))] 0] (Frm.items (Frm.mk o n us fs).parts) := by
  intro O i ω K hy
  have hok := every_ok (.mk o n us fs) hs ω _ (yb_ys _ _ _ hy)
  simp only [Frm.d] at hok
  refine fun_by has114 ?_
  generalize hp : std = p
  (generalize cq0 : Frm.ds = cy0; generalize cq1 : Tm.ds = cy1; generalize cq2 : opI = cy2; cbv <;> subst cq0 cq1 cq2)
  refine callA.outer [] rfl rfl (Fun.mono hok fun q _ ω2 hq => ?_)
  obtain ⟨b, rfl, hb⟩ := hq
  (generalize cq0 : Frm.ds = cy0; generalize cq1 : Tm.ds = cy1; generalize cq2 : opI = cy2; cbv <;> subst cq0 cq1 cq2)
  exact hb
theorem all_ok (o : UInt8) (n : Nm) (us : List Tm) (fs : List Frm) :
    Pure E 70 [.d .old (.agg [.int .u8 (opI o), .str n, .row 3 (Tm.ds us), .row 4 (Frm.ds fs)])]
      (.fn 114 [] [.cb [.d .old (.int .u8 (opI o)), .d .old (.str n), .d .old (.row 3 (Tm.ds us)), .d .old (.row 4 (Frm.ds fs))] 0]) := by
  refine pure_by has70 ?_
  generalize hp : std = p
  (generalize cq0 : Frm.ds = cy0; generalize cq1 : Tm.ds = cy1; generalize cq2 : opI = cy2; cbv <;> subst cq0 cq1 cq2)
mutual
def Tm.parts : Tm → List Tm
  | .mk v n us => .mk v n us :: Tm.partss us
def Tm.partss : List Tm → List Tm
  | [] => []
  | t :: ts => t.parts ++ Tm.partss ts
end
def Tm.items (l : List Tm) : List (List AV) := l.map fun t => [.d .old t.d]
theorem Tm.items_app (a b : List Tm) : Tm.items (a ++ b) = Tm.items a ++ Tm.items b := by simp [Tm.items]
theorem terms_ok (l : List Tm) : Pure E 71 [.d .old (.row 3 (Tm.ds l))] (.fn 116 [] [.cb [.d .old (.row 3 (Tm.ds l))] 0]) := by
  refine pure_by has71 ?_
  generalize hp : std = p
  (generalize cq0 : Tm.ds = cy0; cbv <;> subst cq0)
theorem roundA_by {E : Env} {O : Outer E} {a1 b1 : AC} {ps : List Nat} {A : Fm} {xs : List AV} {σ : Sto} {ω : O.Ω} {K : Option Ex → Sto → O.Ω → Prop}
    (h : hC std (callA E O) (drawA E O) (loopA E O) (rfA E O) a1 (fun x A1 σ1 ω1 => match x with
      | .norm => hC std (callA E O) (drawA E O) (loopA E O) (rfA E O) b1 (fun x _ σ2 ω2 => ∃ σ3, leS (lenS σ3) σ2 σ3 ∧ lenS σ3 = lenS σ ∧ (match x with | .norm => K none σ3 ω2 | .exit id => K (some (.exit id)) σ3 ω2 | .ret => K (some .ret) σ3 ω2)) A1 σ1 ω1
      | _ => False) (setPs A ps xs) σ ω) : roundA E O a1 b1 ps A xs σ ω K := by
  refine AWP.mono (hC_sound drawRule _ _ _ _ _ h) fun x A1 σ1 ω1 hx => ?_
  cases x with
  | norm => exact hC_sound drawRule _ _ _ _ _ hx
  | exit id => exact hx
  | ret => exact hx
theorem range_yb {E : Env} {O : Outer E} {i : Nat} {a1 b1 : AC} {ps : List Nat} {A : Fm} {σ : Sto} {Kb : Bool → O.Ω → Prop} {K : Option Ex → Sto → O.Ω → Prop} {α : Type} {g : α → D} {rest : List (List AV)}
    (round : ∀ (x : α) (ω : O.Ω) (K' : Option Ex → Sto → O.Ω → Prop), (O.call i [.d .old (g x)] ω fun q ω' => (q = .d .top (.bool true) ∧ K' none σ ω') ∨ (q = .d .top (.bool false) ∧ K' (some .ret) σ ω')) → roundA E O a1 b1 ps A [.d .unk (g x)] σ ω K')
    (fin : ∀ ω, yb O i rest ω Kb → K none σ ω) (stop : ∀ ω, Kb false ω → K (some .ret) σ ω) : ∀ (xs : List α) (ω : O.Ω), yb O i (xs.map (fun t => [AV.d .old (g t)]) ++ rest) ω Kb → rangeItems E O a1 b1 ps A ((xs.map fun t => [AV.d .old (g t)]).map unkL) σ ω K
  | [], ω, h => fin ω h
  | x :: xs, ω, h => by
    simp only [List.map_cons, List.cons_append, yb] at h
    refine round x ω _ (O.mono h fun q ω' hq => ?_)
    rcases hq with ⟨h1, h2⟩ | ⟨h1, h2⟩
    · exact .inl ⟨h1, range_yb round fin stop xs ω' h2⟩
    · exact .inr ⟨h1, stop ω' h2⟩
theorem terms_iter (l : List Tm) (hs : Tm.size.sizes l ≤ 1000000) : IterOK E 116 [] [.cb [.d .old (.row 3 (Tm.ds l))] 0] (Tm.items (Tm.partss l)) := by
  obtain ⟨n, hn⟩ : ∃ n, Tm.size.sizes l < n := ⟨_, Nat.lt_succ_self _⟩
  induction n generalizing l with
  | zero => omega
  | succ n ih =>
  intro O i ω K hy
  have hyb := yb_ys _ _ _ hy
  have hlen := Tm.len_size l
  refine fun_by has116 ?_
  generalize hp : std = p
  (generalize cq0 : Tm.ds = cy0; cbv <;> subst cq0)
  subst hp
  refine loopA_inv (ι := List Tm × List Tm × O.Ω) (fun j => l = j.1 ++ j.2.1 ∧ yb O i (Tm.items (Tm.partss j.2.1)) j.2.2 fun _ ω' => K ω') (fun j => j.2.1.length)
    (fun j => mkF 25 [(1, .cb [.d .old (.row 3 (Tm.ds l))] 0), (2, .ptr 0 0), (6, .d .old (.row 3 (Tm.ds l))), (7, .d .top (.int .i64 (std.dlen (Tm.ds l)))), (8, .d .top (.int .i64 (std.dlen (Tm.ds j.1))))])
    (fun j => [.bx [.ext i]]) (fun j => j.2.2) ([], l, ω) ⟨rfl, hyb⟩ ?_ rfl (fun _ => rfl) ?_
  · generalize hp : std = p
    (generalize cq0 : Tm.ds = cy0; cbv <;> subst cq0)
    subst hp
    simp [std, Tm.ds]
  · rintro ⟨d, r, ω1⟩ ⟨hes, hyr⟩
    simp only at hes hyr ⊢
    cases r with
    | nil =>
      rw [List.append_nil] at hes
      subst hes
      generalize hp : std = p
      (generalize cq0 : Tm.ds = cy0; generalize cq1 : Tm.items = cy1; generalize cq2 : Tm.partss = cy2; cbv <;> subst cq0 cq1 cq2)
      simp only [end_ltT hp]
      (generalize cq0 : Tm.ds = cy0; generalize cq1 : Tm.items = cy1; generalize cq2 : Tm.partss = cy2; cbv <;> subst cq0 cq1 cq2)
      exact hyr
    | cons e r =>
      have hm : e ∈ l := by rw [hes]; simp
      have hsz := Tm.size_mem hm
      obtain ⟨v, nm, us⟩ := e
      simp only [Tm.size] at hsz
      rw [Tm.partss, Tm.parts, Tm.items, List.cons_append, List.map_cons, yb] at hyr
      simp only [Tm.d] at hyr
      generalize hp : std = p
      (generalize cq0 : Tm.ds = cy0; generalize cq1 : Tm.items = cy1; generalize cq2 : Tm.partss = cy2; cbv <;> subst cq0 cq1 cq2)
      simp only [at_ltT hp hes]
      (generalize cq0 : Tm.ds = cy0; generalize cq1 : Tm.items = cy1; generalize cq2 : Tm.partss = cy2; cbv <;> subst cq0 cq1 cq2)
      refine ⟨_, at_getT hp hes, ?_⟩
      (generalize cq0 : Tm.ds = cy0; generalize cq1 : Tm.items = cy1; generalize cq2 : Tm.partss = cy2; cbv <;> subst cq0 cq1 cq2)
      refine callA.ext rfl (O.mono hyr fun q ω2 hq => ?_)
      rcases hq with ⟨rfl, hq⟩ | ⟨rfl, hq⟩
      rotate_left
      · (generalize cq0 : Tm.ds = cy0; generalize cq1 : Tm.items = cy1; generalize cq2 : Tm.partss = cy2; cbv <;> subst cq0 cq1 cq2)
        simp only [not_f hp]
        (generalize cq0 : Tm.ds = cy0; generalize cq1 : Tm.items = cy1; generalize cq2 : Tm.partss = cy2; cbv <;> subst cq0 cq1 cq2)
        exact hq
      · (generalize cq0 : Tm.ds = cy0; generalize cq1 : Tm.items = cy1; generalize cq2 : Tm.partss = cy2; cbv <;> subst cq0 cq1 cq2)
        simp only [not_t hp]
        (generalize cq0 : Tm.ds = cy0; generalize cq1 : Tm.items = cy1; generalize cq2 : Tm.partss = cy2; cbv <;> subst cq0 cq1 cq2)
        refine callA.pure (terms_ok us) rfl ?_
        (generalize cq0 : Tm.ds = cy0; generalize cq1 : Tm.items = cy1; generalize cq2 : Tm.partss = cy2; cbv <;> subst cq0 cq1 cq2)
        have hq' : yb O i ((Tm.partss us).map (fun t => [AV.d .old t.d]) ++ Tm.items (Tm.partss r)) ω2 fun _ ω' => K ω' := by
          rw [List.map_append] at hq
          exact hq
        subst hp
        refine rf_sound (items := Tm.items (Tm.partss us)) rfl rfl rfl (ih us (by omega) (by omega)) ?_ ?_
        · intro x hx
          rw [Tm.items, List.mem_map] at hx
          obtain ⟨t, _, rfl⟩ := hx
          exact ⟨rfl, rfl⟩
        · rw [Tm.items]
          refine range_yb (i := i) (Kb := fun _ ω' => K ω') (rest := Tm.items (Tm.partss r)) ?_ ?_ ?_ _ _ hq'
          · rintro ⟨v', n', us'⟩ ω3 K' hc
            simp only [Tm.d] at hc ⊢
            refine roundA_by ?_
            generalize hp : std = p
            (generalize cq0 : Tm.ds = cy0; cbv <;> subst cq0)
            refine callA.ext rfl (O.mono hc fun q ω4 hq4 => ?_)
            rcases hq4 with ⟨rfl, h4⟩ | ⟨rfl, h4⟩
            · (generalize cq0 : Tm.ds = cy0; cbv <;> subst cq0)
              simp only [not_t hp]
              (generalize cq0 : Tm.ds = cy0; cbv <;> subst cq0)
              exact ⟨_, by (generalize cq0 : Tm.ds = cy0; cbv <;> subst cq0), rfl, h4⟩
            · (generalize cq0 : Tm.ds = cy0; cbv <;> subst cq0)
              simp only [not_f hp]
              (generalize cq0 : Tm.ds = cy0; cbv <;> subst cq0)
              exact ⟨_, by (generalize cq0 : Tm.ds = cy0; cbv <;> subst cq0), rfl, h4⟩
          · intro ω3 h3
            have hdl : d.length + (r.length + 1) = l.length := by rw [hes]; simp
            generalize hp : std = p
            (generalize cq0 : Tm.ds = cy0; generalize cq1 : Tm.items = cy1; generalize cq2 : Tm.partss = cy2; cbv <;> subst cq0 cq1 cq2)
            refine ⟨by subst hp; simp [std, Tm.ds_len]; omega, (d ++ [.mk v nm us], r, ω3), ⟨by rw [hes]; simp, h3⟩, by simp, ?_, rfl⟩
            generalize hd' : d ++ [Tm.mk v nm us] = d'
            (generalize cq0 : Tm.ds = cy0; cbv <;> subst cq0)
            subst hp hd'
            simp [std, Tm.ds_len]
          · intro ω3 h3
            (generalize cq0 : Tm.ds = cy0; generalize cq1 : Tm.items = cy1; generalize cq2 : Tm.partss = cy2; cbv <;> subst cq0 cq1 cq2)
            exact h3
end Go.Ly.Tr
end
section
namespace Go.Ly.Tr
set_option maxRecDepth 4000
def natI (n : Nat) : Int := n
theorem nat_next {p : Prims} (hp : std = p) (n : Nat) : p.add (natI n) 1 = natI (n + 1) := by subst hp; simp [std, natI]
theorem nat_ok {p : Prims} (hp : std = p) {n : Nat} (h : n ≤ 4000000) : p.ok (natI n) := by
  subst hp
  simp only [std, natI]
  omega
theorem range_fold {E : Env} {O : Outer E} {a1 b1 : AC} {ps : List Nat} {A : Fm} {K : Option Ex → Sto → O.Ω → Prop} {α : Type} {g : α → D} {es : List α} (σf : List α → Sto) (ω : O.Ω)
    (round : ∀ (d : List α) (e : α) (r : List α) (K' : Option Ex → Sto → O.Ω → Prop), es = d ++ e :: r → K' none (σf (d ++ [e])) ω → roundA E O a1 b1 ps A [.d .unk (g e)] (σf d) ω K')
    (fin : K none (σf es) ω) : rangeItems E O a1 b1 ps A ((es.map fun t => [AV.d .old (g t)]).map unkL) (σf []) ω K := by
  have : ∀ (r d : List α), es = d ++ r → rangeItems E O a1 b1 ps A ((r.map fun t => [AV.d .old (g t)]).map unkL) (σf d) ω K := by
    intro r
    induction r with
    | nil =>
      intro d h
      rw [List.append_nil] at h
      subst h
      exact fin
    | cons e r ih =>
      intro d h
      exact round d e r _ h (ih (d ++ [e]) (by rw [h]; simp))
  exact this es [] rfl
def cntF : List Frm → Nat
  | [] => 0
  | .mk _ _ us _ :: l => (Tm.partss us).length + 1 + cntF l
theorem cntF_app : ∀ a b : List Frm, cntF (a ++ b) = cntF a + cntF b
  | [], b => by simp [cntF]
  | .mk _ _ _ _ :: a, b => by simp only [List.cons_append, cntF, cntF_app a b]; omega
theorem partss_len : ∀ l : List Tm, (Tm.partss l).length = Tm.size.sizes l := by
  have main : ∀ t : Tm, t.parts.length = t.size := by
    intro t
    induction t using Tm.ind with
    | h v n us ih =>
      simp only [Tm.parts, List.length_cons, Tm.size]
      have : ∀ l : List Tm, (∀ a ∈ l, a.parts.length = a.size) → (Tm.partss l).length = Tm.size.sizes l := by
        intro l
        induction l with
        | nil => intro _; rfl
        | cons a l ihl =>
          intro h
          simp only [Tm.partss, List.length_append, Tm.size.sizes, h a (by simp), ihl fun b hb => h b (by simp [hb])]
      rw [this us ih]
  intro l
  induction l with
  | nil => rfl
  | cons a l ih => simp only [Tm.partss, List.length_append, Tm.size.sizes, main a, ih]
theorem cnt_parts : ∀ f : Frm, cntF f.parts = f.size := by
  intro f
  induction f using Frm.ind with
  | h o n us fs ih =>
    have : ∀ l : List Frm, (∀ a ∈ l, cntF a.parts = a.size) → cntF (Frm.partss l) = Frm.size.sizes l := by
      intro l
      induction l with
      | nil => intro _; rfl
      | cons a l ihl =>
        intro h
        simp only [Frm.partss, cntF_app, Frm.size.sizes, h a (by simp), ihl fun b hb => h b (by simp [hb])]
    simp only [Frm.parts, cntF, this fs ih, partss_len, Frm.size]
    omega
theorem nodes_ok (f : Frm) (hs : f.size ≤ 1000000) : Pure E 30 [.d .old f.d] (.d .top (.int .i64 (natI f.size))) := by
  have hcnt := cnt_parts f
  obtain ⟨o, n, us, fs⟩ := f
  obtain ⟨N, hN⟩ : ∃ N, (Frm.mk o n us fs).size = N := ⟨_, rfl⟩
  rw [hN] at hcnt ⊢
  simp only [Frm.d]
  refine pure_by has30 ?_
  generalize hp : std = p
  (generalize cq0 : Frm.ds = cy0; generalize cq1 : Tm.ds = cy1; generalize cq2 : natI = cy2; generalize cq3 : opI = cy3; cbv <;> subst cq0 cq1 cq2 cq3)
  refine callA.pure (all_ok o n us fs) rfl ?_
  (generalize cq0 : Frm.ds = cy0; generalize cq1 : Tm.ds = cy1; generalize cq2 : natI = cy2; generalize cq3 : opI = cy3; cbv <;> subst cq0 cq1 cq2 cq3)
  subst hp
  refine rf_sound (items := Frm.items (Frm.mk o n us fs).parts) rfl rfl rfl (all_iter o n us fs hs) ?_ ?_
  · intro x hx
    rw [Frm.items, List.mem_map] at hx
    obtain ⟨t, _, rfl⟩ := hx
    exact ⟨rfl, rfl⟩
  · rw [Frm.items]
    refine range_fold (O := alone E) (fun d => [.bx [.d .old (.int .u8 (opI o)), .d .old (.str n), .d .old (.row 3 (Tm.ds us)), .d .old (.row 4 (Frm.ds fs))], .bx [.d .top (.int .i64 (natI (cntF d)))]]) () ?_ ?_
    · rintro d ⟨o', n', us', fs'⟩ r K' hes hK
      have hle : cntF d + ((Tm.partss us').length + 1) ≤ N := by rw [← hcnt, hes, cntF_app]; simp only [cntF]; omega
      have hpl := partss_len us'
      rw [cntF_app] at hK
      simp only [cntF, Nat.add_zero] at hK
      simp only [Frm.d]
      refine roundA_by ?_
      generalize hp : std = p
      (generalize cq0 : Frm.ds = cy0; generalize cq1 : Tm.ds = cy1; generalize cq2 : cntF = cy2; generalize cq3 : natI = cy3; generalize cq4 : opI = cy4; cbv <;> subst cq0 cq1 cq2 cq3 cq4)
      simp only [nat_next hp]
      refine ⟨nat_ok hp (by omega), callA.pure (terms_ok us') rfl ?_⟩
      (generalize cq0 : Frm.ds = cy0; generalize cq1 : Tm.ds = cy1; generalize cq2 : cntF = cy2; generalize cq3 : natI = cy3; generalize cq4 : opI = cy4; cbv <;> subst cq0 cq1 cq2 cq3 cq4)
      subst hp
      refine rf_sound (items := Tm.items (Tm.partss us')) rfl rfl rfl (terms_iter us' (by omega)) ?_ ?_
      · intro x hx
        rw [Tm.items, List.mem_map] at hx
        obtain ⟨t, _, rfl⟩ := hx
        exact ⟨rfl, rfl⟩
      · rw [Tm.items]
        refine range_fold (O := alone E) (fun d' => [.bx [.d .old (.int .u8 (opI o)), .d .old (.str n), .d .old (.row 3 (Tm.ds us)), .d .old (.row 4 (Frm.ds fs))], .bx [.d .top (.int .i64 (natI (cntF d + 1 + d'.length)))],
          .bx [.d .unk (.int .u8 (opI o')), .d .unk (.str n'), .d .unk (.row 3 (Tm.ds us')), .d .unk (.row 4 (Frm.ds fs'))]]) () ?_ ?_
        · intro d2 t2 r2 K2 hes2 hK2
          have hl2 : d2.length + 1 ≤ (Tm.partss us').length := by rw [hes2]; simp
          rw [List.length_append] at hK2
          refine roundA_by ?_
          generalize hm : cntF d + 1 + d2.length = m
          have hm2 : cntF d + 1 + (d2.length + [t2].length) = m + 1 := by simp; omega
          rw [hm2] at hK2
          generalize hp : std = p
          (generalize cq0 : Frm.ds = cy0; generalize cq1 : Tm.d = cy1; generalize cq2 : Tm.ds = cy2; generalize cq3 : cntF = cy3; generalize cq4 : natI = cy4; generalize cq5 : opI = cy5; cbv <;> subst cq0 cq1 cq2 cq3 cq4 cq5)
          simp only [nat_next hp]
          refine ⟨nat_ok hp (by omega), _, ?_, ?_, hK2⟩
          · (generalize cq0 : Frm.ds = cy0; generalize cq1 : Tm.ds = cy1; generalize cq2 : natI = cy2; generalize cq3 : opI = cy3; cbv <;> subst cq0 cq1 cq2 cq3)
          · rfl
        · have hm : cntF d + 1 + (Tm.partss us').length = cntF d + ((Tm.partss us').length + 1) := by omega
          rw [hm]
          generalize cntF d + ((Tm.partss us').length + 1) = m at *
          (generalize cq0 : Frm.ds = cy0; generalize cq1 : Tm.ds = cy1; generalize cq2 : cntF = cy2; generalize cq3 : natI = cy3; generalize cq4 : opI = cy4; cbv <;> subst cq0 cq1 cq2 cq3 cq4)
          refine ⟨_, ?_, ?_, hK⟩
          · (generalize cq0 : Frm.ds = cy0; generalize cq1 : Tm.ds = cy1; generalize cq2 : natI = cy2; generalize cq3 : opI = cy3; cbv <;> subst cq0 cq1 cq2 cq3)
          · rfl
    · generalize hp : std = p
      (generalize cq0 : Frm.ds = cy0; generalize cq1 : Frm.parts = cy1; generalize cq2 : Tm.ds = cy2; generalize cq3 : cntF = cy3; generalize cq4 : natI = cy4; generalize cq5 : opI = cy5; cbv <;> subst cq0 cq1 cq2 cq3 cq4 cq5)
      rw [hcnt]
end Go.Ly.Tr
end
section
namespace Go.Ly.Tr
set_option maxRecDepth 4000
def Nms (l : List Nm) : List D := l.map D.str
def hasB (l : List Nm) (s : Nm) : Bool := l.any (· == s)
theorem hasB_app (a b : List Nm) (s : Nm) : hasB (a ++ b) s = (hasB a s || hasB b s) := by simp [hasB]
section
variable {p : Prims} {l d d' r : List Nm} {e : Nm}
theorem at_ltN (hp : std = p) (h : l = d ++ e :: r) : p.lt (p.dlen (Nms d)) (p.dlen (Nms l)) = true := at_ltM hp h
theorem end_ltN (hp : std = p) (l : List Nm) : p.lt (p.dlen (Nms l)) (p.dlen (Nms l)) = false := end_ltM hp l
theorem at_getN (hp : std = p) (h : l = d ++ e :: r) : p.dget (Nms l) (p.dlen (Nms d)) = some (.str e) := at_getM hp h
theorem Nms_len (l : List Nm) : (Nms l).length = l.length := by simp [Nms]
end
theorem has_ok (l : List Nm) (s : Nm) (hl : l.length ≤ 9223372036854775807) : Pure E 24 [.d .old (.row 1 (Nms l)), .d .old (.str s)] (.d .top (.bool (hasB l s))) := by
  refine pure_by has24 ?_
  generalize hp : std = p
  (generalize cq0 : Nms = cy0; generalize cq1 : hasB = cy1; cbv <;> subst cq0 cq1)
  subst hp
  refine loopA_inv (ι := List Nm × List Nm) (fun j => l = j.1 ++ j.2 ∧ hasB j.1 s = false) (fun j => j.2.length)
    (fun j => mkF 18 [(0, .d .old (.row 1 (Nms l))), (1, .d .old (.str s)), (4, .d .top (.bool false)), (5, .d .top (.int .i64 (std.dlen (Nms j.1))))])
    (fun j => []) (fun j => ()) ([], l) ⟨rfl, rfl⟩ ?_ rfl (fun _ => rfl) ?_
  · generalize hp : std = p
    (generalize cq0 : Nms = cy0; cbv <;> subst cq0)
    subst hp
    simp [std, Nms]
  · rintro ⟨d, r⟩ ⟨hes, hd⟩
    simp only at hes hd ⊢
    cases r with
    | nil =>
      rw [List.append_nil] at hes
      subst hes
      generalize hp : std = p
      (generalize cq0 : Nms = cy0; generalize cq1 : hasB = cy1; cbv <;> subst cq0 cq1)
      simp only [end_ltN hp]
      (generalize cq0 : Nms = cy0; generalize cq1 : hasB = cy1; cbv <;> subst cq0 cq1)
      rw [hd]
    | cons e r =>
      have hh : hasB l s = ((e == s) || hasB r s) := by rw [hes, hasB_app, hd]; simp [hasB]
      generalize hp : std = p
      (generalize cq0 : Nms = cy0; generalize cq1 : hasB = cy1; cbv <;> subst cq0 cq1)
      simp only [at_ltN hp hes]
      (generalize cq0 : Nms = cy0; generalize cq1 : hasB = cy1; cbv <;> subst cq0 cq1)
      refine ⟨_, at_getN hp hes, ?_⟩
      (generalize cq0 : Nms = cy0; generalize cq1 : hasB = cy1; cbv <;> subst cq0 cq1)
      have hseq : p.seq e s = (e == s) := by subst hp; rfl
      refine cnd_intro ?_ ?_ <;> intro hb <;> replace hb := hseq.symm.trans hb <;> (generalize cq0 : Nms = cy0; generalize cq1 : hasB = cy1; cbv <;> subst cq0 cq1)
      · rw [hh, hb, Bool.true_or]
      · have hdl : d.length + (r.length + 1) = l.length := by rw [hes]; simp
        refine ⟨by subst hp; simp [std, Nms_len]; omega, (d ++ [e], r), ⟨by rw [hes]; simp, by rw [hasB_app, hd]; simp [hasB, hb]⟩, by simp, ?_, rfl⟩
        generalize hd' : d ++ [e] = d'
        (generalize cq0 : Nms = cy0; cbv <;> subst cq0)
        subst hp hd'
        simp [std, Nms_len]
def fitsB (f : Frm) : Bool := decide (f.size ≤ 400) && decide (f.hi ≤ 40)
theorem fits_ok (f : Frm) (hs : f.size ≤ 1000000) : Pure E 53 [.d .old f.d] (.d .top (.bool (fitsB f))) := by
  have h1 := nodes_ok f hs
  have h2 := depth_ok f hs
  obtain ⟨q, hq⟩ : ∃ q, fitsB f = q := ⟨_, rfl⟩
  rw [hq]
  unfold fitsB at hq
  obtain ⟨o, n, us, fs⟩ := f
  generalize (Frm.mk o n us fs).size = N at *
  generalize (Frm.mk o n us fs).hi = M at *
  simp only [Frm.d] at h1 h2 ⊢
  have h2' : Pure E 64 [.d .old (.agg [.int .u8 (opI o), .str n, .row 3 (Tm.ds us), .row 4 (Frm.ds fs)])] (.d .top (.int .i64 (natI M))) := h2
  refine pure_by has53 ?_
  generalize hp : std = p
  (generalize cq0 : Frm.ds = cy0; generalize cq1 : Tm.ds = cy1; generalize cq2 : opI = cy2; cbv <;> subst cq0 cq1 cq2)
  refine callA.pure h1 rfl ?_
  (generalize cq0 : Frm.ds = cy0; generalize cq1 : Tm.ds = cy1; generalize cq2 : natI = cy2; generalize cq3 : opI = cy3; cbv <;> subst cq0 cq1 cq2 cq3)
  have e1 : p.le (natI N) 400 = decide (N ≤ 400) := by subst hp; simp [std, natI]; omega
  have e2 : p.le (natI M) 40 = decide (M ≤ 40) := by subst hp; simp [std, natI]; omega
  refine cnd_intro ?_ ?_ <;> intro hb <;> replace hb := e1.symm.trans hb
  · simp only [e1, hb]
    (generalize cq0 : Frm.ds = cy0; generalize cq1 : Tm.ds = cy1; generalize cq2 : natI = cy2; generalize cq3 : opI = cy3; cbv <;> subst cq0 cq1 cq2 cq3)
    refine callA.pure h2' rfl ?_
    (generalize cq0 : Frm.ds = cy0; generalize cq1 : Tm.ds = cy1; generalize cq2 : natI = cy2; generalize cq3 : opI = cy3; cbv <;> subst cq0 cq1 cq2 cq3)
    rw [← hq, hb, ← e2]
    rfl
  · simp only [e1, hb]
    (generalize cq0 : Frm.ds = cy0; generalize cq1 : Tm.ds = cy1; generalize cq2 : natI = cy2; generalize cq3 : opI = cy3; cbv <;> subst cq0 cq1 cq2 cq3)
    rw [← hq, hb]
    rfl
end Go.Ly.Tr
end
section
namespace Go.Ly.Tr
set_option maxRecDepth 4000
def idxI : List Nm → Nm → Nat → Int
  | [], _, _ => -1
  | e :: l, s, k => if e == s then k else idxI l s (k + 1)
theorem idx_app : ∀ (d r : List Nm) (s : Nm) (k : Nat), hasB d s = false → idxI (d ++ r) s k = idxI r s (k + d.length)
  | [], r, s, k, _ => by simp
  | e :: d, r, s, k, h => by
    simp only [hasB, List.any_cons, Bool.or_eq_false_iff] at h
    simp only [List.cons_append, idxI, h.1, Bool.false_eq_true, if_false]
    rw [idx_app d r s (k + 1) h.2]
    simp only [List.length_cons]
    congr 1
    omega
theorem idx_has : ∀ (l : List Nm) (s : Nm) (k : Nat), decide (0 ≤ idxI l s k) = hasB l s
  | [], s, k => by simp [idxI, hasB]
  | e :: l, s, k => by
    have := idx_has l s (k + 1)
    rw [show hasB (e :: l) s = ((e == s) || hasB l s) by simp [hasB], idxI, ← this]
    by_cases h : (e == s) = true
    · rw [if_pos h, h]
      simp
    · rw [if_neg h]
      simp [h]
theorem index_ok (l : List Nm) (s : Nm) (hl : l.length ≤ 9223372036854775807) : Pure E 101 [.d .old (.row 1 (Nms l)), .d .old (.str s)] (.d .top (.int .i64 (idxI l s 0))) := by
  refine pure_by has101 ?_
  generalize hp : std = p
  (generalize cq0 : Nms = cy0; generalize cq1 : idxI = cy1; cbv <;> subst cq0 cq1)
  subst hp
  refine loopA_inv (ι := List Nm × List Nm) (fun j => l = j.1 ++ j.2 ∧ hasB j.1 s = false) (fun j => j.2.length)
    (fun j => mkF 19 [(0, .d .old (.row 1 (Nms l))), (1, .d .old (.str s)), (6, .d .old (.row 1 (Nms l))), (7, .d .top (.int .i64 (std.dlen (Nms l)))), (8, .d .top (.int .i64 (std.dlen (Nms j.1))))])
    (fun j => []) (fun j => ()) ([], l) ⟨rfl, rfl⟩ ?_ rfl (fun _ => rfl) ?_
  · generalize hp : std = p
    (generalize cq0 : Nms = cy0; cbv <;> subst cq0)
    subst hp
    simp [std, Nms]
  · rintro ⟨d, r⟩ ⟨hes, hd⟩
    simp only at hes hd ⊢
    cases r with
    | nil =>
      rw [List.append_nil] at hes
      subst hes
      have hi : idxI l s 0 = -1 := by
        have := idx_app l [] s 0 hd
        rw [List.append_nil] at this
        rw [this]
        rfl
      rw [hi]
      generalize hp : std = p
      (generalize cq0 : Nms = cy0; generalize cq1 : hasB = cy1; cbv <;> subst cq0 cq1)
      simp only [end_ltN hp]
      (generalize cq0 : Nms = cy0; generalize cq1 : hasB = cy1; cbv <;> subst cq0 cq1)
    | cons e r =>
      have hi : idxI l s 0 = if e == s then (d.length : Int) else idxI r s (d.length + 1) := by rw [hes, idx_app _ _ _ _ hd]; simp [idxI]
      obtain ⟨q, hq⟩ : ∃ q, idxI l s 0 = q := ⟨_, rfl⟩
      rw [hq] at hi ⊢
      generalize hp : std = p
      (generalize cq0 : Nms = cy0; generalize cq1 : hasB = cy1; cbv <;> subst cq0 cq1)
      simp only [at_ltN hp hes]
      (generalize cq0 : Nms = cy0; generalize cq1 : hasB = cy1; cbv <;> subst cq0 cq1)
      refine ⟨_, at_getN hp hes, ?_⟩
      (generalize cq0 : Nms = cy0; generalize cq1 : hasB = cy1; cbv <;> subst cq0 cq1)
      have hseq : p.seq s e = (e == s) := by subst hp; simp only [std]; rw [Bool.eq_iff_iff, beq_iff_eq, beq_iff_eq]; exact ⟨Eq.symm, Eq.symm⟩
      refine cnd_intro ?_ ?_ <;> intro hb <;> replace hb := hseq.symm.trans hb <;> (generalize cq0 : Nms = cy0; generalize cq1 : hasB = cy1; cbv <;> subst cq0 cq1)
      · subst hp
        rw [hi, hb]
        simp [std, Nms_len]
      · have hdl : d.length + (r.length + 1) = l.length := by rw [hes]; simp
        refine ⟨by subst hp; simp [std, Nms_len]; omega, (d ++ [e], r), ⟨by rw [hes]; simp, by rw [hasB_app, hd]; simp [hasB, hb]⟩, by simp, ?_, rfl⟩
        generalize hd' : d ++ [e] = d'
        (generalize cq0 : Nms = cy0; cbv <;> subst cq0)
        subst hp hd'
        simp [std, Nms_len]
theorem contains_ok (l : List Nm) (s : Nm) (hl : l.length ≤ 9223372036854775807) : Pure E 62 [.d .old (.row 1 (Nms l)), .d .old (.str s)] (.d .top (.bool (hasB l s))) := by
  have h1 := index_ok l s hl
  have h2 := idx_has l s 0
  generalize idxI l s 0 = q at *
  generalize hasB l s = b at *
  refine pure_by has62 ?_
  generalize hp : std = p
  (generalize cq0 : Nms = cy0; cbv <;> subst cq0)
  refine callA.pure h1 rfl ?_
  (generalize cq0 : Nms = cy0; cbv <;> subst cq0)
  subst hp
  rw [← h2]
  rfl
end Go.Ly.Tr
end
section
namespace Go.Ly.Tr
set_option maxRecDepth 4000
theorem digit_ok (ep : Ep) (b : Int) : Pure E 57 [.d ep (.int .u8 b)] (.d .top (.bool (std.le 48 b && std.le b 57))) := by
  refine pure_by has57 ?_
  generalize hp : std = p
  cbv
  refine cnd_intro ?_ ?_ <;> intro hb <;> simp only [hb] <;> cbv
theorem small_ok (ep : Ep) (b : Int) : Pure E 164 [.d ep (.int .u8 b)] (.d .top (.bool (std.le 97 b && std.le b 122))) := by
  refine pure_by has164 ?_
  generalize hp : std = p
  cbv
  refine cnd_intro ?_ ?_ <;> intro hb <;> simp only [hb] <;> cbv
theorem capital_ok (ep : Ep) (b : Int) : Pure E 163 [.d ep (.int .u8 b)] (.d .top (.bool (std.le 65 b && std.le b 90))) := by
  refine pure_by has163 ?_
  generalize hp : std = p
  cbv
  refine cnd_intro ?_ ?_ <;> intro hb <;> simp only [hb] <;> cbv
theorem quantifier_ok (ep : Ep) (op : Int) (n : List UInt8) (l m : List D) : Pure E 102 [.d ep (.agg [.int .u8 op, .str n, .row 3 l, .row 4 m])] (.d .top (.bool (std.eq op 8 || std.eq op 9))) := by
  refine pure_by has102 ?_
  generalize hp : std = p
  cbv
  refine cnd_intro ?_ ?_ <;> intro hb <;> simp only [hb] <;> cbv
theorem none_ok (ep : Ep) (s : List UInt8) : Pure E 133 [.d ep (.str s)] (.d .top (.bool (std.seq s []))) := by
  refine pure_by has133 ?_
  generalize hp : std = p
  cbv
end Go.Ly.Tr
end
section
namespace Go.Ly.Tr
set_option maxRecDepth 4000
def Kind8 (k : Nat) (g : Int → Bool) : Prop := ∀ c : Int, Pure E k [.d .old (.int .u8 c)] (.d .top (.bool (g c)))
theorem digit_kind : Kind8 57 fun c => std.le 48 c && std.le c 57 := fun c => digit_ok .old c
theorem name1_ok {k : Nat} {g : Int → Bool} (hg : Kind8 k g) (c : Int) : Pure E 95 [.d .old (.int .u8 c), .fb [.fn k [] []] 0] (.d .top (.bool (!g c))) := by
  have h := hg c
  generalize g c = b at *
  refine pure_by has95 ?_
  generalize hp : std = p
  cbv
  refine callA.pure h rfl ?_
  cbv
  subst hp
  rfl
def Bys (s : List UInt8) : List D := s.map fun c => D.int .u8 (c.toNat : Int)
section
variable {p : Prims} {l d d' r : List UInt8} {e : UInt8}
theorem at_ltB (hp : std = p) (h : l = d ++ e :: r) : p.lt (p.dlen (Bys d)) (p.dlen (Bys l)) = true := at_ltM hp h
theorem end_ltB (hp : std = p) (l : List UInt8) : p.lt (p.dlen (Bys l)) (p.dlen (Bys l)) = false := end_ltM hp l
theorem at_getB (hp : std = p) (h : l = d ++ e :: r) : p.dget (Bys l) (p.dlen (Bys d)) = some (.int .u8 (opI e)) := at_getM hp h
theorem Bys_len (l : List UInt8) : (Bys l).length = l.length := by simp [Bys]
end
def idxB (q : Int → Bool) : List UInt8 → Nat → Int
  | [], _ => -1
  | e :: l, k => if q (opI e) then k else idxB q l (k + 1)
theorem idxB_app (q : Int → Bool) : ∀ (d r : List UInt8) (k : Nat), (d.any fun c => q (opI c)) = false → idxB q (d ++ r) k = idxB q r (k + d.length)
  | [], r, k, _ => by simp
  | e :: d, r, k, h => by
    simp only [List.any_cons, Bool.or_eq_false_iff] at h
    simp only [List.cons_append, idxB, h.1, Bool.false_eq_true, if_false]
    rw [idxB_app q d r (k + 1) h.2]
    simp only [List.length_cons]
    congr 1
    omega
theorem idxB_has (q : Int → Bool) : ∀ (l : List UInt8) (k : Nat), decide (0 ≤ idxB q l k) = l.any fun c => q (opI c)
  | [], k => by simp [idxB]
  | e :: l, k => by
    have := idxB_has q l (k + 1)
    rw [List.any_cons, idxB, ← this]
    by_cases h : q (opI e) = true
    · rw [if_pos h, h]
      simp
    · rw [if_neg h]
      simp [h]
theorem indexFuncB_ok {k : Nat} {g : Int → Bool} (hg : Kind8 k g) (l : List UInt8) (hl : l.length ≤ 9223372036854775807) :
    Pure E 139 [.d .old (.row 1 (Bys l)), .fn 95 [] [.fb [.fn k [] []] 0]] (.d .top (.int .i64 (idxB (fun c => !g c) l 0))) := by
  refine pure_by has139 ?_
  generalize hp : std = p
  (generalize cq0 : Bys = cy0; generalize cq1 : idxB = cy1; cbv <;> subst cq0 cq1)
  subst hp
  refine loopA_inv (ι := List UInt8 × List UInt8) (fun j => l = j.1 ++ j.2 ∧ (j.1.any fun c => !g (opI c)) = false) (fun j => j.2.length)
    (fun j => mkF 19 [(0, .d .old (.row 1 (Bys l))), (1, .fn 95 [] [.fb [.fn k [] []] 0]), (6, .d .old (.row 1 (Bys l))), (7, .d .top (.int .i64 (std.dlen (Bys l)))), (8, .d .top (.int .i64 (std.dlen (Bys j.1))))])
    (fun j => []) (fun j => ()) ([], l) ⟨rfl, rfl⟩ ?_ rfl (fun _ => rfl) ?_
  · generalize hp : std = p
    (generalize cq0 : Bys = cy0; cbv <;> subst cq0)
    subst hp
    simp [std, Bys]
  · rintro ⟨d, r⟩ ⟨hes, hd⟩
    simp only at hes hd ⊢
    cases r with
    | nil =>
      rw [List.append_nil] at hes
      subst hes
      have hi : idxB (fun c => !g c) l 0 = -1 := by
        have := idxB_app (fun c => !g c) l [] 0 hd
        rw [List.append_nil] at this
        rw [this]
        rfl
      rw [hi]
      generalize hp : std = p
      (generalize cq0 : Bys = cy0; generalize cq1 : opI = cy1; cbv <;> subst cq0 cq1)
      simp only [end_ltB hp]
      (generalize cq0 : Bys = cy0; generalize cq1 : opI = cy1; cbv <;> subst cq0 cq1)
    | cons e r =>
      have hi : idxB (fun c => !g c) l 0 = if !g (opI e) then (d.length : Int) else idxB (fun c => !g c) r (d.length + 1) := by rw [hes, idxB_app _ _ _ _ hd]; simp [idxB]
      obtain ⟨q, hq⟩ : ∃ q, idxB (fun c => !g c) l 0 = q := ⟨_, rfl⟩
      have hok := name1_ok hg (opI e)
      obtain ⟨b, hb0⟩ : ∃ b, (!g (opI e)) = b := ⟨_, rfl⟩
      rw [hq, hb0] at hi
      rw [hb0] at hok
      rw [hq]
      generalize hp : std = p
      (generalize cq0 : Bys = cy0; generalize cq1 : opI = cy1; cbv <;> subst cq0 cq1)
      simp only [at_ltB hp hes]
      (generalize cq0 : Bys = cy0; generalize cq1 : opI = cy1; cbv <;> subst cq0 cq1)
      refine ⟨_, at_getB hp hes, ?_⟩
      (generalize cq0 : Bys = cy0; generalize cq1 : opI = cy1; cbv <;> subst cq0 cq1)
      refine callA.pure hok rfl ?_
      (generalize cq0 : Bys = cy0; generalize cq1 : opI = cy1; cbv <;> subst cq0 cq1)
      refine cnd_intro ?_ ?_ <;> intro hb <;> subst hb <;> (generalize cq0 : Bys = cy0; generalize cq1 : opI = cy1; cbv <;> subst cq0 cq1)
      · subst hp
        rw [hi]
        simp [std, Bys_len]
      · have hdl : d.length + (r.length + 1) = l.length := by rw [hes]; simp
        refine ⟨by subst hp; simp [std, Bys_len]; omega, (d ++ [e], r), ⟨by rw [hes]; simp, by rw [List.any_append, hd]; simp [hb0]⟩, by simp, ?_, rfl⟩
        generalize hd' : d ++ [e] = d'
        (generalize cq0 : Bys = cy0; generalize cq1 : opI = cy1; cbv <;> subst cq0 cq1)
        subst hp hd'
        simp [std, Bys_len]
theorem containsFuncB_ok {k : Nat} {g : Int → Bool} (hg : Kind8 k g) (l : List UInt8) (hl : l.length ≤ 9223372036854775807) :
    Pure E 94 [.d .old (.row 1 (Bys l)), .fn 95 [] [.fb [.fn k [] []] 0]] (.d .top (.bool (l.any fun c => !g (opI c)))) := by
  have h1 := indexFuncB_ok hg l hl
  have h2 := idxB_has (fun c => !g c) l 0
  generalize idxB (fun c => !g c) l 0 = q at *
  generalize (l.any fun c => !g (opI c)) = b at *
  refine pure_by has94 ?_
  generalize hp : std = p
  (generalize cq0 : Bys = cy0; cbv <;> subst cq0)
  refine callA.pure h1 rfl ?_
  (generalize cq0 : Bys = cy0; cbv <;> subst cq0)
  subst hp
  rw [← h2]
  rfl
end Go.Ly.Tr
end
section
namespace Go.Ly.Tr
set_option maxRecDepth 4000
def words : List Nm := [[97, 108, 108], [115, 111, 109, 101], [102, 97, 108, 115, 101], [110, 101, 120, 116], [97, 108, 119, 97, 121, 115], [117, 110, 116, 105, 108]]
def nameB (f g : Int → Bool) : Nm → Bool
  | [] => false
  | c :: s => decide (s.length < 16) && (f (opI c) && (!hasB words (c :: s) && !(s.any fun c => !g (opI c))))
theorem bytes_Bys {p : Prims} (hp : std = p) (s : Nm) : p.bytes s = Bys s := by subst hp; rfl
theorem name_ok {j k : Nat} {f g : Int → Bool} (hf : Kind8 j f) (hg : Kind8 k g) (s : Nm) : Pure E 55 [.d .old (.str s), .fn j [] [], .fn k [] []] (.d .top (.bool (nameB f g s))) := by
  have hw : Pure E 62 [.d .old (.row 1 [.str [97, 108, 108], .str [115, 111, 109, 101], .str [102, 97, 108, 115, 101], .str [110, 101, 120, 116], .str [97, 108, 119, 97, 121, 115], .str [117, 110, 116, 105, 108]]), .d .old (.str s)] (.d .top (.bool (hasB words s))) := contains_ok words s (by decide)
  obtain ⟨w, hw0⟩ : ∃ w, hasB words s = w := ⟨_, rfl⟩
  rw [hw0] at hw
  refine pure_by has55 ?_
  generalize hp : std = p
  (generalize cq0 : nameB = cy0; cbv <;> subst cq0)
  have e1 : p.lt (p.slen s) 1 = decide (s.length < 1) := by subst hp; simp only [std]; congr 1; exact propext (by omega)
  have e2 : p.lt 16 (p.slen s) = decide (16 < s.length) := by subst hp; simp [std]; omega
  refine cnd_intro ?_ ?_ <;> intro h1 <;> simp only [h1] <;> replace h1 := e1.symm.trans h1
  · (generalize cq0 : nameB = cy0; cbv <;> subst cq0)
    have : s = [] := List.eq_nil_of_length_eq_zero (by simpa using h1)
    subst this
    rfl
  cases s with
  | nil => simp at h1
  | cons c t =>
  obtain ⟨L, hL⟩ : ∃ L, c :: t = L := ⟨_, rfl⟩
  rw [hL] at e1 e2 hw hw0 ⊢
  have hnm : nameB f g L = (decide (t.length < 16) && (f (opI c) && (!w && !(t.any fun c => !g (opI c))))) := by rw [← hL, nameB, hL, hw0]
  have hll : L.length = t.length + 1 := by rw [← hL]; simp
  obtain ⟨q, hq⟩ : ∃ q, nameB f g L = q := ⟨_, rfl⟩
  rw [hq] at hnm ⊢
  cbv
  refine cnd_intro ?_ ?_ <;> intro h2 <;> simp only [h2] <;> replace h2 := e2.symm.trans h2
  · cbv
    have : ¬ t.length < 16 := by have := of_decide_eq_true h2; omega
    rw [hnm]
    simp [this]
  have ht : t.length < 16 := by have := of_decide_eq_false h2; omega
  cbv
  have hget : p.sget L 0 = opI c := by subst hp; rw [← hL]; simp [std, opI]
  refine ⟨by subst hp; simp [std]; omega, ?_⟩
  cbv
  have hf' : Pure E j [.d .old (.int .u8 (p.sget L 0))] (.d .top (.bool (f (opI c)))) := by rw [hget]; exact hf _
  have htl : p.bytes (p.scut L 1 (p.slen L)) = Bys t := by subst hp; rw [← hL]; simp [std, Bys]
  have hc : Pure E 94 [.d .old (.row 1 (p.bytes (p.scut L 1 (p.slen L)))), .fn 95 [] [.fb [.fn k [] []] 0]] (.d .top (.bool (t.any fun c => !g (opI c)))) := by rw [htl]; exact containsFuncB_ok hg t (by omega)
  have h16 : decide (t.length < 16) = true := by simpa using ht
  rw [h16] at hnm
  generalize f (opI c) = b1 at *
  generalize (t.any fun c => !g (opI c)) = b2 at *
  refine callA.pure hf' rfl ?_
  cbv
  cases b1 with
  | false =>
    simp only [not_f hp]
    cbv
    rw [hnm]
    rfl
  | true =>
    simp only [not_t hp]
    cbv
    refine callA.pure hw rfl ?_
    cbv
    cases w with
    | true =>
      cbv
      rw [hnm]
      rfl
    | false =>
      cbv
      refine ⟨by subst hp; simp [std]; omega, ?_⟩
      cbv
      refine callA.pure hc rfl ?_
      cbv
      rw [hnm]
      subst hp
      rfl
end Go.Ly.Tr
end
section
namespace Go.Ly.Tr
set_option maxRecDepth 4000
theorem var_kind : Kind8 56 fun c => std.le 117 c && std.le c 122 := fun b => by
  refine pure_by has56 ?_
  generalize hp : std = p
  cbv
  refine cnd_intro ?_ ?_ <;> intro hb <;> simp only [hb] <;> cbv
theorem fun_kind : Kind8 140 fun c => std.le 97 c && std.le c 116 := fun b => by
  refine pure_by has140 ?_
  generalize hp : std = p
  cbv
  refine cnd_intro ?_ ?_ <;> intro hb <;> simp only [hb] <;> cbv
theorem capital_kind : Kind8 163 fun c => std.le 65 c && std.le c 90 := fun c => capital_ok .old c
def letterB (c : Int) : Bool := (std.le 97 c && std.le c 122) || ((std.le 65 c && std.le c 90) || (std.le 48 c && std.le c 57))
theorem letter_kind : Kind8 141 letterB := fun b => by
  have h1 := small_ok .old b
  have h2 := capital_ok .old b
  have h3 := digit_ok .old b
  unfold letterB
  generalize (std.le 97 b && std.le b 122) = q1 at *
  generalize (std.le 65 b && std.le b 90) = q2 at *
  generalize (std.le 48 b && std.le b 57) = q3 at *
  refine pure_by has141 ?_
  generalize hp : std = p
  cbv
  refine callA.pure h1 rfl ?_
  cbv
  cases q1 with
  | true => cbv
  | false =>
    cbv
    refine callA.pure h2 rfl ?_
    cbv
    cases q2 with
    | true => cbv
    | false =>
      cbv
      refine callA.pure h3 rfl ?_
      cbv
def varB (s : Nm) : Bool := nameB (fun c => std.le 117 c && std.le c 122) (fun c => std.le 48 c && std.le c 57) s
def funB (s : Nm) : Bool := nameB (fun c => std.le 97 c && std.le c 116) letterB s
def predB (s : Nm) : Bool := nameB (fun c => std.le 65 c && std.le c 90) letterB s
theorem variable_ok (s : Nm) : Pure E 18 [.d .old (.str s)] (.d .top (.bool (varB s))) := by
  have h : Pure E 55 _ (.d .top (.bool (varB s))) := name_ok var_kind digit_kind s
  refine pure_by has18 ?_
  generalize hp : std = p
  (generalize cq0 : varB = cy0; cbv <;> subst cq0)
  refine callA.pure h rfl ?_
  (generalize cq0 : varB = cy0; cbv <;> subst cq0)
theorem function_ok (s : Nm) : Pure E 96 [.d .old (.str s)] (.d .top (.bool (funB s))) := by
  have h : Pure E 55 _ (.d .top (.bool (funB s))) := name_ok fun_kind letter_kind s
  refine pure_by has96 ?_
  generalize hp : std = p
  (generalize cq0 : funB = cy0; cbv <;> subst cq0)
  refine callA.pure h rfl ?_
  (generalize cq0 : funB = cy0; cbv <;> subst cq0)
theorem predicate_ok (s : Nm) : Pure E 134 [.d .old (.str s)] (.d .top (.bool (predB s))) := by
  have h : Pure E 55 _ (.d .top (.bool (predB s))) := name_ok capital_kind letter_kind s
  refine pure_by has134 ?_
  generalize hp : std = p
  (generalize cq0 : predB = cy0; cbv <;> subst cq0)
  refine callA.pure h rfl ?_
  (generalize cq0 : predB = cy0; cbv <;> subst cq0)
end Go.Ly.Tr
end
section
namespace Go.Ly.Tr
set_option maxRecDepth 4000
mutual
def Tm.same : Tm → Tm → Bool
  | .mk v n us, .mk v' n' us' => v == v' && (n == n' && Tm.sames us us')
def Tm.sames : List Tm → List Tm → Bool
  | [], [] => true
  | a :: l, b :: l' => a.same b && Tm.sames l l'
  | _, _ => false
end
theorem Tm.sames_app : ∀ (a a' b b' : List Tm), a.length = a'.length → Tm.sames (a ++ b) (a' ++ b') = (Tm.sames a a' && Tm.sames b b')
  | [], [], b, b', _ => by simp [Tm.sames]
  | x :: a, x' :: a', b, b', h => by
    simp only [List.cons_append, Tm.sames, Tm.sames_app a a' b b' (by simpa using h), Bool.and_assoc]
  | [], _ :: _, _, _, h => by simp at h
  | _ :: _, [], _, _, h => by simp at h
theorem Tm.sames_len : ∀ (a b : List Tm), Tm.sames a b = true → a.length = b.length
  | [], [], _ => rfl
  | x :: a, y :: b, h => by
    simp only [Tm.sames, Bool.and_eq_true] at h
    simp [Tm.sames_len a b h.2]
  | [], _ :: _, h => by simp [Tm.sames] at h
  | _ :: _, [], h => by simp [Tm.sames] at h
theorem sameTerms_ok (a b : List Tm) (hs : Tm.size.sizes a ≤ 1000000) : Pure E 36 [.d .old (.row 3 (Tm.ds a)), .d .old (.row 3 (Tm.ds b))] (.d .top (.bool (Tm.sames a b))) := by
  obtain ⟨n, hn⟩ : ∃ n, Tm.size.sizes a < n := ⟨_, Nat.lt_succ_self _⟩
  induction n generalizing a b with
  | zero => omega
  | succ n ih =>
  have hla := Tm.len_size a
  refine pure_by has36 ?_
  generalize hp : std = p
  (generalize cq0 : Tm.ds = cy0; generalize cq1 : Tm.sames = cy1; cbv <;> subst cq0 cq1)
  have e1 : p.not (p.eq (p.dlen (Tm.ds a)) (p.dlen (Tm.ds b))) = decide (a.length ≠ b.length) := by
    subst hp
    simp only [std, Tm.ds_len]
    by_cases h : a.length = b.length <;> simp [h]
    omega
  refine cnd_intro ?_ ?_ <;> intro hb <;> replace hb := e1.symm.trans hb
  · (generalize cq0 : Tm.ds = cy0; generalize cq1 : Tm.sames = cy1; cbv <;> subst cq0 cq1)
    have : Tm.sames a b = false := by
      cases h : Tm.sames a b with
      | false => rfl
      | true => have := Tm.sames_len a b h; simp [this] at hb
    rw [this]
  · have hlen : a.length = b.length := by simpa using hb
    (generalize cq0 : Tm.ds = cy0; generalize cq1 : Tm.sames = cy1; cbv <;> subst cq0 cq1)
    subst hp
    refine loopA_inv (ι := (List Tm × List Tm) × (List Tm × List Tm)) (fun j => a = j.1.1 ++ j.1.2 ∧ b = j.2.1 ++ j.2.2 ∧ j.1.1.length = j.2.1.length ∧ Tm.sames j.1.1 j.2.1 = true) (fun j => j.1.2.length)
      (fun j => mkF 55 [(0, .d .old (.row 3 (Tm.ds a))), (1, .d .old (.row 3 (Tm.ds b))), (4, .d .top (.bool false)), (5, .d .top (.int .i64 (std.dlen (Tm.ds j.1.1))))])
      (fun j => []) (fun j => ()) (([], a), ([], b)) ⟨rfl, rfl, rfl, rfl⟩ ?_ rfl (fun _ => rfl) ?_
    · generalize hp : std = p
      (generalize cq0 : Tm.ds = cy0; cbv <;> subst cq0)
      subst hp
      simp [std, Tm.ds]
    · rintro ⟨⟨d, r⟩, ⟨d2, r2⟩⟩ ⟨ha, hb2, hdd, hsm⟩
      simp only at ha hb2 hdd hsm ⊢
      cases r with
      | nil =>
        have hr2 : r2 = [] := by
          have := hlen
          rw [ha, hb2] at this
          simp only [List.length_append, List.append_nil, List.length_nil] at this
          exact List.eq_nil_of_length_eq_zero (by omega)
        rw [List.append_nil] at ha
        rw [hr2, List.append_nil] at hb2
        subst ha hb2
        generalize hp : std = p
        (generalize cq0 : Tm.ds = cy0; generalize cq1 : Tm.sames = cy1; cbv <;> subst cq0 cq1)
        simp only [end_ltT hp]
        (generalize cq0 : Tm.ds = cy0; generalize cq1 : Tm.sames = cy1; cbv <;> subst cq0 cq1)
        rw [hsm]
      | cons x r =>
        obtain ⟨y, r2', hr2⟩ : ∃ y r2', r2 = y :: r2' := by
          cases r2 with
          | nil =>
            have := hlen
            rw [ha, hb2] at this
            simp at this
            omega
          | cons y r2' => exact ⟨y, r2', rfl⟩
        subst hr2
        have hdl : d.length + (r.length + 1) = a.length := by rw [ha]; simp
        have hsz : Tm.size.sizes a = Tm.size.sizes d + (x.size + Tm.size.sizes r) := by rw [ha, Tm.sizes_app]; simp [Tm.size.sizes]
        have hwhole : Tm.sames a b = (x.same y && Tm.sames r r2') := by rw [ha, hb2, Tm.sames_app _ _ _ _ hdd, hsm]; simp [Tm.sames]
        obtain ⟨v, nm, us⟩ := x
        obtain ⟨v', nm', us'⟩ := y
        simp only [Tm.size] at hsz
        simp only [Tm.same] at hwhole
        generalize hp : std = p
        have g2 : p.dget (Tm.ds b) (p.dlen (Tm.ds d)) = some (.agg [.bool v', .str nm', .row 3 (Tm.ds us')]) := by
          have := at_getT hp hb2
          have e : p.dlen (Tm.ds d) = p.dlen (Tm.ds d2) := by subst hp; simp [std, Tm.ds_len, hdd]
          rw [e]
          exact this
        (generalize cq0 : Tm.ds = cy0; generalize cq1 : Tm.sames = cy1; cbv <;> subst cq0 cq1)
        simp only [at_ltT hp ha]
        (generalize cq0 : Tm.ds = cy0; generalize cq1 : Tm.sames = cy1; cbv <;> subst cq0 cq1)
        refine ⟨_, at_getT hp ha, ?_⟩
        (generalize cq0 : Tm.ds = cy0; generalize cq1 : Tm.sames = cy1; cbv <;> subst cq0 cq1)
        refine ⟨_, g2, ?_⟩
        (generalize cq0 : Tm.ds = cy0; generalize cq1 : Tm.sames = cy1; cbv <;> subst cq0 cq1)
        have b1 : p.not (p.beq v v') = !(v == v') := by subst hp; rfl
        have b2 : p.not (p.seq nm nm') = !(nm == nm') := by subst hp; rfl
        have b3 : p.not (Tm.sames us us') = !(Tm.sames us us') := by subst hp; rfl
        refine cnd_intro ?_ ?_ <;> intro h1 <;> simp only [h1] <;> replace h1 := b1.symm.trans h1
        · (generalize cq0 : Tm.ds = cy0; generalize cq1 : Tm.sames = cy1; cbv <;> subst cq0 cq1)
          have : (v == v') = false := by simpa using h1
          rw [hwhole, this]
          rfl
        have hv : (v == v') = true := by simpa using h1
        (generalize cq0 : Tm.ds = cy0; generalize cq1 : Tm.sames = cy1; cbv <;> subst cq0 cq1)
        refine ⟨_, at_getT hp ha, ?_⟩
        (generalize cq0 : Tm.ds = cy0; generalize cq1 : Tm.sames = cy1; cbv <;> subst cq0 cq1)
        refine ⟨_, g2, ?_⟩
        (generalize cq0 : Tm.ds = cy0; generalize cq1 : Tm.sames = cy1; cbv <;> subst cq0 cq1)
        refine cnd_intro ?_ ?_ <;> intro h2 <;> simp only [h2] <;> replace h2 := b2.symm.trans h2
        · (generalize cq0 : Tm.ds = cy0; generalize cq1 : Tm.sames = cy1; cbv <;> subst cq0 cq1)
          have : (nm == nm') = false := by simpa using h2
          rw [hwhole, this]
          simp
        have hnm : (nm == nm') = true := by simpa using h2
        (generalize cq0 : Tm.ds = cy0; generalize cq1 : Tm.sames = cy1; cbv <;> subst cq0 cq1)
        refine ⟨_, at_getT hp ha, ?_⟩
        (generalize cq0 : Tm.ds = cy0; generalize cq1 : Tm.sames = cy1; cbv <;> subst cq0 cq1)
        refine ⟨_, g2, ?_⟩
        (generalize cq0 : Tm.ds = cy0; generalize cq1 : Tm.sames = cy1; cbv <;> subst cq0 cq1)
        refine drawA.mk _ ⟨_, _, _, rfl, ih us us' (by omega) (by omega), rfl, rfl⟩ ?_
        (generalize cq0 : Tm.ds = cy0; generalize cq1 : Tm.sames = cy1; cbv <;> subst cq0 cq1)
        refine cnd_intro ?_ ?_ <;> intro h3 <;> replace h3 := b3.symm.trans h3
        · (generalize cq0 : Tm.ds = cy0; generalize cq1 : Tm.sames = cy1; cbv <;> subst cq0 cq1)
          have : Tm.sames us us' = false := by simpa using h3
          rw [hwhole, this]
          simp
        have hus : Tm.sames us us' = true := by simpa using h3
        (generalize cq0 : Tm.ds = cy0; generalize cq1 : Tm.sames = cy1; cbv <;> subst cq0 cq1)
        refine ⟨by subst hp; simp [std, Tm.ds_len]; omega, ((d ++ [.mk v nm us], r), (d2 ++ [.mk v' nm' us'], r2')), ⟨by rw [ha]; simp, by rw [hb2]; simp, by simp [hdd], ?_⟩, by simp, ?_, rfl⟩
        · rw [Tm.sames_app _ _ _ _ hdd, hsm]
          simp [Tm.sames, Tm.same, hv, hnm, hus]
        · generalize hd' : d ++ [Tm.mk v nm us] = d'
          (generalize cq0 : Tm.ds = cy0; generalize cq1 : Tm.sames = cy1; cbv <;> subst cq0 cq1)
          subst hp hd'
          simp [std, Tm.ds_len]
end Go.Ly.Tr
end
section
namespace Go.Ly.Tr
set_option maxRecDepth 4000
mutual
def Frm.same : Frm → Frm → Bool
  | .mk o n us fs, .mk o' n' us' fs' => o == o' && (n == n' && (Tm.sames us us' && Frm.sames fs fs'))
def Frm.sames : List Frm → List Frm → Bool
  | [], [] => true
  | a :: l, b :: l' => a.same b && Frm.sames l l'
  | _, _ => false
end
theorem Frm.sames_app : ∀ (a a' b b' : List Frm), a.length = a'.length → Frm.sames (a ++ b) (a' ++ b') = (Frm.sames a a' && Frm.sames b b')
  | [], [], b, b', _ => by simp [Frm.sames]
  | x :: a, x' :: a', b, b', h => by
    simp only [List.cons_append, Frm.sames, Frm.sames_app a a' b b' (by simpa using h), Bool.and_assoc]
  | [], _ :: _, _, _, h => by simp at h
  | _ :: _, [], _, _, h => by simp at h
theorem Frm.sames_len : ∀ (a b : List Frm), Frm.sames a b = true → a.length = b.length
  | [], [], _ => rfl
  | x :: a, y :: b, h => by
    simp only [Frm.sames, Bool.and_eq_true] at h
    simp [Frm.sames_len a b h.2]
  | [], _ :: _, h => by simp [Frm.sames] at h
  | _ :: _, [], h => by simp [Frm.sames] at h
theorem sameForms_of (a b : List Frm) (hla : a.length ≤ 1000000) (ih : ∀ x ∈ a, ∀ y : Frm, Pure E 23 [.d .old x.d, .d .old y.d] (.d .top (.bool (x.same y)))) :
    Pure E 65 [.d .old (.row 4 (Frm.ds a)), .d .old (.row 4 (Frm.ds b))] (.d .top (.bool (Frm.sames a b))) := by
  refine pure_by has65 ?_
  generalize hp : std = p
  (generalize cq0 : Frm.ds = cy0; generalize cq1 : Frm.sames = cy1; cbv <;> subst cq0 cq1)
  have e1 : p.not (p.eq (p.dlen (Frm.ds a)) (p.dlen (Frm.ds b))) = decide (a.length ≠ b.length) := by
    subst hp
    simp only [std, Frm.ds_len]
    by_cases h : a.length = b.length <;> simp [h]
    omega
  refine cnd_intro ?_ ?_ <;> intro hb <;> replace hb := e1.symm.trans hb
  · (generalize cq0 : Frm.ds = cy0; generalize cq1 : Frm.sames = cy1; cbv <;> subst cq0 cq1)
    have : Frm.sames a b = false := by
      cases h : Frm.sames a b with
      | false => rfl
      | true => have := Frm.sames_len a b h; simp [this] at hb
    rw [this]
  · have hlen : a.length = b.length := by simpa using hb
    (generalize cq0 : Frm.ds = cy0; generalize cq1 : Frm.sames = cy1; cbv <;> subst cq0 cq1)
    subst hp
    refine loopA_inv (ι := (List Frm × List Frm) × (List Frm × List Frm)) (fun j => a = j.1.1 ++ j.1.2 ∧ b = j.2.1 ++ j.2.2 ∧ j.1.1.length = j.2.1.length ∧ Frm.sames j.1.1 j.2.1 = true) (fun j => j.1.2.length)
      (fun j => mkF 27 [(0, .d .old (.row 4 (Frm.ds a))), (1, .d .old (.row 4 (Frm.ds b))), (4, .d .top (.bool false)), (5, .d .top (.int .i64 (std.dlen (Frm.ds j.1.1))))])
      (fun j => []) (fun j => ()) (([], a), ([], b)) ⟨rfl, rfl, rfl, rfl⟩ ?_ rfl (fun _ => rfl) ?_
    · generalize hp : std = p
      (generalize cq0 : Frm.ds = cy0; cbv <;> subst cq0)
      subst hp
      simp [std, Frm.ds]
    · rintro ⟨⟨d, r⟩, ⟨d2, r2⟩⟩ ⟨ha, hb2, hdd, hsm⟩
      simp only at ha hb2 hdd hsm ⊢
      cases r with
      | nil =>
        have hr2 : r2 = [] := by
          have := hlen
          rw [ha, hb2] at this
          simp only [List.length_append, List.append_nil, List.length_nil] at this
          exact List.eq_nil_of_length_eq_zero (by omega)
        rw [List.append_nil] at ha
        rw [hr2, List.append_nil] at hb2
        subst ha hb2
        generalize hp : std = p
        (generalize cq0 : Frm.ds = cy0; generalize cq1 : Frm.sames = cy1; cbv <;> subst cq0 cq1)
        simp only [end_ltF hp]
        (generalize cq0 : Frm.ds = cy0; generalize cq1 : Frm.sames = cy1; cbv <;> subst cq0 cq1)
        rw [hsm]
      | cons x r =>
        obtain ⟨y, r2', hr2⟩ : ∃ y r2', r2 = y :: r2' := by
          cases r2 with
          | nil =>
            have := hlen
            rw [ha, hb2] at this
            simp at this
            omega
          | cons y r2' => exact ⟨y, r2', rfl⟩
        subst hr2
        have hdl : d.length + (r.length + 1) = a.length := by rw [ha]; simp
        have hwhole : Frm.sames a b = (x.same y && Frm.sames r r2') := by rw [ha, hb2, Frm.sames_app _ _ _ _ hdd, hsm]; simp [Frm.sames]
        have hok := ih x (by rw [ha]; simp) y
        obtain ⟨q, hq⟩ : ∃ q, x.same y = q := ⟨_, rfl⟩
        rw [hq] at hwhole hok
        obtain ⟨o, nm, us, fs⟩ := x
        obtain ⟨o', nm', us', fs'⟩ := y
        simp only [Frm.d] at hok
        generalize hp : std = p
        have g2 : p.dget (Frm.ds b) (p.dlen (Frm.ds d)) = some (.agg [.int .u8 (opI o'), .str nm', .row 3 (Tm.ds us'), .row 4 (Frm.ds fs')]) := by
          have := at_getF hp hb2
          have e : p.dlen (Frm.ds d) = p.dlen (Frm.ds d2) := by subst hp; simp [std, Frm.ds_len, hdd]
          rw [e]
          exact this
        have b3 : p.not q = !q := by subst hp; rfl
        (generalize cq0 : Frm.ds = cy0; generalize cq1 : Frm.sames = cy1; cbv <;> subst cq0 cq1)
        simp only [at_ltF hp ha]
        (generalize cq0 : Frm.ds = cy0; generalize cq1 : Frm.sames = cy1; cbv <;> subst cq0 cq1)
        refine ⟨_, at_getF hp ha, ?_⟩
        (generalize cq0 : Frm.ds = cy0; generalize cq1 : Frm.sames = cy1; generalize cq2 : Tm.ds = cy2; generalize cq3 : opI = cy3; cbv <;> subst cq0 cq1 cq2 cq3)
        refine ⟨_, g2, ?_⟩
        (generalize cq0 : Frm.ds = cy0; generalize cq1 : Frm.sames = cy1; generalize cq2 : Tm.ds = cy2; generalize cq3 : opI = cy3; cbv <;> subst cq0 cq1 cq2 cq3)
        refine drawA.mk _ ⟨_, _, _, rfl, hok, rfl, rfl⟩ ?_
        (generalize cq0 : Frm.ds = cy0; generalize cq1 : Frm.sames = cy1; generalize cq2 : Tm.ds = cy2; generalize cq3 : opI = cy3; cbv <;> subst cq0 cq1 cq2 cq3)
        refine cnd_intro ?_ ?_ <;> intro h3 <;> replace h3 := b3.symm.trans h3
        · (generalize cq0 : Frm.ds = cy0; generalize cq1 : Frm.sames = cy1; generalize cq2 : Tm.ds = cy2; generalize cq3 : opI = cy3; cbv <;> subst cq0 cq1 cq2 cq3)
          have : q = false := by simpa using h3
          rw [hwhole, this]
          simp
        have hqt : q = true := by simpa using h3
        (generalize cq0 : Frm.ds = cy0; generalize cq1 : Frm.sames = cy1; generalize cq2 : Tm.ds = cy2; generalize cq3 : opI = cy3; cbv <;> subst cq0 cq1 cq2 cq3)
        refine ⟨by subst hp; simp [std, Frm.ds_len]; omega, ((d ++ [.mk o nm us fs], r), (d2 ++ [.mk o' nm' us' fs'], r2')), ⟨by rw [ha]; simp, by rw [hb2]; simp, by simp [hdd], ?_⟩, by simp, ?_, rfl⟩
        · rw [Frm.sames_app _ _ _ _ hdd, hsm]
          simp [Frm.sames, hq, hqt]
        · generalize hd' : d ++ [Frm.mk o nm us fs] = d'
          (generalize cq0 : Frm.ds = cy0; generalize cq1 : Tm.ds = cy1; generalize cq2 : opI = cy2; cbv <;> subst cq0 cq1 cq2)
          subst hp hd'
          simp [std, Frm.ds_len]
theorem same_ok (f : Frm) : f.size ≤ 1000000 → ∀ g : Frm, Pure E 23 [.d .old f.d, .d .old g.d] (.d .top (.bool (f.same g))) := by
  induction f using Frm.ind with
  | h o n us fs ih =>
  intro hs g
  have hs' : Tm.size.sizes us + Frm.size.sizes fs + 1 ≤ 1000000 := hs
  have hl := Frm.len_size fs
  obtain ⟨o', n', us', fs'⟩ := g
  have h1 := sameTerms_ok us us' (by omega)
  have h2 := sameForms_of fs fs' (by omega) fun x hx y => ih x hx (by have := Frm.size_mem hx; omega) y
  simp only [Frm.d, Frm.same]
  generalize Tm.sames us us' = q1 at *
  generalize Frm.sames fs fs' = q2 at *
  refine pure_by has23 ?_
  generalize hp : std = p
  have b1 : p.eq (opI o) (opI o') = (o == o') := by
    subst hp
    simp only [std, opI]
    rw [Bool.eq_iff_iff, beq_iff_eq, beq_iff_eq]
    exact ⟨fun e => UInt8.toNat_inj.1 (by omega), fun e => by rw [e]⟩
  have b2 : p.seq n n' = (n == n') := by subst hp; rfl
  generalize (o == o') = q3 at *
  generalize (n == n') = q4 at *
  (generalize cq0 : Frm.ds = cy0; generalize cq1 : Tm.ds = cy1; generalize cq2 : opI = cy2; cbv <;> subst cq0 cq1 cq2)
  refine cnd_intro ?_ ?_ <;> intro h3 <;> simp only [h3] <;> replace h3 := b1.symm.trans h3 <;> subst h3
  · (generalize cq0 : Frm.ds = cy0; generalize cq1 : Tm.ds = cy1; generalize cq2 : opI = cy2; cbv <;> subst cq0 cq1 cq2)
    refine cnd_intro ?_ ?_ <;> intro h4 <;> simp only [h4] <;> replace h4 := b2.symm.trans h4 <;> subst h4
    · (generalize cq0 : Frm.ds = cy0; generalize cq1 : Tm.ds = cy1; generalize cq2 : opI = cy2; cbv <;> subst cq0 cq1 cq2)
      refine callA.pure h1 rfl ?_
      (generalize cq0 : Frm.ds = cy0; generalize cq1 : Tm.ds = cy1; generalize cq2 : opI = cy2; cbv <;> subst cq0 cq1 cq2)
      refine cnd_intro ?_ ?_ <;> intro h5 <;> subst h5
      · (generalize cq0 : Frm.ds = cy0; generalize cq1 : Tm.ds = cy1; generalize cq2 : opI = cy2; cbv <;> subst cq0 cq1 cq2)
        refine callA.pure h2 rfl ?_
        (generalize cq0 : Frm.ds = cy0; generalize cq1 : Tm.ds = cy1; generalize cq2 : opI = cy2; cbv <;> subst cq0 cq1 cq2)
      · (generalize cq0 : Frm.ds = cy0; generalize cq1 : Tm.ds = cy1; generalize cq2 : opI = cy2; cbv <;> subst cq0 cq1 cq2)
    · (generalize cq0 : Frm.ds = cy0; generalize cq1 : Tm.ds = cy1; generalize cq2 : opI = cy2; cbv <;> subst cq0 cq1 cq2)
  · (generalize cq0 : Frm.ds = cy0; generalize cq1 : Tm.ds = cy1; generalize cq2 : opI = cy2; cbv <;> subst cq0 cq1 cq2)
end Go.Ly.Tr
end
section
namespace Go.Ly.Tr
set_option maxRecDepth 4000
def mapO {α : Type} (g : α → D) (l : List α) : List D := l.map g
section
variable {α : Type} {g : α → D} {p : Prims} {l d r : List α} {e : α}
theorem at_ltO (hp : std = p) (h : l = d ++ e :: r) : p.lt (p.dlen (mapO g d)) (p.dlen (mapO g l)) = true := at_ltM hp h
theorem end_ltO (hp : std = p) (l : List α) : p.lt (p.dlen (mapO g l)) (p.dlen (mapO g l)) = false := end_ltM hp l
theorem at_getO (hp : std = p) (h : l = d ++ e :: r) : p.dget (mapO g l) (p.dlen (mapO g d)) = some (g e) := at_getM hp h
theorem mapO_len (l : List α) : (mapO g l).length = l.length := by simp [mapO]
end
def idxQ {α : Type} (q : α → Bool) : List α → Nat → Int
  | [], _ => -1
  | e :: r, k => if q e then (k : Int) else idxQ q r (k + 1)
theorem idxQ_app {α : Type} (q : α → Bool) : ∀ (d r : List α) (k : Nat), d.any q = false → idxQ q (d ++ r) k = idxQ q r (k + d.length)
  | [], r, k, _ => by simp
  | e :: d, r, k, h => by
    rw [List.any_cons, Bool.or_eq_false_iff] at h
    rw [List.cons_append, idxQ, if_neg (by simp [h.1]), idxQ_app q d r (k + 1) h.2, List.length_cons]
    congr 1
    omega
theorem idxQ_has {α : Type} (q : α → Bool) : ∀ (l : List α) (k : Nat), decide (0 ≤ idxQ q l k) = l.any q
  | [], _ => rfl
  | e :: r, k => by
    have := idxQ_has q r (k + 1)
    rw [List.any_cons, idxQ, ← this]
    by_cases h : q e = true
    · rw [if_pos h, h]
      simp
    · rw [if_neg h]
      simp [h]
theorem indexT_ok {α : Type} {g : α → D} {q : α → Bool} {k : Nat} {y : D} (l : List α) (hl : l.length ≤ 9223372036854775807) (hel : ∀ x ∈ l, (∃ v1 v2 v3, g x = .agg [.bool v1, .str v2, .row 3 v3]) ∧ Pure E k [.d .old (g x), .fb [.d .old y] 0] (.d .top (.bool (q x)))) :
    Pure E 137 [.d .old (.row 3 (mapO g l)), .fn k [] [.fb [.d .old y] 0]] (.d .top (.int .i64 (idxQ q l 0))) := by
  refine pure_by has137 ?_
  generalize hp : std = p
  (generalize cq0 : mapO = cy0; cbv <;> subst cq0)
  subst hp
  refine loopA_inv (ι := List α × List α) (fun j => l = j.1 ++ j.2 ∧ j.1.any q = false) (fun j => j.2.length)
    (fun j => mkF 19 [(0, .d .old (.row 3 (mapO g l))), (1, .fn k [] [.fb [.d .old y] 0]), (6, .d .old (.row 3 (mapO g l))), (7, .d .top (.int .i64 (std.dlen (mapO g l)))), (8, .d .top (.int .i64 (std.dlen (mapO g j.1))))])
    (fun j => []) (fun j => ()) ([], l) ⟨rfl, rfl⟩ ?_ rfl (fun _ => rfl) ?_
  · generalize hp : std = p
    (generalize cq0 : mapO = cy0; cbv <;> subst cq0)
    subst hp
    simp [std, mapO]
  · rintro ⟨d, r⟩ ⟨hes, hd⟩
    simp only at hes hd ⊢
    cases r with
    | nil =>
      rw [List.append_nil] at hes
      subst hes
      have hi : idxQ q l 0 = -1 := by
        have := idxQ_app q l [] 0 hd
        rw [List.append_nil] at this
        rw [this]
        rfl
      rw [hi]
      generalize hp : std = p
      (generalize cq0 : mapO = cy0; cbv <;> subst cq0)
      simp only [end_ltO hp]
      (generalize cq0 : mapO = cy0; cbv <;> subst cq0)
    | cons e r =>
      have hi : idxQ q l 0 = if q e then (d.length : Int) else idxQ q r (d.length + 1) := by rw [hes, idxQ_app _ _ _ _ hd]; simp [idxQ]
      obtain ⟨z, hz⟩ : ∃ z, idxQ q l 0 = z := ⟨_, rfl⟩
      obtain ⟨⟨v1, v2, v3, he⟩, hok⟩ := hel e (by rw [hes]; simp)
      rw [he] at hok
      obtain ⟨bb, hb0⟩ : ∃ bb, q e = bb := ⟨_, rfl⟩
      rw [hz, hb0] at hi
      rw [hb0] at hok
      rw [hz]
      generalize hp : std = p
      have hget := at_getO (g := g) hp hes
      rw [he] at hget
      (generalize cq0 : mapO = cy0; cbv <;> subst cq0)
      simp only [at_ltO hp hes]
      (generalize cq0 : mapO = cy0; cbv <;> subst cq0)
      refine ⟨_, hget, ?_⟩
      (generalize cq0 : mapO = cy0; cbv <;> subst cq0)
      refine callA.pure hok rfl ?_
      (generalize cq0 : mapO = cy0; cbv <;> subst cq0)
      refine cnd_intro ?_ ?_ <;> intro hb <;> subst hb <;> (generalize cq0 : mapO = cy0; cbv <;> subst cq0)
      · subst hp
        rw [hi]
        simp [std, mapO]
      · have hdl : d.length + (r.length + 1) = l.length := by rw [hes]; simp
        refine ⟨by subst hp; simp [std, mapO]; omega, (d ++ [e], r), ⟨by rw [hes]; simp, by rw [List.any_append, hd]; simp [hb0]⟩, by simp, ?_, rfl⟩
        generalize hd' : d ++ [e] = d'
        (generalize cq0 : mapO = cy0; cbv <;> subst cq0)
        subst hp hd'
        simp [std, mapO]
theorem containsFuncT_ok {α : Type} {g : α → D} {q : α → Bool} {k : Nat} {y : D} (l : List α) (hl : l.length ≤ 9223372036854775807) (hel : ∀ x ∈ l, (∃ v1 v2 v3, g x = .agg [.bool v1, .str v2, .row 3 v3]) ∧ Pure E k [.d .old (g x), .fb [.d .old y] 0] (.d .top (.bool (q x)))) :
    Pure E 90 [.d .old (.row 3 (mapO g l)), .fn k [] [.fb [.d .old y] 0]] (.d .top (.bool (l.any q))) := by
  have h1 := indexT_ok l hl hel
  have h2 := idxQ_has q l 0
  generalize idxQ q l 0 = z at *
  generalize (l.any q) = b at *
  refine pure_by has90 ?_
  generalize hp : std = p
  (generalize cq0 : mapO = cy0; cbv <;> subst cq0)
  refine callA.pure h1 rfl ?_
  (generalize cq0 : mapO = cy0; cbv <;> subst cq0)
  subst hp
  rw [← h2]
  rfl
theorem indexF_ok {α : Type} {g : α → D} {q : α → Bool} {k : Nat} {y : D} (l : List α) (hl : l.length ≤ 9223372036854775807) (hel : ∀ x ∈ l, (∃ v1 v2 v3 v4, g x = .agg [.int .u8 v1, .str v2, .row 3 v3, .row 4 v4]) ∧ Pure E k [.d .old (g x), .fb [.d .old y] 0] (.d .top (.bool (q x)))) :
    Pure E 138 [.d .old (.row 4 (mapO g l)), .fn k [] [.fb [.d .old y] 0]] (.d .top (.int .i64 (idxQ q l 0))) := by
  refine pure_by has138 ?_
  generalize hp : std = p
  (generalize cq0 : mapO = cy0; cbv <;> subst cq0)
  subst hp
  refine loopA_inv (ι := List α × List α) (fun j => l = j.1 ++ j.2 ∧ j.1.any q = false) (fun j => j.2.length)
    (fun j => mkF 19 [(0, .d .old (.row 4 (mapO g l))), (1, .fn k [] [.fb [.d .old y] 0]), (6, .d .old (.row 4 (mapO g l))), (7, .d .top (.int .i64 (std.dlen (mapO g l)))), (8, .d .top (.int .i64 (std.dlen (mapO g j.1))))])
    (fun j => []) (fun j => ()) ([], l) ⟨rfl, rfl⟩ ?_ rfl (fun _ => rfl) ?_
  · generalize hp : std = p
    (generalize cq0 : mapO = cy0; cbv <;> subst cq0)
    subst hp
    simp [std, mapO]
  · rintro ⟨d, r⟩ ⟨hes, hd⟩
    simp only at hes hd ⊢
    cases r with
    | nil =>
      rw [List.append_nil] at hes
      subst hes
      have hi : idxQ q l 0 = -1 := by
        have := idxQ_app q l [] 0 hd
        rw [List.append_nil] at this
        rw [this]
        rfl
      rw [hi]
      generalize hp : std = p
      (generalize cq0 : mapO = cy0; cbv <;> subst cq0)
      simp only [end_ltO hp]
      (generalize cq0 : mapO = cy0; cbv <;> subst cq0)
    | cons e r =>
      have hi : idxQ q l 0 = if q e then (d.length : Int) else idxQ q r (d.length + 1) := by rw [hes, idxQ_app _ _ _ _ hd]; simp [idxQ]
      obtain ⟨z, hz⟩ : ∃ z, idxQ q l 0 = z := ⟨_, rfl⟩
      obtain ⟨⟨v1, v2, v3, v4, he⟩, hok⟩ := hel e (by rw [hes]; simp)
      rw [he] at hok
      obtain ⟨bb, hb0⟩ : ∃ bb, q e = bb := ⟨_, rfl⟩
      rw [hz, hb0] at hi
      rw [hb0] at hok
      rw [hz]
      generalize hp : std = p
      have hget := at_getO (g := g) hp hes
      rw [he] at hget
      (generalize cq0 : mapO = cy0; cbv <;> subst cq0)
      simp only [at_ltO hp hes]
      (generalize cq0 : mapO = cy0; cbv <;> subst cq0)
      refine ⟨_, hget, ?_⟩
      (generalize cq0 : mapO = cy0; cbv <;> subst cq0)
      refine callA.pure hok rfl ?_
      (generalize cq0 : mapO = cy0; cbv <;> subst cq0)
      refine cnd_intro ?_ ?_ <;> intro hb <;> subst hb <;> (generalize cq0 : mapO = cy0; cbv <;> subst cq0)
      · subst hp
        rw [hi]
        simp [std, mapO]
      · have hdl : d.length + (r.length + 1) = l.length := by rw [hes]; simp
        refine ⟨by subst hp; simp [std, mapO]; omega, (d ++ [e], r), ⟨by rw [hes]; simp, by rw [List.any_append, hd]; simp [hb0]⟩, by simp, ?_, rfl⟩
        generalize hd' : d ++ [e] = d'
        (generalize cq0 : mapO = cy0; cbv <;> subst cq0)
        subst hp hd'
        simp [std, mapO]
theorem containsFuncF_ok {α : Type} {g : α → D} {q : α → Bool} {k : Nat} {y : D} (l : List α) (hl : l.length ≤ 9223372036854775807) (hel : ∀ x ∈ l, (∃ v1 v2 v3 v4, g x = .agg [.int .u8 v1, .str v2, .row 3 v3, .row 4 v4]) ∧ Pure E k [.d .old (g x), .fb [.d .old y] 0] (.d .top (.bool (q x)))) :
    Pure E 92 [.d .old (.row 4 (mapO g l)), .fn k [] [.fb [.d .old y] 0]] (.d .top (.bool (l.any q))) := by
  have h1 := indexF_ok l hl hel
  have h2 := idxQ_has q l 0
  generalize idxQ q l 0 = z at *
  generalize (l.any q) = b at *
  refine pure_by has92 ?_
  generalize hp : std = p
  (generalize cq0 : mapO = cy0; cbv <;> subst cq0)
  refine callA.pure h1 rfl ?_
  (generalize cq0 : mapO = cy0; cbv <;> subst cq0)
  subst hp
  rw [← h2]
  rfl
theorem indexL_ok {α : Type} {g : α → D} {q : α → Bool} {k : Nat} {y : D} (l : List α) (hl : l.length ≤ 9223372036854775807) (hel : ∀ x ∈ l, (∃ v1 v2 v3 v4, g x = .agg [.str v1, .bool v2, .str v3, .row 3 v4]) ∧ Pure E k [.d .old (g x), .fb [.d .old y] 0] (.d .top (.bool (q x)))) :
    Pure E 98 [.d .old (.row 4 (mapO g l)), .fn k [] [.fb [.d .old y] 0]] (.d .top (.int .i64 (idxQ q l 0))) := by
  refine pure_by has98 ?_
  generalize hp : std = p
  (generalize cq0 : mapO = cy0; cbv <;> subst cq0)
  subst hp
  refine loopA_inv (ι := List α × List α) (fun j => l = j.1 ++ j.2 ∧ j.1.any q = false) (fun j => j.2.length)
    (fun j => mkF 19 [(0, .d .old (.row 4 (mapO g l))), (1, .fn k [] [.fb [.d .old y] 0]), (6, .d .old (.row 4 (mapO g l))), (7, .d .top (.int .i64 (std.dlen (mapO g l)))), (8, .d .top (.int .i64 (std.dlen (mapO g j.1))))])
    (fun j => []) (fun j => ()) ([], l) ⟨rfl, rfl⟩ ?_ rfl (fun _ => rfl) ?_
  · generalize hp : std = p
    (generalize cq0 : mapO = cy0; cbv <;> subst cq0)
    subst hp
    simp [std, mapO]
  · rintro ⟨d, r⟩ ⟨hes, hd⟩
    simp only at hes hd ⊢
    cases r with
    | nil =>
      rw [List.append_nil] at hes
      subst hes
      have hi : idxQ q l 0 = -1 := by
        have := idxQ_app q l [] 0 hd
        rw [List.append_nil] at this
        rw [this]
        rfl
      rw [hi]
      generalize hp : std = p
      (generalize cq0 : mapO = cy0; cbv <;> subst cq0)
      simp only [end_ltO hp]
      (generalize cq0 : mapO = cy0; cbv <;> subst cq0)
    | cons e r =>
      have hi : idxQ q l 0 = if q e then (d.length : Int) else idxQ q r (d.length + 1) := by rw [hes, idxQ_app _ _ _ _ hd]; simp [idxQ]
      obtain ⟨z, hz⟩ : ∃ z, idxQ q l 0 = z := ⟨_, rfl⟩
      obtain ⟨⟨v1, v2, v3, v4, he⟩, hok⟩ := hel e (by rw [hes]; simp)
      rw [he] at hok
      obtain ⟨bb, hb0⟩ : ∃ bb, q e = bb := ⟨_, rfl⟩
      rw [hz, hb0] at hi
      rw [hb0] at hok
      rw [hz]
      generalize hp : std = p
      have hget := at_getO (g := g) hp hes
      rw [he] at hget
      (generalize cq0 : mapO = cy0; cbv <;> subst cq0)
      simp only [at_ltO hp hes]
      (generalize cq0 : mapO = cy0; cbv <;> subst cq0)
      refine ⟨_, hget, ?_⟩
      (generalize cq0 : mapO = cy0; cbv <;> subst cq0)
      refine callA.pure hok rfl ?_
      (generalize cq0 : mapO = cy0; cbv <;> subst cq0)
      refine cnd_intro ?_ ?_ <;> intro hb <;> subst hb <;> (generalize cq0 : mapO = cy0; cbv <;> subst cq0)
      · subst hp
        rw [hi]
        simp [std, mapO]
      · have hdl : d.length + (r.length + 1) = l.length := by rw [hes]; simp
        refine ⟨by subst hp; simp [std, mapO]; omega, (d ++ [e], r), ⟨by rw [hes]; simp, by rw [List.any_append, hd]; simp [hb0]⟩, by simp, ?_, rfl⟩
        generalize hd' : d ++ [e] = d'
        (generalize cq0 : mapO = cy0; cbv <;> subst cq0)
        subst hp hd'
        simp [std, mapO]
theorem indexO_ok {α : Type} {g : α → D} {q : α → Bool} {k : Nat} {y : D} (l : List α) (hl : l.length ≤ 9223372036854775807) (hel : ∀ x ∈ l, (∃ v1 v2 v3 v4, g x = .agg [.str v1, .bool v2, .str v3, .row 3 v4]) ∧ Pure E k [.d .old (g x), .fb [.d .old y] 0] (.d .top (.bool (q x)))) :
    Pure E 100 [.d .old (.row 4 (mapO g l)), .fn k [] [.fb [.d .old y] 0]] (.d .top (.int .i64 (idxQ q l 0))) := by
  refine pure_by has100 ?_
  generalize hp : std = p
  (generalize cq0 : mapO = cy0; cbv <;> subst cq0)
  subst hp
  refine loopA_inv (ι := List α × List α) (fun j => l = j.1 ++ j.2 ∧ j.1.any q = false) (fun j => j.2.length)
    (fun j => mkF 19 [(0, .d .old (.row 4 (mapO g l))), (1, .fn k [] [.fb [.d .old y] 0]), (6, .d .old (.row 4 (mapO g l))), (7, .d .top (.int .i64 (std.dlen (mapO g l)))), (8, .d .top (.int .i64 (std.dlen (mapO g j.1))))])
    (fun j => []) (fun j => ()) ([], l) ⟨rfl, rfl⟩ ?_ rfl (fun _ => rfl) ?_
  · generalize hp : std = p
    (generalize cq0 : mapO = cy0; cbv <;> subst cq0)
    subst hp
    simp [std, mapO]
  · rintro ⟨d, r⟩ ⟨hes, hd⟩
    simp only at hes hd ⊢
    cases r with
    | nil =>
      rw [List.append_nil] at hes
      subst hes
      have hi : idxQ q l 0 = -1 := by
        have := idxQ_app q l [] 0 hd
        rw [List.append_nil] at this
        rw [this]
        rfl
      rw [hi]
      generalize hp : std = p
      (generalize cq0 : mapO = cy0; cbv <;> subst cq0)
      simp only [end_ltO hp]
      (generalize cq0 : mapO = cy0; cbv <;> subst cq0)
    | cons e r =>
      have hi : idxQ q l 0 = if q e then (d.length : Int) else idxQ q r (d.length + 1) := by rw [hes, idxQ_app _ _ _ _ hd]; simp [idxQ]
      obtain ⟨z, hz⟩ : ∃ z, idxQ q l 0 = z := ⟨_, rfl⟩
      obtain ⟨⟨v1, v2, v3, v4, he⟩, hok⟩ := hel e (by rw [hes]; simp)
      rw [he] at hok
      obtain ⟨bb, hb0⟩ : ∃ bb, q e = bb := ⟨_, rfl⟩
      rw [hz, hb0] at hi
      rw [hb0] at hok
      rw [hz]
      generalize hp : std = p
      have hget := at_getO (g := g) hp hes
      rw [he] at hget
      (generalize cq0 : mapO = cy0; cbv <;> subst cq0)
      simp only [at_ltO hp hes]
      (generalize cq0 : mapO = cy0; cbv <;> subst cq0)
      refine ⟨_, hget, ?_⟩
      (generalize cq0 : mapO = cy0; cbv <;> subst cq0)
      refine callA.pure hok rfl ?_
      (generalize cq0 : mapO = cy0; cbv <;> subst cq0)
      refine cnd_intro ?_ ?_ <;> intro hb <;> subst hb <;> (generalize cq0 : mapO = cy0; cbv <;> subst cq0)
      · subst hp
        rw [hi]
        simp [std, mapO]
      · have hdl : d.length + (r.length + 1) = l.length := by rw [hes]; simp
        refine ⟨by subst hp; simp [std, mapO]; omega, (d ++ [e], r), ⟨by rw [hes]; simp, by rw [List.any_append, hd]; simp [hb0]⟩, by simp, ?_, rfl⟩
        generalize hd' : d ++ [e] = d'
        (generalize cq0 : mapO = cy0; cbv <;> subst cq0)
        subst hp hd'
        simp [std, mapO]
theorem containsFuncO_ok {α : Type} {g : α → D} {q : α → Bool} {k : Nat} {y : D} (l : List α) (hl : l.length ≤ 9223372036854775807) (hel : ∀ x ∈ l, (∃ v1 v2 v3 v4, g x = .agg [.str v1, .bool v2, .str v3, .row 3 v4]) ∧ Pure E k [.d .old (g x), .fb [.d .old y] 0] (.d .top (.bool (q x)))) :
    Pure E 60 [.d .old (.row 4 (mapO g l)), .fn k [] [.fb [.d .old y] 0]] (.d .top (.bool (l.any q))) := by
  have h1 := indexO_ok l hl hel
  have h2 := idxQ_has q l 0
  generalize idxQ q l 0 = z at *
  generalize (l.any q) = b at *
  refine pure_by has60 ?_
  generalize hp : std = p
  (generalize cq0 : mapO = cy0; cbv <;> subst cq0)
  refine callA.pure h1 rfl ?_
  (generalize cq0 : mapO = cy0; cbv <;> subst cq0)
  subst hp
  rw [← h2]
  rfl
end Go.Ly.Tr
end
section
namespace Go.Ly.Tr
set_option maxRecDepth 4000
mutual
def Tm.ok : Tm → Bool
  | .mk v n us => if v then us.isEmpty && varB n else (funB n && decide (us.length ≤ 4)) && Tm.oks us
def Tm.oks : List Tm → Bool
  | [] => true
  | t :: l => t.ok && Tm.oks l
end
theorem oks_any : ∀ l : List Tm, Tm.oks l = !(l.any fun t => !t.ok)
  | [] => rfl
  | t :: l => by rw [Tm.oks, oks_any l, List.any_cons]; cases t.ok <;> simp
theorem term_ok (t : Tm) : t.size ≤ 1000000 → Pure E 58 [.d .old t.d, .d .old (.int .i64 0)] (.d .top (.bool t.ok)) := by
  induction t using Tm.ind with
  | h v n us ih =>
  intro hs
  have hl := Tm.len_size us
  simp only [Tm.size] at hs
  have hc : ∀ x ∈ us, (∃ a b c, x.d = .agg [.bool a, .str b, .row 3 c]) ∧ Pure E 97 [.d .old x.d, .fb [.d .old (.int .i64 0)] 0] (.d .top (.bool (!x.ok))) := by
    intro x hx
    have := Tm.size_mem hx
    have h := ih x hx (by omega)
    obtain ⟨a, b, c⟩ := x
    generalize (Tm.mk a b c).ok = q at *
    simp only [Tm.d] at h ⊢
    refine ⟨⟨_, _, _, rfl⟩, ?_⟩
    refine pure_by has97 ?_
    generalize hp : std = p
    (generalize cq0 : Tm.ds = cy0; cbv <;> subst cq0)
    refine callA.pure h rfl ?_
    (generalize cq0 : Tm.ds = cy0; cbv <;> subst cq0)
    subst hp
    rfl
  have hC := containsFuncT_ok us (by omega) hc
  rw [show mapO Tm.d us = Tm.ds us from (Tm.ds_eq us).symm] at hC
  have hq : (Tm.mk v n us).ok = if v then us.isEmpty && varB n else (funB n && decide (us.length ≤ 4)) && !(us.any fun t => !t.ok) := by rw [Tm.ok, oks_any]
  have hv := variable_ok n
  have hf := function_ok n
  obtain ⟨z, hz⟩ : ∃ z, (Tm.mk v n us).ok = z := ⟨_, rfl⟩
  rw [hz] at hq ⊢
  generalize (us.any fun t => !t.ok) = q at *
  generalize varB n = b1 at *
  generalize funB n = b2 at *
  simp only [Tm.d]
  clear hz ih hc
  refine pure_by has58 ?_
  generalize hp : std = p
  have e0 : p.eq (p.dlen (Tm.ds us)) 0 = us.isEmpty := by subst hp; cases us <;> simp [std, Tm.ds]; omega
  have e1 : p.eq 0 1 = false := by subst hp; rfl
  have e4 : p.le (p.dlen (Tm.ds us)) 4 = decide (us.length ≤ 4) := by subst hp; simp [std, Tm.ds_len]; omega
  generalize us.isEmpty = b3 at *
  generalize decide (us.length ≤ 4) = b4 at *
  (generalize cq0 : Tm.ds = cy0; cbv <;> subst cq0)
  cases v with
  | true =>
    (generalize cq0 : Tm.ds = cy0; cbv <;> subst cq0)
    simp only [e0]
    cases b3 with
    | false => (generalize cq0 : Tm.ds = cy0; cbv <;> subst cq0); rw [hq]; simp
    | true =>
      (generalize cq0 : Tm.ds = cy0; cbv <;> subst cq0)
      refine callA.pure hv rfl ?_
      (generalize cq0 : Tm.ds = cy0; cbv <;> subst cq0)
      cases b1 with
      | true => (generalize cq0 : Tm.ds = cy0; cbv <;> subst cq0); rw [hq]; simp
      | false =>
        (generalize cq0 : Tm.ds = cy0; cbv <;> subst cq0)
        simp only [e1]
        (generalize cq0 : Tm.ds = cy0; cbv <;> subst cq0)
        rw [hq]; simp
  | false =>
    (generalize cq0 : Tm.ds = cy0; cbv <;> subst cq0)
    refine callA.pure hf rfl ?_
    (generalize cq0 : Tm.ds = cy0; cbv <;> subst cq0)
    cases b2 with
    | false => (generalize cq0 : Tm.ds = cy0; cbv <;> subst cq0); rw [hq]; simp
    | true =>
      (generalize cq0 : Tm.ds = cy0; cbv <;> subst cq0)
      simp only [e4]
      cases b4 with
      | false => (generalize cq0 : Tm.ds = cy0; cbv <;> subst cq0); rw [hq]; simp
      | true =>
        (generalize cq0 : Tm.ds = cy0; cbv <;> subst cq0)
        refine callA.pure hC rfl ?_
        (generalize cq0 : Tm.ds = cy0; cbv <;> subst cq0)
        rw [hq]
        subst hp
        simp [std]
theorem Term_ok (t : Tm) (hs : t.size ≤ 1000000) : Pure E 19 [.d .old t.d] (.d .top (.bool t.ok)) := by
  have h := term_ok t hs
  obtain ⟨a, b, c⟩ := t
  generalize (Tm.mk a b c).ok = q at *
  simp only [Tm.d] at h ⊢
  refine pure_by has19 ?_
  generalize hp : std = p
  (generalize cq0 : Tm.ds = cy0; cbv <;> subst cq0)
  refine callA.pure h rfl ?_
  (generalize cq0 : Tm.ds = cy0; cbv <;> subst cq0)
end Go.Ly.Tr
end
section
namespace Go.Ly.Tr
set_option maxRecDepth 4000
def rowsV : AV := .agg (.d .top .nf :: .d .top (.int .i64 0) :: .d .top (.int .i64 0) :: .d .top (.int .i64 0) :: .fn 134 [] [] :: .d .top (.int .i64 4) :: .d .top (.int .i64 0) :: .d .top (.int .i64 0) :: .fn 133 [] [] :: .d .top (.int .i64 0) :: .d .top (.int .i64 0) :: .d .top (.int .i64 0) :: .fn 133 [] [] :: .d .top (.int .i64 0) :: .d .top (.int .i64 1) :: .d .top (.int .i64 0) :: .fn 133 [] [] :: .d .top (.int .i64 0) :: .d .top (.int .i64 2) :: .d .top (.int .i64 0) :: .fn 133 [] [] :: .d .top (.int .i64 0) :: .d .top (.int .i64 2) :: .d .top (.int .i64 0) :: .fn 133 [] [] :: .d .top (.int .i64 0) :: .d .top (.int .i64 2) :: .d .top (.int .i64 0) :: .fn 133 [] [] :: .d .top (.int .i64 0) :: .d .top (.int .i64 2) :: .d .top (.int .i64 0) :: .fn 18 [] [] :: .d .top (.int .i64 0) :: .d .top (.int .i64 1) :: .d .top (.int .i64 0) :: .fn 18 [] [] :: .d .top (.int .i64 0) :: .d .top (.int .i64 1) :: .d .top (.int .i64 0) :: .fn 133 [] [] :: .d .top (.int .i64 0) :: .d .top (.int .i64 1) :: .d .top (.int .i64 0) :: .fn 133 [] [] :: .d .top (.int .i64 0) :: .d .top (.int .i64 1) :: .d .top (.int .i64 0) :: .fn 133 [] [] :: .d .top (.int .i64 0) :: .d .top (.int .i64 1) :: .d .top (.int .i64 0) :: .fn 133 [] [] :: .d .top (.int .i64 0) :: .d .top (.int .i64 1) :: .d .top (.int .i64 0) :: .fn 133 [] [] :: .d .top (.int .i64 0) :: .d .top (.int .i64 2) :: .d .top (.int .i64 0) :: .fn 135 [] [] :: .d .top (.int .i64 0) :: .d .top (.int .i64 0) :: .d .top (.int .i64 1) :: .fn 135 [] [] :: .d .top (.int .i64 2) :: .d .top (.int .i64 0) :: .d .top (.int .i64 1) :: [])
theorem rows_ok : Pure E 88 [] rowsV := by
  unfold rowsV
  refine pure_by has88 ?_
  generalize hp : std = p
  cbv
end Go.Ly.Tr
end
section
namespace Go.Ly.Tr
set_option maxRecDepth 4000
theorem gt_len {p : Prims} (hp : std = p) {a : Int} {n : Nat} (h : a = n) (us : List Tm) : p.lt a (p.dlen (Tm.ds us)) = !decide (us.length ≤ n) := by
  subst hp h
  rw [Bool.eq_iff_iff]
  simp [std, Tm.ds_len]
theorem eq_lenF {p : Prims} (hp : std = p) {a : Int} {n : Nat} (h : a = n) (fs : List Frm) : p.eq (p.dlen (Frm.ds fs)) a = (fs.length == n) := by
  subst hp h
  rw [Bool.eq_iff_iff]
  simp [std, Frm.ds_len]
  omega
theorem shape_op0 (n : Nm) (us : List Tm) (fs : List Frm) : Pure E 54 [.d .old (.agg [.int .u8 0, .str n, .row 3 (Tm.ds us), .row 4 (Frm.ds fs)]), .d .old (.int .i64 0)] (.d .top (.bool false)) := by
  have hr := rows_ok
  unfold rowsV at hr
  refine pure_by has54 ?_
  generalize hp : std = p
  have ew : p.wrap .i64 0 = 0 := by subst hp; rfl
  have eg : p.le 17 0 = false := by subst hp; rfl
  have e00 : p.lt 0 0 = false := by subst hp; rfl
  have e16 : p.eq 0 16 = false := by subst hp; rfl
  (generalize cq0 : Frm.ds = cy0; generalize cq1 : Tm.ds = cy1; cbv <;> subst cq0 cq1)
  refine callA.pure hr rfl ?_
  (generalize cq0 : Frm.ds = cy0; generalize cq1 : Tm.ds = cy1; cbv <;> subst cq0 cq1)
  simp only [ew, eg]
  (generalize cq0 : Frm.ds = cy0; generalize cq1 : Tm.ds = cy1; cbv <;> subst cq0 cq1)
  refine ⟨by subst hp; simp [std], ?_⟩
  cbv
  trivial
theorem shape_op1 (n : Nm) (us : List Tm) (fs : List Frm) (b : Bool) (hn : Pure E 134 [.d .old (.str n)] (.d .top (.bool b)))
    (q1 q2 : Bool) (h1 : Pure E 90 [.d .old (.row 3 (Tm.ds us)), .fn 91 [] [.fb [.d .old (.int .i64 0)] 0]] (.d .top (.bool q1)))
    (h2 : Pure E 92 [.d .old (.row 4 (Frm.ds fs)), .fn 93 [] [.fb [.d .old (.int .i64 0)] 0]] (.d .top (.bool q2))) :
    Pure E 54 [.d .old (.agg [.int .u8 1, .str n, .row 3 (Tm.ds us), .row 4 (Frm.ds fs)]), .d .old (.int .i64 0)] (.d .top (.bool ((b && decide (us.length ≤ 4) && fs.length == 0) && (!q1 && !q2)))) := by
  obtain ⟨z, hz⟩ : ∃ z, z = ((b && decide (us.length ≤ 4) && fs.length == 0) && (!q1 && !q2)) := ⟨_, rfl⟩
  rw [← hz]
  have hr := rows_ok
  unfold rowsV at hr
  refine pure_by has54 ?_
  generalize hp : std = p
  have ew : p.wrap .i64 1 = 1 := by subst hp; rfl
  have eg : p.le 17 1 = false := by subst hp; rfl
  have e00 : p.lt 0 0 = false := by subst hp; rfl
  have e16 : p.eq 1 16 = false := by subst hp; rfl
  have e1 : p.lt 4 (p.dlen (Tm.ds us)) = !decide (us.length ≤ 4) := gt_len hp rfl us
  have e2 : p.eq (p.dlen (Frm.ds fs)) 0 = (fs.length == 0) := eq_lenF hp rfl fs
  generalize decide (us.length ≤ 4) = b1 at *
  generalize (fs.length == 0) = b2 at *
  (generalize cq0 : Frm.ds = cy0; generalize cq1 : Tm.ds = cy1; cbv <;> subst cq0 cq1)
  refine callA.pure hr rfl ?_
  (generalize cq0 : Frm.ds = cy0; generalize cq1 : Tm.ds = cy1; cbv <;> subst cq0 cq1)
  simp only [ew, eg]
  (generalize cq0 : Frm.ds = cy0; generalize cq1 : Tm.ds = cy1; cbv <;> subst cq0 cq1)
  refine ⟨by subst hp; simp [std], ?_⟩
  refine ⟨by subst hp; simp [std], ?_⟩
  simp only [e00]
  (generalize cq0 : Frm.ds = cy0; generalize cq1 : Tm.ds = cy1; cbv <;> subst cq0 cq1)
  refine callA.pure hn rfl ?_
  (generalize cq0 : Frm.ds = cy0; generalize cq1 : Tm.ds = cy1; cbv <;> subst cq0 cq1)
  cases b with
  | false => simp only [not_f hp]; (generalize cq0 : Frm.ds = cy0; generalize cq1 : Tm.ds = cy1; cbv <;> subst cq0 cq1); rw [hz]; rfl
  | true =>
  simp only [not_t hp]
  (generalize cq0 : Frm.ds = cy0; generalize cq1 : Tm.ds = cy1; cbv <;> subst cq0 cq1)
  simp only [e1]
  cases b1 with
  | false => (generalize cq0 : Frm.ds = cy0; generalize cq1 : Tm.ds = cy1; cbv <;> subst cq0 cq1); rw [hz]; rfl
  | true =>
  (generalize cq0 : Frm.ds = cy0; generalize cq1 : Tm.ds = cy1; cbv <;> subst cq0 cq1)
  simp only [e2]
  cases b2 with
  | false => simp only [not_f hp]; (generalize cq0 : Frm.ds = cy0; generalize cq1 : Tm.ds = cy1; cbv <;> subst cq0 cq1); rw [hz]; rfl
  | true =>
  simp only [not_t hp]
  (generalize cq0 : Frm.ds = cy0; generalize cq1 : Tm.ds = cy1; cbv <;> subst cq0 cq1)
  simp only [e16]
  (generalize cq0 : Frm.ds = cy0; generalize cq1 : Tm.ds = cy1; cbv <;> subst cq0 cq1)
  refine callA.pure h1 rfl ?_
  (generalize cq0 : Frm.ds = cy0; generalize cq1 : Tm.ds = cy1; cbv <;> subst cq0 cq1)
  cases q1 with
  | true => simp only [not_t hp]; (generalize cq0 : Frm.ds = cy0; generalize cq1 : Tm.ds = cy1; cbv <;> subst cq0 cq1); rw [hz]; rfl
  | false =>
  simp only [not_f hp]
  (generalize cq0 : Frm.ds = cy0; generalize cq1 : Tm.ds = cy1; cbv <;> subst cq0 cq1)
  refine callA.pure h2 rfl ?_
  (generalize cq0 : Frm.ds = cy0; generalize cq1 : Tm.ds = cy1; cbv <;> subst cq0 cq1)
  cases q2 with
  | true => simp only [not_t hp]; cbv; rw [hz]; rfl
  | false => simp only [not_f hp]; cbv; rw [hz]; rfl
theorem shape_op2 (n : Nm) (us : List Tm) (fs : List Frm) (b : Bool) (hn : Pure E 133 [.d .old (.str n)] (.d .top (.bool b)))
    (q1 q2 : Bool) (h1 : Pure E 90 [.d .old (.row 3 (Tm.ds us)), .fn 91 [] [.fb [.d .old (.int .i64 0)] 0]] (.d .top (.bool q1)))
    (h2 : Pure E 92 [.d .old (.row 4 (Frm.ds fs)), .fn 93 [] [.fb [.d .old (.int .i64 0)] 0]] (.d .top (.bool q2))) :
    Pure E 54 [.d .old (.agg [.int .u8 2, .str n, .row 3 (Tm.ds us), .row 4 (Frm.ds fs)]), .d .old (.int .i64 0)] (.d .top (.bool ((b && decide (us.length ≤ 0) && fs.length == 0) && (!q1 && !q2)))) := by
  obtain ⟨z, hz⟩ : ∃ z, z = ((b && decide (us.length ≤ 0) && fs.length == 0) && (!q1 && !q2)) := ⟨_, rfl⟩
  rw [← hz]
  have hr := rows_ok
  unfold rowsV at hr
  refine pure_by has54 ?_
  generalize hp : std = p
  have ew : p.wrap .i64 2 = 2 := by subst hp; rfl
  have eg : p.le 17 2 = false := by subst hp; rfl
  have e00 : p.lt 0 0 = false := by subst hp; rfl
  have e16 : p.eq 2 16 = false := by subst hp; rfl
  have e1 : p.lt 0 (p.dlen (Tm.ds us)) = !decide (us.length ≤ 0) := gt_len hp rfl us
  have e2 : p.eq (p.dlen (Frm.ds fs)) 0 = (fs.length == 0) := eq_lenF hp rfl fs
  generalize decide (us.length ≤ 0) = b1 at *
  generalize (fs.length == 0) = b2 at *
  (generalize cq0 : Frm.ds = cy0; generalize cq1 : Tm.ds = cy1; cbv <;> subst cq0 cq1)
  refine callA.pure hr rfl ?_
  (generalize cq0 : Frm.ds = cy0; generalize cq1 : Tm.ds = cy1; cbv <;> subst cq0 cq1)
  simp only [ew, eg]
  (generalize cq0 : Frm.ds = cy0; generalize cq1 : Tm.ds = cy1; cbv <;> subst cq0 cq1)
  refine ⟨by subst hp; simp [std], ?_⟩
  refine ⟨by subst hp; simp [std], ?_⟩
  simp only [e00]
  (generalize cq0 : Frm.ds = cy0; generalize cq1 : Tm.ds = cy1; cbv <;> subst cq0 cq1)
  refine callA.pure hn rfl ?_
  (generalize cq0 : Frm.ds = cy0; generalize cq1 : Tm.ds = cy1; cbv <;> subst cq0 cq1)
  cases b with
  | false => simp only [not_f hp]; (generalize cq0 : Frm.ds = cy0; generalize cq1 : Tm.ds = cy1; cbv <;> subst cq0 cq1); rw [hz]; rfl
  | true =>
  simp only [not_t hp]
  (generalize cq0 : Frm.ds = cy0; generalize cq1 : Tm.ds = cy1; cbv <;> subst cq0 cq1)
  simp only [e1]
  cases b1 with
  | false => (generalize cq0 : Frm.ds = cy0; generalize cq1 : Tm.ds = cy1; cbv <;> subst cq0 cq1); rw [hz]; rfl
  | true =>
  (generalize cq0 : Frm.ds = cy0; generalize cq1 : Tm.ds = cy1; cbv <;> subst cq0 cq1)
  simp only [e2]
  cases b2 with
  | false => simp only [not_f hp]; (generalize cq0 : Frm.ds = cy0; generalize cq1 : Tm.ds = cy1; cbv <;> subst cq0 cq1); rw [hz]; rfl
  | true =>
  simp only [not_t hp]
  (generalize cq0 : Frm.ds = cy0; generalize cq1 : Tm.ds = cy1; cbv <;> subst cq0 cq1)
  simp only [e16]
  (generalize cq0 : Frm.ds = cy0; generalize cq1 : Tm.ds = cy1; cbv <;> subst cq0 cq1)
  refine callA.pure h1 rfl ?_
  (generalize cq0 : Frm.ds = cy0; generalize cq1 : Tm.ds = cy1; cbv <;> subst cq0 cq1)
  cases q1 with
  | true => simp only [not_t hp]; (generalize cq0 : Frm.ds = cy0; generalize cq1 : Tm.ds = cy1; cbv <;> subst cq0 cq1); rw [hz]; rfl
  | false =>
  simp only [not_f hp]
  (generalize cq0 : Frm.ds = cy0; generalize cq1 : Tm.ds = cy1; cbv <;> subst cq0 cq1)
  refine callA.pure h2 rfl ?_
  (generalize cq0 : Frm.ds = cy0; generalize cq1 : Tm.ds = cy1; cbv <;> subst cq0 cq1)
  cases q2 with
  | true => simp only [not_t hp]; cbv; rw [hz]; rfl
  | false => simp only [not_f hp]; cbv; rw [hz]; rfl
theorem shape_op3 (n : Nm) (us : List Tm) (fs : List Frm) (b : Bool) (hn : Pure E 133 [.d .old (.str n)] (.d .top (.bool b)))
    (q1 q2 : Bool) (h1 : Pure E 90 [.d .old (.row 3 (Tm.ds us)), .fn 91 [] [.fb [.d .old (.int .i64 0)] 0]] (.d .top (.bool q1)))
    (h2 : Pure E 92 [.d .old (.row 4 (Frm.ds fs)), .fn 93 [] [.fb [.d .old (.int .i64 0)] 0]] (.d .top (.bool q2))) :
    Pure E 54 [.d .old (.agg [.int .u8 3, .str n, .row 3 (Tm.ds us), .row 4 (Frm.ds fs)]), .d .old (.int .i64 0)] (.d .top (.bool ((b && decide (us.length ≤ 0) && fs.length == 1) && (!q1 && !q2)))) := by
  obtain ⟨z, hz⟩ : ∃ z, z = ((b && decide (us.length ≤ 0) && fs.length == 1) && (!q1 && !q2)) := ⟨_, rfl⟩
  rw [← hz]
  have hr := rows_ok
  unfold rowsV at hr
  refine pure_by has54 ?_
  generalize hp : std = p
  have ew : p.wrap .i64 3 = 3 := by subst hp; rfl
  have eg : p.le 17 3 = false := by subst hp; rfl
  have e00 : p.lt 0 0 = false := by subst hp; rfl
  have e16 : p.eq 3 16 = false := by subst hp; rfl
  have e1 : p.lt 0 (p.dlen (Tm.ds us)) = !decide (us.length ≤ 0) := gt_len hp rfl us
  have e2 : p.eq (p.dlen (Frm.ds fs)) 1 = (fs.length == 1) := eq_lenF hp rfl fs
  generalize decide (us.length ≤ 0) = b1 at *
  generalize (fs.length == 1) = b2 at *
  (generalize cq0 : Frm.ds = cy0; generalize cq1 : Tm.ds = cy1; cbv <;> subst cq0 cq1)
  refine callA.pure hr rfl ?_
  (generalize cq0 : Frm.ds = cy0; generalize cq1 : Tm.ds = cy1; cbv <;> subst cq0 cq1)
  simp only [ew, eg]
  (generalize cq0 : Frm.ds = cy0; generalize cq1 : Tm.ds = cy1; cbv <;> subst cq0 cq1)
  refine ⟨by subst hp; simp [std], ?_⟩
  refine ⟨by subst hp; simp [std], ?_⟩
  simp only [e00]
  (generalize cq0 : Frm.ds = cy0; generalize cq1 : Tm.ds = cy1; cbv <;> subst cq0 cq1)
  refine callA.pure hn rfl ?_
  (generalize cq0 : Frm.ds = cy0; generalize cq1 : Tm.ds = cy1; cbv <;> subst cq0 cq1)
  cases b with
  | false => simp only [not_f hp]; (generalize cq0 : Frm.ds = cy0; generalize cq1 : Tm.ds = cy1; cbv <;> subst cq0 cq1); rw [hz]; rfl
  | true =>
  simp only [not_t hp]
  (generalize cq0 : Frm.ds = cy0; generalize cq1 : Tm.ds = cy1; cbv <;> subst cq0 cq1)
  simp only [e1]
  cases b1 with
  | false => (generalize cq0 : Frm.ds = cy0; generalize cq1 : Tm.ds = cy1; cbv <;> subst cq0 cq1); rw [hz]; rfl
  | true =>
  (generalize cq0 : Frm.ds = cy0; generalize cq1 : Tm.ds = cy1; cbv <;> subst cq0 cq1)
  simp only [e2]
  cases b2 with
  | false => simp only [not_f hp]; (generalize cq0 : Frm.ds = cy0; generalize cq1 : Tm.ds = cy1; cbv <;> subst cq0 cq1); rw [hz]; rfl
  | true =>
  simp only [not_t hp]
  (generalize cq0 : Frm.ds = cy0; generalize cq1 : Tm.ds = cy1; cbv <;> subst cq0 cq1)
  simp only [e16]
  (generalize cq0 : Frm.ds = cy0; generalize cq1 : Tm.ds = cy1; cbv <;> subst cq0 cq1)
  refine callA.pure h1 rfl ?_
  (generalize cq0 : Frm.ds = cy0; generalize cq1 : Tm.ds = cy1; cbv <;> subst cq0 cq1)
  cases q1 with
  | true => simp only [not_t hp]; (generalize cq0 : Frm.ds = cy0; generalize cq1 : Tm.ds = cy1; cbv <;> subst cq0 cq1); rw [hz]; rfl
  | false =>
  simp only [not_f hp]
  (generalize cq0 : Frm.ds = cy0; generalize cq1 : Tm.ds = cy1; cbv <;> subst cq0 cq1)
  refine callA.pure h2 rfl ?_
  (generalize cq0 : Frm.ds = cy0; generalize cq1 : Tm.ds = cy1; cbv <;> subst cq0 cq1)
  cases q2 with
  | true => simp only [not_t hp]; cbv; rw [hz]; rfl
  | false => simp only [not_f hp]; cbv; rw [hz]; rfl
theorem shape_op4 (n : Nm) (us : List Tm) (fs : List Frm) (b : Bool) (hn : Pure E 133 [.d .old (.str n)] (.d .top (.bool b)))
    (q1 q2 : Bool) (h1 : Pure E 90 [.d .old (.row 3 (Tm.ds us)), .fn 91 [] [.fb [.d .old (.int .i64 0)] 0]] (.d .top (.bool q1)))
    (h2 : Pure E 92 [.d .old (.row 4 (Frm.ds fs)), .fn 93 [] [.fb [.d .old (.int .i64 0)] 0]] (.d .top (.bool q2))) :
    Pure E 54 [.d .old (.agg [.int .u8 4, .str n, .row 3 (Tm.ds us), .row 4 (Frm.ds fs)]), .d .old (.int .i64 0)] (.d .top (.bool ((b && decide (us.length ≤ 0) && fs.length == 2) && (!q1 && !q2)))) := by
  obtain ⟨z, hz⟩ : ∃ z, z = ((b && decide (us.length ≤ 0) && fs.length == 2) && (!q1 && !q2)) := ⟨_, rfl⟩
  rw [← hz]
  have hr := rows_ok
  unfold rowsV at hr
  refine pure_by has54 ?_
  generalize hp : std = p
  have ew : p.wrap .i64 4 = 4 := by subst hp; rfl
  have eg : p.le 17 4 = false := by subst hp; rfl
  have e00 : p.lt 0 0 = false := by subst hp; rfl
  have e16 : p.eq 4 16 = false := by subst hp; rfl
  have e1 : p.lt 0 (p.dlen (Tm.ds us)) = !decide (us.length ≤ 0) := gt_len hp rfl us
  have e2 : p.eq (p.dlen (Frm.ds fs)) 2 = (fs.length == 2) := eq_lenF hp rfl fs
  generalize decide (us.length ≤ 0) = b1 at *
  generalize (fs.length == 2) = b2 at *
  (generalize cq0 : Frm.ds = cy0; generalize cq1 : Tm.ds = cy1; cbv <;> subst cq0 cq1)
  refine callA.pure hr rfl ?_
  (generalize cq0 : Frm.ds = cy0; generalize cq1 : Tm.ds = cy1; cbv <;> subst cq0 cq1)
  simp only [ew, eg]
  (generalize cq0 : Frm.ds = cy0; generalize cq1 : Tm.ds = cy1; cbv <;> subst cq0 cq1)
  refine ⟨by subst hp; simp [std], ?_⟩
  refine ⟨by subst hp; simp [std], ?_⟩
  simp only [e00]
  (generalize cq0 : Frm.ds = cy0; generalize cq1 : Tm.ds = cy1; cbv <;> subst cq0 cq1)
  refine callA.pure hn rfl ?_
  (generalize cq0 : Frm.ds = cy0; generalize cq1 : Tm.ds = cy1; cbv <;> subst cq0 cq1)
  cases b with
  | false => simp only [not_f hp]; (generalize cq0 : Frm.ds = cy0; generalize cq1 : Tm.ds = cy1; cbv <;> subst cq0 cq1); rw [hz]; rfl
  | true =>
  simp only [not_t hp]
  (generalize cq0 : Frm.ds = cy0; generalize cq1 : Tm.ds = cy1; cbv <;> subst cq0 cq1)
  simp only [e1]
  cases b1 with
  | false => (generalize cq0 : Frm.ds = cy0; generalize cq1 : Tm.ds = cy1; cbv <;> subst cq0 cq1); rw [hz]; rfl
  | true =>
  (generalize cq0 : Frm.ds = cy0; generalize cq1 : Tm.ds = cy1; cbv <;> subst cq0 cq1)
  simp only [e2]
  cases b2 with
  | false => simp only [not_f hp]; (generalize cq0 : Frm.ds = cy0; generalize cq1 : Tm.ds = cy1; cbv <;> subst cq0 cq1); rw [hz]; rfl
  | true =>
  simp only [not_t hp]
  (generalize cq0 : Frm.ds = cy0; generalize cq1 : Tm.ds = cy1; cbv <;> subst cq0 cq1)
  simp only [e16]
  (generalize cq0 : Frm.ds = cy0; generalize cq1 : Tm.ds = cy1; cbv <;> subst cq0 cq1)
  refine callA.pure h1 rfl ?_
  (generalize cq0 : Frm.ds = cy0; generalize cq1 : Tm.ds = cy1; cbv <;> subst cq0 cq1)
  cases q1 with
  | true => simp only [not_t hp]; (generalize cq0 : Frm.ds = cy0; generalize cq1 : Tm.ds = cy1; cbv <;> subst cq0 cq1); rw [hz]; rfl
  | false =>
  simp only [not_f hp]
  (generalize cq0 : Frm.ds = cy0; generalize cq1 : Tm.ds = cy1; cbv <;> subst cq0 cq1)
  refine callA.pure h2 rfl ?_
  (generalize cq0 : Frm.ds = cy0; generalize cq1 : Tm.ds = cy1; cbv <;> subst cq0 cq1)
  cases q2 with
  | true => simp only [not_t hp]; cbv; rw [hz]; rfl
  | false => simp only [not_f hp]; cbv; rw [hz]; rfl
theorem shape_op5 (n : Nm) (us : List Tm) (fs : List Frm) (b : Bool) (hn : Pure E 133 [.d .old (.str n)] (.d .top (.bool b)))
    (q1 q2 : Bool) (h1 : Pure E 90 [.d .old (.row 3 (Tm.ds us)), .fn 91 [] [.fb [.d .old (.int .i64 0)] 0]] (.d .top (.bool q1)))
    (h2 : Pure E 92 [.d .old (.row 4 (Frm.ds fs)), .fn 93 [] [.fb [.d .old (.int .i64 0)] 0]] (.d .top (.bool q2))) :
    Pure E 54 [.d .old (.agg [.int .u8 5, .str n, .row 3 (Tm.ds us), .row 4 (Frm.ds fs)]), .d .old (.int .i64 0)] (.d .top (.bool ((b && decide (us.length ≤ 0) && fs.length == 2) && (!q1 && !q2)))) := by
  obtain ⟨z, hz⟩ : ∃ z, z = ((b && decide (us.length ≤ 0) && fs.length == 2) && (!q1 && !q2)) := ⟨_, rfl⟩
  rw [← hz]
  have hr := rows_ok
  unfold rowsV at hr
  refine pure_by has54 ?_
  generalize hp : std = p
  have ew : p.wrap .i64 5 = 5 := by subst hp; rfl
  have eg : p.le 17 5 = false := by subst hp; rfl
  have e00 : p.lt 0 0 = false := by subst hp; rfl
  have e16 : p.eq 5 16 = false := by subst hp; rfl
  have e1 : p.lt 0 (p.dlen (Tm.ds us)) = !decide (us.length ≤ 0) := gt_len hp rfl us
  have e2 : p.eq (p.dlen (Frm.ds fs)) 2 = (fs.length == 2) := eq_lenF hp rfl fs
  generalize decide (us.length ≤ 0) = b1 at *
  generalize (fs.length == 2) = b2 at *
  (generalize cq0 : Frm.ds = cy0; generalize cq1 : Tm.ds = cy1; cbv <;> subst cq0 cq1)
  refine callA.pure hr rfl ?_
  (generalize cq0 : Frm.ds = cy0; generalize cq1 : Tm.ds = cy1; cbv <;> subst cq0 cq1)
  simp only [ew, eg]
  (generalize cq0 : Frm.ds = cy0; generalize cq1 : Tm.ds = cy1; cbv <;> subst cq0 cq1)
  refine ⟨by subst hp; simp [std], ?_⟩
  refine ⟨by subst hp; simp [std], ?_⟩
  simp only [e00]
  (generalize cq0 : Frm.ds = cy0; generalize cq1 : Tm.ds = cy1; cbv <;> subst cq0 cq1)
  refine callA.pure hn rfl ?_
  (generalize cq0 : Frm.ds = cy0; generalize cq1 : Tm.ds = cy1; cbv <;> subst cq0 cq1)
  cases b with
  | false => simp only [not_f hp]; (generalize cq0 : Frm.ds = cy0; generalize cq1 : Tm.ds = cy1; cbv <;> subst cq0 cq1); rw [hz]; rfl
  | true =>
  simp only [not_t hp]
  (generalize cq0 : Frm.ds = cy0; generalize cq1 : Tm.ds = cy1; cbv <;> subst cq0 cq1)
  simp only [e1]
  cases b1 with
  | false => (generalize cq0 : Frm.ds = cy0; generalize cq1 : Tm.ds = cy1; cbv <;> subst cq0 cq1); rw [hz]; rfl
  | true =>
  (generalize cq0 : Frm.ds = cy0; generalize cq1 : Tm.ds = cy1; cbv <;> subst cq0 cq1)
  simp only [e2]
  cases b2 with
  | false => simp only [not_f hp]; (generalize cq0 : Frm.ds = cy0; generalize cq1 : Tm.ds = cy1; cbv <;> subst cq0 cq1); rw [hz]; rfl
  | true =>
  simp only [not_t hp]
  (generalize cq0 : Frm.ds = cy0; generalize cq1 : Tm.ds = cy1; cbv <;> subst cq0 cq1)
  simp only [e16]
  (generalize cq0 : Frm.ds = cy0; generalize cq1 : Tm.ds = cy1; cbv <;> subst cq0 cq1)
  refine callA.pure h1 rfl ?_
  (generalize cq0 : Frm.ds = cy0; generalize cq1 : Tm.ds = cy1; cbv <;> subst cq0 cq1)
  cases q1 with
  | true => simp only [not_t hp]; (generalize cq0 : Frm.ds = cy0; generalize cq1 : Tm.ds = cy1; cbv <;> subst cq0 cq1); rw [hz]; rfl
  | false =>
  simp only [not_f hp]
  (generalize cq0 : Frm.ds = cy0; generalize cq1 : Tm.ds = cy1; cbv <;> subst cq0 cq1)
  refine callA.pure h2 rfl ?_
  (generalize cq0 : Frm.ds = cy0; generalize cq1 : Tm.ds = cy1; cbv <;> subst cq0 cq1)
  cases q2 with
  | true => simp only [not_t hp]; cbv; rw [hz]; rfl
  | false => simp only [not_f hp]; cbv; rw [hz]; rfl
theorem shape_op6 (n : Nm) (us : List Tm) (fs : List Frm) (b : Bool) (hn : Pure E 133 [.d .old (.str n)] (.d .top (.bool b)))
    (q1 q2 : Bool) (h1 : Pure E 90 [.d .old (.row 3 (Tm.ds us)), .fn 91 [] [.fb [.d .old (.int .i64 0)] 0]] (.d .top (.bool q1)))
    (h2 : Pure E 92 [.d .old (.row 4 (Frm.ds fs)), .fn 93 [] [.fb [.d .old (.int .i64 0)] 0]] (.d .top (.bool q2))) :
    Pure E 54 [.d .old (.agg [.int .u8 6, .str n, .row 3 (Tm.ds us), .row 4 (Frm.ds fs)]), .d .old (.int .i64 0)] (.d .top (.bool ((b && decide (us.length ≤ 0) && fs.length == 2) && (!q1 && !q2)))) := by
  obtain ⟨z, hz⟩ : ∃ z, z = ((b && decide (us.length ≤ 0) && fs.length == 2) && (!q1 && !q2)) := ⟨_, rfl⟩
  rw [← hz]
  have hr := rows_ok
  unfold rowsV at hr
  refine pure_by has54 ?_
  generalize hp : std = p
  have ew : p.wrap .i64 6 = 6 := by subst hp; rfl
  have eg : p.le 17 6 = false := by subst hp; rfl
  have e00 : p.lt 0 0 = false := by subst hp; rfl
  have e16 : p.eq 6 16 = false := by subst hp; rfl
  have e1 : p.lt 0 (p.dlen (Tm.ds us)) = !decide (us.length ≤ 0) := gt_len hp rfl us
  have e2 : p.eq (p.dlen (Frm.ds fs)) 2 = (fs.length == 2) := eq_lenF hp rfl fs
  generalize decide (us.length ≤ 0) = b1 at *
  generalize (fs.length == 2) = b2 at *
  (generalize cq0 : Frm.ds = cy0; generalize cq1 : Tm.ds = cy1; cbv <;> subst cq0 cq1)
  refine callA.pure hr rfl ?_
  (generalize cq0 : Frm.ds = cy0; generalize cq1 : Tm.ds = cy1; cbv <;> subst cq0 cq1)
  simp only [ew, eg]
  (generalize cq0 : Frm.ds = cy0; generalize cq1 : Tm.ds = cy1; cbv <;> subst cq0 cq1)
  refine ⟨by subst hp; simp [std], ?_⟩
  refine ⟨by subst hp; simp [std], ?_⟩
  simp only [e00]
  (generalize cq0 : Frm.ds = cy0; generalize cq1 : Tm.ds = cy1; cbv <;> subst cq0 cq1)
  refine callA.pure hn rfl ?_
  (generalize cq0 : Frm.ds = cy0; generalize cq1 : Tm.ds = cy1; cbv <;> subst cq0 cq1)
  cases b with
  | false => simp only [not_f hp]; (generalize cq0 : Frm.ds = cy0; generalize cq1 : Tm.ds = cy1; cbv <;> subst cq0 cq1); rw [hz]; rfl
  | true =>
  simp only [not_t hp]
  (generalize cq0 : Frm.ds = cy0; generalize cq1 : Tm.ds = cy1; cbv <;> subst cq0 cq1)
  simp only [e1]
  cases b1 with
  | false => (generalize cq0 : Frm.ds = cy0; generalize cq1 : Tm.ds = cy1; cbv <;> subst cq0 cq1); rw [hz]; rfl
  | true =>
  (generalize cq0 : Frm.ds = cy0; generalize cq1 : Tm.ds = cy1; cbv <;> subst cq0 cq1)
  simp only [e2]
  cases b2 with
  | false => simp only [not_f hp]; (generalize cq0 : Frm.ds = cy0; generalize cq1 : Tm.ds = cy1; cbv <;> subst cq0 cq1); rw [hz]; rfl
  | true =>
  simp only [not_t hp]
  (generalize cq0 : Frm.ds = cy0; generalize cq1 : Tm.ds = cy1; cbv <;> subst cq0 cq1)
  simp only [e16]
  (generalize cq0 : Frm.ds = cy0; generalize cq1 : Tm.ds = cy1; cbv <;> subst cq0 cq1)
  refine callA.pure h1 rfl ?_
  (generalize cq0 : Frm.ds = cy0; generalize cq1 : Tm.ds = cy1; cbv <;> subst cq0 cq1)
  cases q1 with
  | true => simp only [not_t hp]; (generalize cq0 : Frm.ds = cy0; generalize cq1 : Tm.ds = cy1; cbv <;> subst cq0 cq1); rw [hz]; rfl
  | false =>
  simp only [not_f hp]
  (generalize cq0 : Frm.ds = cy0; generalize cq1 : Tm.ds = cy1; cbv <;> subst cq0 cq1)
  refine callA.pure h2 rfl ?_
  (generalize cq0 : Frm.ds = cy0; generalize cq1 : Tm.ds = cy1; cbv <;> subst cq0 cq1)
  cases q2 with
  | true => simp only [not_t hp]; cbv; rw [hz]; rfl
  | false => simp only [not_f hp]; cbv; rw [hz]; rfl
theorem shape_op7 (n : Nm) (us : List Tm) (fs : List Frm) (b : Bool) (hn : Pure E 133 [.d .old (.str n)] (.d .top (.bool b)))
    (q1 q2 : Bool) (h1 : Pure E 90 [.d .old (.row 3 (Tm.ds us)), .fn 91 [] [.fb [.d .old (.int .i64 0)] 0]] (.d .top (.bool q1)))
    (h2 : Pure E 92 [.d .old (.row 4 (Frm.ds fs)), .fn 93 [] [.fb [.d .old (.int .i64 0)] 0]] (.d .top (.bool q2))) :
    Pure E 54 [.d .old (.agg [.int .u8 7, .str n, .row 3 (Tm.ds us), .row 4 (Frm.ds fs)]), .d .old (.int .i64 0)] (.d .top (.bool ((b && decide (us.length ≤ 0) && fs.length == 2) && (!q1 && !q2)))) := by
  obtain ⟨z, hz⟩ : ∃ z, z = ((b && decide (us.length ≤ 0) && fs.length == 2) && (!q1 && !q2)) := ⟨_, rfl⟩
  rw [← hz]
  have hr := rows_ok
  unfold rowsV at hr
  refine pure_by has54 ?_
  generalize hp : std = p
  have ew : p.wrap .i64 7 = 7 := by subst hp; rfl
  have eg : p.le 17 7 = false := by subst hp; rfl
  have e00 : p.lt 0 0 = false := by subst hp; rfl
  have e16 : p.eq 7 16 = false := by subst hp; rfl
  have e1 : p.lt 0 (p.dlen (Tm.ds us)) = !decide (us.length ≤ 0) := gt_len hp rfl us
  have e2 : p.eq (p.dlen (Frm.ds fs)) 2 = (fs.length == 2) := eq_lenF hp rfl fs
  generalize decide (us.length ≤ 0) = b1 at *
  generalize (fs.length == 2) = b2 at *
  (generalize cq0 : Frm.ds = cy0; generalize cq1 : Tm.ds = cy1; cbv <;> subst cq0 cq1)
  refine callA.pure hr rfl ?_
  (generalize cq0 : Frm.ds = cy0; generalize cq1 : Tm.ds = cy1; cbv <;> subst cq0 cq1)
  simp only [ew, eg]
  (generalize cq0 : Frm.ds = cy0; generalize cq1 : Tm.ds = cy1; cbv <;> subst cq0 cq1)
  refine ⟨by subst hp; simp [std], ?_⟩
  refine ⟨by subst hp; simp [std], ?_⟩
  simp only [e00]
  (generalize cq0 : Frm.ds = cy0; generalize cq1 : Tm.ds = cy1; cbv <;> subst cq0 cq1)
  refine callA.pure hn rfl ?_
  (generalize cq0 : Frm.ds = cy0; generalize cq1 : Tm.ds = cy1; cbv <;> subst cq0 cq1)
  cases b with
  | false => simp only [not_f hp]; (generalize cq0 : Frm.ds = cy0; generalize cq1 : Tm.ds = cy1; cbv <;> subst cq0 cq1); rw [hz]; rfl
  | true =>
  simp only [not_t hp]
  (generalize cq0 : Frm.ds = cy0; generalize cq1 : Tm.ds = cy1; cbv <;> subst cq0 cq1)
  simp only [e1]
  cases b1 with
  | false => (generalize cq0 : Frm.ds = cy0; generalize cq1 : Tm.ds = cy1; cbv <;> subst cq0 cq1); rw [hz]; rfl
  | true =>
  (generalize cq0 : Frm.ds = cy0; generalize cq1 : Tm.ds = cy1; cbv <;> subst cq0 cq1)
  simp only [e2]
  cases b2 with
  | false => simp only [not_f hp]; (generalize cq0 : Frm.ds = cy0; generalize cq1 : Tm.ds = cy1; cbv <;> subst cq0 cq1); rw [hz]; rfl
  | true =>
  simp only [not_t hp]
  (generalize cq0 : Frm.ds = cy0; generalize cq1 : Tm.ds = cy1; cbv <;> subst cq0 cq1)
  simp only [e16]
  (generalize cq0 : Frm.ds = cy0; generalize cq1 : Tm.ds = cy1; cbv <;> subst cq0 cq1)
  refine callA.pure h1 rfl ?_
  (generalize cq0 : Frm.ds = cy0; generalize cq1 : Tm.ds = cy1; cbv <;> subst cq0 cq1)
  cases q1 with
  | true => simp only [not_t hp]; (generalize cq0 : Frm.ds = cy0; generalize cq1 : Tm.ds = cy1; cbv <;> subst cq0 cq1); rw [hz]; rfl
  | false =>
  simp only [not_f hp]
  (generalize cq0 : Frm.ds = cy0; generalize cq1 : Tm.ds = cy1; cbv <;> subst cq0 cq1)
  refine callA.pure h2 rfl ?_
  (generalize cq0 : Frm.ds = cy0; generalize cq1 : Tm.ds = cy1; cbv <;> subst cq0 cq1)
  cases q2 with
  | true => simp only [not_t hp]; cbv; rw [hz]; rfl
  | false => simp only [not_f hp]; cbv; rw [hz]; rfl
theorem shape_op8 (n : Nm) (us : List Tm) (fs : List Frm) (b : Bool) (hn : Pure E 18 [.d .old (.str n)] (.d .top (.bool b)))
    (q1 q2 : Bool) (h1 : Pure E 90 [.d .old (.row 3 (Tm.ds us)), .fn 91 [] [.fb [.d .old (.int .i64 0)] 0]] (.d .top (.bool q1)))
    (h2 : Pure E 92 [.d .old (.row 4 (Frm.ds fs)), .fn 93 [] [.fb [.d .old (.int .i64 0)] 0]] (.d .top (.bool q2))) :
    Pure E 54 [.d .old (.agg [.int .u8 8, .str n, .row 3 (Tm.ds us), .row 4 (Frm.ds fs)]), .d .old (.int .i64 0)] (.d .top (.bool ((b && decide (us.length ≤ 0) && fs.length == 1) && (!q1 && !q2)))) := by
  obtain ⟨z, hz⟩ : ∃ z, z = ((b && decide (us.length ≤ 0) && fs.length == 1) && (!q1 && !q2)) := ⟨_, rfl⟩
  rw [← hz]
  have hr := rows_ok
  unfold rowsV at hr
  refine pure_by has54 ?_
  generalize hp : std = p
  have ew : p.wrap .i64 8 = 8 := by subst hp; rfl
  have eg : p.le 17 8 = false := by subst hp; rfl
  have e00 : p.lt 0 0 = false := by subst hp; rfl
  have e16 : p.eq 8 16 = false := by subst hp; rfl
  have e1 : p.lt 0 (p.dlen (Tm.ds us)) = !decide (us.length ≤ 0) := gt_len hp rfl us
  have e2 : p.eq (p.dlen (Frm.ds fs)) 1 = (fs.length == 1) := eq_lenF hp rfl fs
  generalize decide (us.length ≤ 0) = b1 at *
  generalize (fs.length == 1) = b2 at *
  (generalize cq0 : Frm.ds = cy0; generalize cq1 : Tm.ds = cy1; cbv <;> subst cq0 cq1)
  refine callA.pure hr rfl ?_
  (generalize cq0 : Frm.ds = cy0; generalize cq1 : Tm.ds = cy1; cbv <;> subst cq0 cq1)
  simp only [ew, eg]
  (generalize cq0 : Frm.ds = cy0; generalize cq1 : Tm.ds = cy1; cbv <;> subst cq0 cq1)
  refine ⟨by subst hp; simp [std], ?_⟩
  refine ⟨by subst hp; simp [std], ?_⟩
  simp only [e00]
  (generalize cq0 : Frm.ds = cy0; generalize cq1 : Tm.ds = cy1; cbv <;> subst cq0 cq1)
  refine callA.pure hn rfl ?_
  (generalize cq0 : Frm.ds = cy0; generalize cq1 : Tm.ds = cy1; cbv <;> subst cq0 cq1)
  cases b with
  | false => simp only [not_f hp]; (generalize cq0 : Frm.ds = cy0; generalize cq1 : Tm.ds = cy1; cbv <;> subst cq0 cq1); rw [hz]; rfl
  | true =>
  simp only [not_t hp]
  (generalize cq0 : Frm.ds = cy0; generalize cq1 : Tm.ds = cy1; cbv <;> subst cq0 cq1)
  simp only [e1]
  cases b1 with
  | false => (generalize cq0 : Frm.ds = cy0; generalize cq1 : Tm.ds = cy1; cbv <;> subst cq0 cq1); rw [hz]; rfl
  | true =>
  (generalize cq0 : Frm.ds = cy0; generalize cq1 : Tm.ds = cy1; cbv <;> subst cq0 cq1)
  simp only [e2]
  cases b2 with
  | false => simp only [not_f hp]; (generalize cq0 : Frm.ds = cy0; generalize cq1 : Tm.ds = cy1; cbv <;> subst cq0 cq1); rw [hz]; rfl
  | true =>
  simp only [not_t hp]
  (generalize cq0 : Frm.ds = cy0; generalize cq1 : Tm.ds = cy1; cbv <;> subst cq0 cq1)
  simp only [e16]
  (generalize cq0 : Frm.ds = cy0; generalize cq1 : Tm.ds = cy1; cbv <;> subst cq0 cq1)
  refine callA.pure h1 rfl ?_
  (generalize cq0 : Frm.ds = cy0; generalize cq1 : Tm.ds = cy1; cbv <;> subst cq0 cq1)
  cases q1 with
  | true => simp only [not_t hp]; (generalize cq0 : Frm.ds = cy0; generalize cq1 : Tm.ds = cy1; cbv <;> subst cq0 cq1); rw [hz]; rfl
  | false =>
  simp only [not_f hp]
  (generalize cq0 : Frm.ds = cy0; generalize cq1 : Tm.ds = cy1; cbv <;> subst cq0 cq1)
  refine callA.pure h2 rfl ?_
  (generalize cq0 : Frm.ds = cy0; generalize cq1 : Tm.ds = cy1; cbv <;> subst cq0 cq1)
  cases q2 with
  | true => simp only [not_t hp]; cbv; rw [hz]; rfl
  | false => simp only [not_f hp]; cbv; rw [hz]; rfl
theorem shape_op9 (n : Nm) (us : List Tm) (fs : List Frm) (b : Bool) (hn : Pure E 18 [.d .old (.str n)] (.d .top (.bool b)))
    (q1 q2 : Bool) (h1 : Pure E 90 [.d .old (.row 3 (Tm.ds us)), .fn 91 [] [.fb [.d .old (.int .i64 0)] 0]] (.d .top (.bool q1)))
    (h2 : Pure E 92 [.d .old (.row 4 (Frm.ds fs)), .fn 93 [] [.fb [.d .old (.int .i64 0)] 0]] (.d .top (.bool q2))) :
    Pure E 54 [.d .old (.agg [.int .u8 9, .str n, .row 3 (Tm.ds us), .row 4 (Frm.ds fs)]), .d .old (.int .i64 0)] (.d .top (.bool ((b && decide (us.length ≤ 0) && fs.length == 1) && (!q1 && !q2)))) := by
  obtain ⟨z, hz⟩ : ∃ z, z = ((b && decide (us.length ≤ 0) && fs.length == 1) && (!q1 && !q2)) := ⟨_, rfl⟩
  rw [← hz]
  have hr := rows_ok
  unfold rowsV at hr
  refine pure_by has54 ?_
  generalize hp : std = p
  have ew : p.wrap .i64 9 = 9 := by subst hp; rfl
  have eg : p.le 17 9 = false := by subst hp; rfl
  have e00 : p.lt 0 0 = false := by subst hp; rfl
  have e16 : p.eq 9 16 = false := by subst hp; rfl
  have e1 : p.lt 0 (p.dlen (Tm.ds us)) = !decide (us.length ≤ 0) := gt_len hp rfl us
  have e2 : p.eq (p.dlen (Frm.ds fs)) 1 = (fs.length == 1) := eq_lenF hp rfl fs
  generalize decide (us.length ≤ 0) = b1 at *
  generalize (fs.length == 1) = b2 at *
  (generalize cq0 : Frm.ds = cy0; generalize cq1 : Tm.ds = cy1; cbv <;> subst cq0 cq1)
  refine callA.pure hr rfl ?_
  (generalize cq0 : Frm.ds = cy0; generalize cq1 : Tm.ds = cy1; cbv <;> subst cq0 cq1)
  simp only [ew, eg]
  (generalize cq0 : Frm.ds = cy0; generalize cq1 : Tm.ds = cy1; cbv <;> subst cq0 cq1)
  refine ⟨by subst hp; simp [std], ?_⟩
  refine ⟨by subst hp; simp [std], ?_⟩
  simp only [e00]
  (generalize cq0 : Frm.ds = cy0; generalize cq1 : Tm.ds = cy1; cbv <;> subst cq0 cq1)
  refine callA.pure hn rfl ?_
  (generalize cq0 : Frm.ds = cy0; generalize cq1 : Tm.ds = cy1; cbv <;> subst cq0 cq1)
  cases b with
  | false => simp only [not_f hp]; (generalize cq0 : Frm.ds = cy0; generalize cq1 : Tm.ds = cy1; cbv <;> subst cq0 cq1); rw [hz]; rfl
  | true =>
  simp only [not_t hp]
  (generalize cq0 : Frm.ds = cy0; generalize cq1 : Tm.ds = cy1; cbv <;> subst cq0 cq1)
  simp only [e1]
  cases b1 with
  | false => (generalize cq0 : Frm.ds = cy0; generalize cq1 : Tm.ds = cy1; cbv <;> subst cq0 cq1); rw [hz]; rfl
  | true =>
  (generalize cq0 : Frm.ds = cy0; generalize cq1 : Tm.ds = cy1; cbv <;> subst cq0 cq1)
  simp only [e2]
  cases b2 with
  | false => simp only [not_f hp]; (generalize cq0 : Frm.ds = cy0; generalize cq1 : Tm.ds = cy1; cbv <;> subst cq0 cq1); rw [hz]; rfl
  | true =>
  simp only [not_t hp]
  (generalize cq0 : Frm.ds = cy0; generalize cq1 : Tm.ds = cy1; cbv <;> subst cq0 cq1)
  simp only [e16]
  (generalize cq0 : Frm.ds = cy0; generalize cq1 : Tm.ds = cy1; cbv <;> subst cq0 cq1)
  refine callA.pure h1 rfl ?_
  (generalize cq0 : Frm.ds = cy0; generalize cq1 : Tm.ds = cy1; cbv <;> subst cq0 cq1)
  cases q1 with
  | true => simp only [not_t hp]; (generalize cq0 : Frm.ds = cy0; generalize cq1 : Tm.ds = cy1; cbv <;> subst cq0 cq1); rw [hz]; rfl
  | false =>
  simp only [not_f hp]
  (generalize cq0 : Frm.ds = cy0; generalize cq1 : Tm.ds = cy1; cbv <;> subst cq0 cq1)
  refine callA.pure h2 rfl ?_
  (generalize cq0 : Frm.ds = cy0; generalize cq1 : Tm.ds = cy1; cbv <;> subst cq0 cq1)
  cases q2 with
  | true => simp only [not_t hp]; cbv; rw [hz]; rfl
  | false => simp only [not_f hp]; cbv; rw [hz]; rfl
theorem shape_op10 (n : Nm) (us : List Tm) (fs : List Frm) (b : Bool) (hn : Pure E 133 [.d .old (.str n)] (.d .top (.bool b)))
    (q1 q2 : Bool) (h1 : Pure E 90 [.d .old (.row 3 (Tm.ds us)), .fn 91 [] [.fb [.d .old (.int .i64 0)] 0]] (.d .top (.bool q1)))
    (h2 : Pure E 92 [.d .old (.row 4 (Frm.ds fs)), .fn 93 [] [.fb [.d .old (.int .i64 0)] 0]] (.d .top (.bool q2))) :
    Pure E 54 [.d .old (.agg [.int .u8 10, .str n, .row 3 (Tm.ds us), .row 4 (Frm.ds fs)]), .d .old (.int .i64 0)] (.d .top (.bool ((b && decide (us.length ≤ 0) && fs.length == 1) && (!q1 && !q2)))) := by
  obtain ⟨z, hz⟩ : ∃ z, z = ((b && decide (us.length ≤ 0) && fs.length == 1) && (!q1 && !q2)) := ⟨_, rfl⟩
  rw [← hz]
  have hr := rows_ok
  unfold rowsV at hr
  refine pure_by has54 ?_
  generalize hp : std = p
  have ew : p.wrap .i64 10 = 10 := by subst hp; rfl
  have eg : p.le 17 10 = false := by subst hp; rfl
  have e00 : p.lt 0 0 = false := by subst hp; rfl
  have e16 : p.eq 10 16 = false := by subst hp; rfl
  have e1 : p.lt 0 (p.dlen (Tm.ds us)) = !decide (us.length ≤ 0) := gt_len hp rfl us
  have e2 : p.eq (p.dlen (Frm.ds fs)) 1 = (fs.length == 1) := eq_lenF hp rfl fs
  generalize decide (us.length ≤ 0) = b1 at *
  generalize (fs.length == 1) = b2 at *
  (generalize cq0 : Frm.ds = cy0; generalize cq1 : Tm.ds = cy1; cbv <;> subst cq0 cq1)
  refine callA.pure hr rfl ?_
  (generalize cq0 : Frm.ds = cy0; generalize cq1 : Tm.ds = cy1; cbv <;> subst cq0 cq1)
  simp only [ew, eg]
  (generalize cq0 : Frm.ds = cy0; generalize cq1 : Tm.ds = cy1; cbv <;> subst cq0 cq1)
  refine ⟨by subst hp; simp [std], ?_⟩
  refine ⟨by subst hp; simp [std], ?_⟩
  simp only [e00]
  (generalize cq0 : Frm.ds = cy0; generalize cq1 : Tm.ds = cy1; cbv <;> subst cq0 cq1)
  refine callA.pure hn rfl ?_
  (generalize cq0 : Frm.ds = cy0; generalize cq1 : Tm.ds = cy1; cbv <;> subst cq0 cq1)
  cases b with
  | false => simp only [not_f hp]; (generalize cq0 : Frm.ds = cy0; generalize cq1 : Tm.ds = cy1; cbv <;> subst cq0 cq1); rw [hz]; rfl
  | true =>
  simp only [not_t hp]
  (generalize cq0 : Frm.ds = cy0; generalize cq1 : Tm.ds = cy1; cbv <;> subst cq0 cq1)
  simp only [e1]
  cases b1 with
  | false => (generalize cq0 : Frm.ds = cy0; generalize cq1 : Tm.ds = cy1; cbv <;> subst cq0 cq1); rw [hz]; rfl
  | true =>
  (generalize cq0 : Frm.ds = cy0; generalize cq1 : Tm.ds = cy1; cbv <;> subst cq0 cq1)
  simp only [e2]
  cases b2 with
  | false => simp only [not_f hp]; (generalize cq0 : Frm.ds = cy0; generalize cq1 : Tm.ds = cy1; cbv <;> subst cq0 cq1); rw [hz]; rfl
  | true =>
  simp only [not_t hp]
  (generalize cq0 : Frm.ds = cy0; generalize cq1 : Tm.ds = cy1; cbv <;> subst cq0 cq1)
  simp only [e16]
  (generalize cq0 : Frm.ds = cy0; generalize cq1 : Tm.ds = cy1; cbv <;> subst cq0 cq1)
  refine callA.pure h1 rfl ?_
  (generalize cq0 : Frm.ds = cy0; generalize cq1 : Tm.ds = cy1; cbv <;> subst cq0 cq1)
  cases q1 with
  | true => simp only [not_t hp]; (generalize cq0 : Frm.ds = cy0; generalize cq1 : Tm.ds = cy1; cbv <;> subst cq0 cq1); rw [hz]; rfl
  | false =>
  simp only [not_f hp]
  (generalize cq0 : Frm.ds = cy0; generalize cq1 : Tm.ds = cy1; cbv <;> subst cq0 cq1)
  refine callA.pure h2 rfl ?_
  (generalize cq0 : Frm.ds = cy0; generalize cq1 : Tm.ds = cy1; cbv <;> subst cq0 cq1)
  cases q2 with
  | true => simp only [not_t hp]; cbv; rw [hz]; rfl
  | false => simp only [not_f hp]; cbv; rw [hz]; rfl
theorem shape_op11 (n : Nm) (us : List Tm) (fs : List Frm) (b : Bool) (hn : Pure E 133 [.d .old (.str n)] (.d .top (.bool b)))
    (q1 q2 : Bool) (h1 : Pure E 90 [.d .old (.row 3 (Tm.ds us)), .fn 91 [] [.fb [.d .old (.int .i64 0)] 0]] (.d .top (.bool q1)))
    (h2 : Pure E 92 [.d .old (.row 4 (Frm.ds fs)), .fn 93 [] [.fb [.d .old (.int .i64 0)] 0]] (.d .top (.bool q2))) :
    Pure E 54 [.d .old (.agg [.int .u8 11, .str n, .row 3 (Tm.ds us), .row 4 (Frm.ds fs)]), .d .old (.int .i64 0)] (.d .top (.bool ((b && decide (us.length ≤ 0) && fs.length == 1) && (!q1 && !q2)))) := by
  obtain ⟨z, hz⟩ : ∃ z, z = ((b && decide (us.length ≤ 0) && fs.length == 1) && (!q1 && !q2)) := ⟨_, rfl⟩
  rw [← hz]
  have hr := rows_ok
  unfold rowsV at hr
  refine pure_by has54 ?_
  generalize hp : std = p
  have ew : p.wrap .i64 11 = 11 := by subst hp; rfl
  have eg : p.le 17 11 = false := by subst hp; rfl
  have e00 : p.lt 0 0 = false := by subst hp; rfl
  have e16 : p.eq 11 16 = false := by subst hp; rfl
  have e1 : p.lt 0 (p.dlen (Tm.ds us)) = !decide (us.length ≤ 0) := gt_len hp rfl us
  have e2 : p.eq (p.dlen (Frm.ds fs)) 1 = (fs.length == 1) := eq_lenF hp rfl fs
  generalize decide (us.length ≤ 0) = b1 at *
  generalize (fs.length == 1) = b2 at *
  (generalize cq0 : Frm.ds = cy0; generalize cq1 : Tm.ds = cy1; cbv <;> subst cq0 cq1)
  refine callA.pure hr rfl ?_
  (generalize cq0 : Frm.ds = cy0; generalize cq1 : Tm.ds = cy1; cbv <;> subst cq0 cq1)
  simp only [ew, eg]
  (generalize cq0 : Frm.ds = cy0; generalize cq1 : Tm.ds = cy1; cbv <;> subst cq0 cq1)
  refine ⟨by subst hp; simp [std], ?_⟩
  refine ⟨by subst hp; simp [std], ?_⟩
  simp only [e00]
  (generalize cq0 : Frm.ds = cy0; generalize cq1 : Tm.ds = cy1; cbv <;> subst cq0 cq1)
  refine callA.pure hn rfl ?_
  (generalize cq0 : Frm.ds = cy0; generalize cq1 : Tm.ds = cy1; cbv <;> subst cq0 cq1)
  cases b with
  | false => simp only [not_f hp]; (generalize cq0 : Frm.ds = cy0; generalize cq1 : Tm.ds = cy1; cbv <;> subst cq0 cq1); rw [hz]; rfl
  | true =>
  simp only [not_t hp]
  (generalize cq0 : Frm.ds = cy0; generalize cq1 : Tm.ds = cy1; cbv <;> subst cq0 cq1)
  simp only [e1]
  cases b1 with
  | false => (generalize cq0 : Frm.ds = cy0; generalize cq1 : Tm.ds = cy1; cbv <;> subst cq0 cq1); rw [hz]; rfl
  | true =>
  (generalize cq0 : Frm.ds = cy0; generalize cq1 : Tm.ds = cy1; cbv <;> subst cq0 cq1)
  simp only [e2]
  cases b2 with
  | false => simp only [not_f hp]; (generalize cq0 : Frm.ds = cy0; generalize cq1 : Tm.ds = cy1; cbv <;> subst cq0 cq1); rw [hz]; rfl
  | true =>
  simp only [not_t hp]
  (generalize cq0 : Frm.ds = cy0; generalize cq1 : Tm.ds = cy1; cbv <;> subst cq0 cq1)
  simp only [e16]
  (generalize cq0 : Frm.ds = cy0; generalize cq1 : Tm.ds = cy1; cbv <;> subst cq0 cq1)
  refine callA.pure h1 rfl ?_
  (generalize cq0 : Frm.ds = cy0; generalize cq1 : Tm.ds = cy1; cbv <;> subst cq0 cq1)
  cases q1 with
  | true => simp only [not_t hp]; (generalize cq0 : Frm.ds = cy0; generalize cq1 : Tm.ds = cy1; cbv <;> subst cq0 cq1); rw [hz]; rfl
  | false =>
  simp only [not_f hp]
  (generalize cq0 : Frm.ds = cy0; generalize cq1 : Tm.ds = cy1; cbv <;> subst cq0 cq1)
  refine callA.pure h2 rfl ?_
  (generalize cq0 : Frm.ds = cy0; generalize cq1 : Tm.ds = cy1; cbv <;> subst cq0 cq1)
  cases q2 with
  | true => simp only [not_t hp]; cbv; rw [hz]; rfl
  | false => simp only [not_f hp]; cbv; rw [hz]; rfl
theorem shape_op12 (n : Nm) (us : List Tm) (fs : List Frm) (b : Bool) (hn : Pure E 133 [.d .old (.str n)] (.d .top (.bool b)))
    (q1 q2 : Bool) (h1 : Pure E 90 [.d .old (.row 3 (Tm.ds us)), .fn 91 [] [.fb [.d .old (.int .i64 0)] 0]] (.d .top (.bool q1)))
    (h2 : Pure E 92 [.d .old (.row 4 (Frm.ds fs)), .fn 93 [] [.fb [.d .old (.int .i64 0)] 0]] (.d .top (.bool q2))) :
    Pure E 54 [.d .old (.agg [.int .u8 12, .str n, .row 3 (Tm.ds us), .row 4 (Frm.ds fs)]), .d .old (.int .i64 0)] (.d .top (.bool ((b && decide (us.length ≤ 0) && fs.length == 1) && (!q1 && !q2)))) := by
  obtain ⟨z, hz⟩ : ∃ z, z = ((b && decide (us.length ≤ 0) && fs.length == 1) && (!q1 && !q2)) := ⟨_, rfl⟩
  rw [← hz]
  have hr := rows_ok
  unfold rowsV at hr
  refine pure_by has54 ?_
  generalize hp : std = p
  have ew : p.wrap .i64 12 = 12 := by subst hp; rfl
  have eg : p.le 17 12 = false := by subst hp; rfl
  have e00 : p.lt 0 0 = false := by subst hp; rfl
  have e16 : p.eq 12 16 = false := by subst hp; rfl
  have e1 : p.lt 0 (p.dlen (Tm.ds us)) = !decide (us.length ≤ 0) := gt_len hp rfl us
  have e2 : p.eq (p.dlen (Frm.ds fs)) 1 = (fs.length == 1) := eq_lenF hp rfl fs
  generalize decide (us.length ≤ 0) = b1 at *
  generalize (fs.length == 1) = b2 at *
  (generalize cq0 : Frm.ds = cy0; generalize cq1 : Tm.ds = cy1; cbv <;> subst cq0 cq1)
  refine callA.pure hr rfl ?_
  (generalize cq0 : Frm.ds = cy0; generalize cq1 : Tm.ds = cy1; cbv <;> subst cq0 cq1)
  simp only [ew, eg]
  (generalize cq0 : Frm.ds = cy0; generalize cq1 : Tm.ds = cy1; cbv <;> subst cq0 cq1)
  refine ⟨by subst hp; simp [std], ?_⟩
  refine ⟨by subst hp; simp [std], ?_⟩
  simp only [e00]
  (generalize cq0 : Frm.ds = cy0; generalize cq1 : Tm.ds = cy1; cbv <;> subst cq0 cq1)
  refine callA.pure hn rfl ?_
  (generalize cq0 : Frm.ds = cy0; generalize cq1 : Tm.ds = cy1; cbv <;> subst cq0 cq1)
  cases b with
  | false => simp only [not_f hp]; (generalize cq0 : Frm.ds = cy0; generalize cq1 : Tm.ds = cy1; cbv <;> subst cq0 cq1); rw [hz]; rfl
  | true =>
  simp only [not_t hp]
  (generalize cq0 : Frm.ds = cy0; generalize cq1 : Tm.ds = cy1; cbv <;> subst cq0 cq1)
  simp only [e1]
  cases b1 with
  | false => (generalize cq0 : Frm.ds = cy0; generalize cq1 : Tm.ds = cy1; cbv <;> subst cq0 cq1); rw [hz]; rfl
  | true =>
  (generalize cq0 : Frm.ds = cy0; generalize cq1 : Tm.ds = cy1; cbv <;> subst cq0 cq1)
  simp only [e2]
  cases b2 with
  | false => simp only [not_f hp]; (generalize cq0 : Frm.ds = cy0; generalize cq1 : Tm.ds = cy1; cbv <;> subst cq0 cq1); rw [hz]; rfl
  | true =>
  simp only [not_t hp]
  (generalize cq0 : Frm.ds = cy0; generalize cq1 : Tm.ds = cy1; cbv <;> subst cq0 cq1)
  simp only [e16]
  (generalize cq0 : Frm.ds = cy0; generalize cq1 : Tm.ds = cy1; cbv <;> subst cq0 cq1)
  refine callA.pure h1 rfl ?_
  (generalize cq0 : Frm.ds = cy0; generalize cq1 : Tm.ds = cy1; cbv <;> subst cq0 cq1)
  cases q1 with
  | true => simp only [not_t hp]; (generalize cq0 : Frm.ds = cy0; generalize cq1 : Tm.ds = cy1; cbv <;> subst cq0 cq1); rw [hz]; rfl
  | false =>
  simp only [not_f hp]
  (generalize cq0 : Frm.ds = cy0; generalize cq1 : Tm.ds = cy1; cbv <;> subst cq0 cq1)
  refine callA.pure h2 rfl ?_
  (generalize cq0 : Frm.ds = cy0; generalize cq1 : Tm.ds = cy1; cbv <;> subst cq0 cq1)
  cases q2 with
  | true => simp only [not_t hp]; cbv; rw [hz]; rfl
  | false => simp only [not_f hp]; cbv; rw [hz]; rfl
theorem shape_op13 (n : Nm) (us : List Tm) (fs : List Frm) (b : Bool) (hn : Pure E 133 [.d .old (.str n)] (.d .top (.bool b)))
    (q1 q2 : Bool) (h1 : Pure E 90 [.d .old (.row 3 (Tm.ds us)), .fn 91 [] [.fb [.d .old (.int .i64 0)] 0]] (.d .top (.bool q1)))
    (h2 : Pure E 92 [.d .old (.row 4 (Frm.ds fs)), .fn 93 [] [.fb [.d .old (.int .i64 0)] 0]] (.d .top (.bool q2))) :
    Pure E 54 [.d .old (.agg [.int .u8 13, .str n, .row 3 (Tm.ds us), .row 4 (Frm.ds fs)]), .d .old (.int .i64 0)] (.d .top (.bool ((b && decide (us.length ≤ 0) && fs.length == 1) && (!q1 && !q2)))) := by
  obtain ⟨z, hz⟩ : ∃ z, z = ((b && decide (us.length ≤ 0) && fs.length == 1) && (!q1 && !q2)) := ⟨_, rfl⟩
  rw [← hz]
  have hr := rows_ok
  unfold rowsV at hr
  refine pure_by has54 ?_
  generalize hp : std = p
  have ew : p.wrap .i64 13 = 13 := by subst hp; rfl
  have eg : p.le 17 13 = false := by subst hp; rfl
  have e00 : p.lt 0 0 = false := by subst hp; rfl
  have e16 : p.eq 13 16 = false := by subst hp; rfl
  have e1 : p.lt 0 (p.dlen (Tm.ds us)) = !decide (us.length ≤ 0) := gt_len hp rfl us
  have e2 : p.eq (p.dlen (Frm.ds fs)) 1 = (fs.length == 1) := eq_lenF hp rfl fs
  generalize decide (us.length ≤ 0) = b1 at *
  generalize (fs.length == 1) = b2 at *
  (generalize cq0 : Frm.ds = cy0; generalize cq1 : Tm.ds = cy1; cbv <;> subst cq0 cq1)
  refine callA.pure hr rfl ?_
  (generalize cq0 : Frm.ds = cy0; generalize cq1 : Tm.ds = cy1; cbv <;> subst cq0 cq1)
  simp only [ew, eg]
  (generalize cq0 : Frm.ds = cy0; generalize cq1 : Tm.ds = cy1; cbv <;> subst cq0 cq1)
  refine ⟨by subst hp; simp [std], ?_⟩
  refine ⟨by subst hp; simp [std], ?_⟩
  simp only [e00]
  (generalize cq0 : Frm.ds = cy0; generalize cq1 : Tm.ds = cy1; cbv <;> subst cq0 cq1)
  refine callA.pure hn rfl ?_
  (generalize cq0 : Frm.ds = cy0; generalize cq1 : Tm.ds = cy1; cbv <;> subst cq0 cq1)
  cases b with
  | false => simp only [not_f hp]; (generalize cq0 : Frm.ds = cy0; generalize cq1 : Tm.ds = cy1; cbv <;> subst cq0 cq1); rw [hz]; rfl
  | true =>
  simp only [not_t hp]
  (generalize cq0 : Frm.ds = cy0; generalize cq1 : Tm.ds = cy1; cbv <;> subst cq0 cq1)
  simp only [e1]
  cases b1 with
  | false => (generalize cq0 : Frm.ds = cy0; generalize cq1 : Tm.ds = cy1; cbv <;> subst cq0 cq1); rw [hz]; rfl
  | true =>
  (generalize cq0 : Frm.ds = cy0; generalize cq1 : Tm.ds = cy1; cbv <;> subst cq0 cq1)
  simp only [e2]
  cases b2 with
  | false => simp only [not_f hp]; (generalize cq0 : Frm.ds = cy0; generalize cq1 : Tm.ds = cy1; cbv <;> subst cq0 cq1); rw [hz]; rfl
  | true =>
  simp only [not_t hp]
  (generalize cq0 : Frm.ds = cy0; generalize cq1 : Tm.ds = cy1; cbv <;> subst cq0 cq1)
  simp only [e16]
  (generalize cq0 : Frm.ds = cy0; generalize cq1 : Tm.ds = cy1; cbv <;> subst cq0 cq1)
  refine callA.pure h1 rfl ?_
  (generalize cq0 : Frm.ds = cy0; generalize cq1 : Tm.ds = cy1; cbv <;> subst cq0 cq1)
  cases q1 with
  | true => simp only [not_t hp]; (generalize cq0 : Frm.ds = cy0; generalize cq1 : Tm.ds = cy1; cbv <;> subst cq0 cq1); rw [hz]; rfl
  | false =>
  simp only [not_f hp]
  (generalize cq0 : Frm.ds = cy0; generalize cq1 : Tm.ds = cy1; cbv <;> subst cq0 cq1)
  refine callA.pure h2 rfl ?_
  (generalize cq0 : Frm.ds = cy0; generalize cq1 : Tm.ds = cy1; cbv <;> subst cq0 cq1)
  cases q2 with
  | true => simp only [not_t hp]; cbv; rw [hz]; rfl
  | false => simp only [not_f hp]; cbv; rw [hz]; rfl
theorem shape_op14 (n : Nm) (us : List Tm) (fs : List Frm) (b : Bool) (hn : Pure E 133 [.d .old (.str n)] (.d .top (.bool b)))
    (q1 q2 : Bool) (h1 : Pure E 90 [.d .old (.row 3 (Tm.ds us)), .fn 91 [] [.fb [.d .old (.int .i64 0)] 0]] (.d .top (.bool q1)))
    (h2 : Pure E 92 [.d .old (.row 4 (Frm.ds fs)), .fn 93 [] [.fb [.d .old (.int .i64 0)] 0]] (.d .top (.bool q2))) :
    Pure E 54 [.d .old (.agg [.int .u8 14, .str n, .row 3 (Tm.ds us), .row 4 (Frm.ds fs)]), .d .old (.int .i64 0)] (.d .top (.bool ((b && decide (us.length ≤ 0) && fs.length == 2) && (!q1 && !q2)))) := by
  obtain ⟨z, hz⟩ : ∃ z, z = ((b && decide (us.length ≤ 0) && fs.length == 2) && (!q1 && !q2)) := ⟨_, rfl⟩
  rw [← hz]
  have hr := rows_ok
  unfold rowsV at hr
  refine pure_by has54 ?_
  generalize hp : std = p
  have ew : p.wrap .i64 14 = 14 := by subst hp; rfl
  have eg : p.le 17 14 = false := by subst hp; rfl
  have e00 : p.lt 0 0 = false := by subst hp; rfl
  have e16 : p.eq 14 16 = false := by subst hp; rfl
  have e1 : p.lt 0 (p.dlen (Tm.ds us)) = !decide (us.length ≤ 0) := gt_len hp rfl us
  have e2 : p.eq (p.dlen (Frm.ds fs)) 2 = (fs.length == 2) := eq_lenF hp rfl fs
  generalize decide (us.length ≤ 0) = b1 at *
  generalize (fs.length == 2) = b2 at *
  (generalize cq0 : Frm.ds = cy0; generalize cq1 : Tm.ds = cy1; cbv <;> subst cq0 cq1)
  refine callA.pure hr rfl ?_
  (generalize cq0 : Frm.ds = cy0; generalize cq1 : Tm.ds = cy1; cbv <;> subst cq0 cq1)
  simp only [ew, eg]
  (generalize cq0 : Frm.ds = cy0; generalize cq1 : Tm.ds = cy1; cbv <;> subst cq0 cq1)
  refine ⟨by subst hp; simp [std], ?_⟩
  refine ⟨by subst hp; simp [std], ?_⟩
  simp only [e00]
  (generalize cq0 : Frm.ds = cy0; generalize cq1 : Tm.ds = cy1; cbv <;> subst cq0 cq1)
  refine callA.pure hn rfl ?_
  (generalize cq0 : Frm.ds = cy0; generalize cq1 : Tm.ds = cy1; cbv <;> subst cq0 cq1)
  cases b with
  | false => simp only [not_f hp]; (generalize cq0 : Frm.ds = cy0; generalize cq1 : Tm.ds = cy1; cbv <;> subst cq0 cq1); rw [hz]; rfl
  | true =>
  simp only [not_t hp]
  (generalize cq0 : Frm.ds = cy0; generalize cq1 : Tm.ds = cy1; cbv <;> subst cq0 cq1)
  simp only [e1]
  cases b1 with
  | false => (generalize cq0 : Frm.ds = cy0; generalize cq1 : Tm.ds = cy1; cbv <;> subst cq0 cq1); rw [hz]; rfl
  | true =>
  (generalize cq0 : Frm.ds = cy0; generalize cq1 : Tm.ds = cy1; cbv <;> subst cq0 cq1)
  simp only [e2]
  cases b2 with
  | false => simp only [not_f hp]; (generalize cq0 : Frm.ds = cy0; generalize cq1 : Tm.ds = cy1; cbv <;> subst cq0 cq1); rw [hz]; rfl
  | true =>
  simp only [not_t hp]
  (generalize cq0 : Frm.ds = cy0; generalize cq1 : Tm.ds = cy1; cbv <;> subst cq0 cq1)
  simp only [e16]
  (generalize cq0 : Frm.ds = cy0; generalize cq1 : Tm.ds = cy1; cbv <;> subst cq0 cq1)
  refine callA.pure h1 rfl ?_
  (generalize cq0 : Frm.ds = cy0; generalize cq1 : Tm.ds = cy1; cbv <;> subst cq0 cq1)
  cases q1 with
  | true => simp only [not_t hp]; (generalize cq0 : Frm.ds = cy0; generalize cq1 : Tm.ds = cy1; cbv <;> subst cq0 cq1); rw [hz]; rfl
  | false =>
  simp only [not_f hp]
  (generalize cq0 : Frm.ds = cy0; generalize cq1 : Tm.ds = cy1; cbv <;> subst cq0 cq1)
  refine callA.pure h2 rfl ?_
  (generalize cq0 : Frm.ds = cy0; generalize cq1 : Tm.ds = cy1; cbv <;> subst cq0 cq1)
  cases q2 with
  | true => simp only [not_t hp]; cbv; rw [hz]; rfl
  | false => simp only [not_f hp]; cbv; rw [hz]; rfl
theorem shape_op15 (n : Nm) (us : List Tm) (fs : List Frm) : Pure E 54 [.d .old (.agg [.int .u8 15, .str n, .row 3 (Tm.ds us), .row 4 (Frm.ds fs)]), .d .old (.int .i64 0)] (.d .top (.bool false)) := by
  have hr := rows_ok
  unfold rowsV at hr
  refine pure_by has54 ?_
  generalize hp : std = p
  have ew : p.wrap .i64 15 = 15 := by subst hp; rfl
  have eg : p.le 17 15 = false := by subst hp; rfl
  have e00 : p.lt 0 1 = true := by subst hp; rfl
  have e16 : p.eq 15 16 = false := by subst hp; rfl
  (generalize cq0 : Frm.ds = cy0; generalize cq1 : Tm.ds = cy1; cbv <;> subst cq0 cq1)
  refine callA.pure hr rfl ?_
  (generalize cq0 : Frm.ds = cy0; generalize cq1 : Tm.ds = cy1; cbv <;> subst cq0 cq1)
  simp only [ew, eg]
  (generalize cq0 : Frm.ds = cy0; generalize cq1 : Tm.ds = cy1; cbv <;> subst cq0 cq1)
  refine ⟨by subst hp; simp [std], ?_⟩
  refine ⟨by subst hp; simp [std], ?_⟩
  simp only [e00]
  (generalize cq0 : Frm.ds = cy0; generalize cq1 : Tm.ds = cy1; cbv <;> subst cq0 cq1)
theorem shape_op16 (n : Nm) (us : List Tm) (fs : List Frm) : Pure E 54 [.d .old (.agg [.int .u8 16, .str n, .row 3 (Tm.ds us), .row 4 (Frm.ds fs)]), .d .old (.int .i64 0)] (.d .top (.bool false)) := by
  have hr := rows_ok
  unfold rowsV at hr
  refine pure_by has54 ?_
  generalize hp : std = p
  have ew : p.wrap .i64 16 = 16 := by subst hp; rfl
  have eg : p.le 17 16 = false := by subst hp; rfl
  have e00 : p.lt 0 1 = true := by subst hp; rfl
  have e16 : p.eq 16 16 = true := by subst hp; rfl
  (generalize cq0 : Frm.ds = cy0; generalize cq1 : Tm.ds = cy1; cbv <;> subst cq0 cq1)
  refine callA.pure hr rfl ?_
  (generalize cq0 : Frm.ds = cy0; generalize cq1 : Tm.ds = cy1; cbv <;> subst cq0 cq1)
  simp only [ew, eg]
  (generalize cq0 : Frm.ds = cy0; generalize cq1 : Tm.ds = cy1; cbv <;> subst cq0 cq1)
  refine ⟨by subst hp; simp [std], ?_⟩
  refine ⟨by subst hp; simp [std], ?_⟩
  simp only [e00]
  (generalize cq0 : Frm.ds = cy0; generalize cq1 : Tm.ds = cy1; cbv <;> subst cq0 cq1)
theorem shape_big (o : Int) (h : 17 ≤ o) (h' : o < 256) (n : Nm) (us : List Tm) (fs : List Frm) : Pure E 54 [.d .old (.agg [.int .u8 o, .str n, .row 3 (Tm.ds us), .row 4 (Frm.ds fs)]), .d .old (.int .i64 0)] (.d .top (.bool false)) := by
  have hr := rows_ok
  unfold rowsV at hr
  refine pure_by has54 ?_
  generalize hp : std = p
  have ew : p.wrap .i64 o = o := by subst hp; exact wrap64_id (by simp [std]; omega)
  have eg : p.le 17 o = true := by subst hp; simp [std]; omega
  (generalize cq0 : Frm.ds = cy0; generalize cq1 : Tm.ds = cy1; cbv <;> subst cq0 cq1)
  refine callA.pure hr rfl ?_
  (generalize cq0 : Frm.ds = cy0; generalize cq1 : Tm.ds = cy1; cbv <;> subst cq0 cq1)
  simp only [ew, eg]
  (generalize cq0 : Frm.ds = cy0; generalize cq1 : Tm.ds = cy1; cbv <;> subst cq0 cq1)
end Go.Ly.Tr
end
section
namespace Go.Ly.Tr
set_option maxRecDepth 4000
def rowOp (o : UInt8) : Option (Nat × Nat × Nat) :=
  if o = 1 then some (2, 4, 0) else if o = 2 then some (0, 0, 0) else if o = 3 ∨ o = 10 ∨ o = 11 ∨ o = 12 ∨ o = 13 then some (0, 0, 1)
  else if o = 4 ∨ o = 5 ∨ o = 6 ∨ o = 7 ∨ o = 14 then some (0, 0, 2) else if o = 8 ∨ o = 9 then some (1, 0, 1) else none
def kindB (k : Nat) (n : Nm) : Bool := if k = 0 then n.isEmpty else if k = 1 then varB n else predB n
mutual
def Frm.ok : Frm → Bool
  | .mk o n us fs => match rowOp o with
    | none => false
    | some (k, a, s) => (kindB k n && decide (us.length ≤ a) && fs.length == s) && (Tm.oks us && Frm.oks fs)
def Frm.oks : List Frm → Bool
  | [] => true
  | t :: l => t.ok && Frm.oks l
end
theorem Frm.oks_any : ∀ l : List Frm, Frm.oks l = !(l.any fun t => !t.ok)
  | [] => rfl
  | t :: l => by rw [Frm.oks, Frm.oks_any l, List.any_cons]; cases t.ok <;> simp
theorem shape_ok (f : Frm) : f.size ≤ 1000000 → Pure E 54 [.d .old f.d, .d .old (.int .i64 0)] (.d .top (.bool f.ok)) := by
  induction f using Frm.ind with
  | h o n us fs ih =>
  intro hs
  have hl := Tm.len_size us
  have hl' := Frm.len_size fs
  simp only [Frm.size] at hs
  have hc1 : ∀ x ∈ us, (∃ a b c, x.d = .agg [.bool a, .str b, .row 3 c]) ∧ Pure E 91 [.d .old x.d, .fb [.d .old (.int .i64 0)] 0] (.d .top (.bool (!x.ok))) := by
    intro x hx
    have := Tm.size_mem hx
    have h := term_ok x (by omega)
    obtain ⟨a, b, c⟩ := x
    generalize (Tm.mk a b c).ok = q at *
    simp only [Tm.d] at h ⊢
    refine ⟨⟨_, _, _, rfl⟩, ?_⟩
    refine pure_by has91 ?_
    generalize hp : std = p
    (generalize cq0 : Tm.ds = cy0; cbv <;> subst cq0)
    refine callA.pure h rfl ?_
    (generalize cq0 : Tm.ds = cy0; cbv <;> subst cq0)
    subst hp
    rfl
  have hc2 : ∀ x ∈ fs, (∃ a b c d, x.d = .agg [.int .u8 a, .str b, .row 3 c, .row 4 d]) ∧ Pure E 93 [.d .old x.d, .fb [.d .old (.int .i64 0)] 0] (.d .top (.bool (!x.ok))) := by
    intro x hx
    have := Frm.size_mem hx
    have h := ih x hx (by omega)
    obtain ⟨a, b, c, d⟩ := x
    generalize (Frm.mk a b c d).ok = q at *
    simp only [Frm.d] at h ⊢
    refine ⟨⟨_, _, _, _, rfl⟩, ?_⟩
    refine pure_by has93 ?_
    generalize hp : std = p
    (generalize cq0 : Frm.ds = cy0; generalize cq1 : Tm.ds = cy1; generalize cq2 : opI = cy2; cbv <;> subst cq0 cq1 cq2)
    refine callA.pure h rfl ?_
    (generalize cq0 : Frm.ds = cy0; generalize cq1 : Tm.ds = cy1; generalize cq2 : opI = cy2; cbv <;> subst cq0 cq1 cq2)
    subst hp
    rfl
  have h1 := containsFuncT_ok us (by omega) hc1
  have h2 := containsFuncF_ok fs (by omega) hc2
  rw [show mapO Tm.d us = Tm.ds us from (Tm.ds_eq us).symm] at h1
  rw [show mapO Frm.d fs = Frm.ds fs from (Frm.ds_eq fs).symm] at h2
  rw [Frm.ok]
  simp only [oks_any, Frm.oks_any, Frm.d, opI]
  generalize (us.any fun t => !t.ok) = q1 at *
  generalize (fs.any fun t => !t.ok) = q2 at *
  clear hc1 hc2 ih
  have h0 : Pure E 133 [.d .old (.str n)] (.d .top (.bool (kindB 0 n))) := by
    have := none_ok .old n
    rw [show kindB 0 n = std.seq n [] by simp only [kindB, std, if_true]; cases n <;> rfl]
    exact this
  have hv : Pure E 18 [.d .old (.str n)] (.d .top (.bool (kindB 1 n))) := variable_ok n
  have hP : Pure E 134 [.d .old (.str n)] (.d .top (.bool (kindB 2 n))) := predicate_ok n
  by_cases hbig : 17 ≤ o.toNat
  · have hr : rowOp o = none := by
      have hne : ∀ k : UInt8, k.toNat < 17 → o ≠ k := fun k hk e => by subst e; omega
      simp [rowOp, hne]
    rw [hr]
    exact shape_big o.toNat (by omega) (by have := o.toNat_lt; omega) n us fs
  · have hlt : o.toNat < 17 := by omega
    obtain ⟨i, hi⟩ : ∃ i, i = o.toNat := ⟨_, rfl⟩
    have ho : o = UInt8.ofNat i := by rw [hi]; simp
    rw [← hi] at hlt
    clear hi hbig
    subst ho
    match i, hlt with
    | 0, _ => exact shape_op0 n us fs
    | 1, _ => exact shape_op1 n us fs _ hP _ _ h1 h2
    | 2, _ => exact shape_op2 n us fs _ h0 _ _ h1 h2
    | 3, _ => exact shape_op3 n us fs _ h0 _ _ h1 h2
    | 4, _ => exact shape_op4 n us fs _ h0 _ _ h1 h2
    | 5, _ => exact shape_op5 n us fs _ h0 _ _ h1 h2
    | 6, _ => exact shape_op6 n us fs _ h0 _ _ h1 h2
    | 7, _ => exact shape_op7 n us fs _ h0 _ _ h1 h2
    | 8, _ => exact shape_op8 n us fs _ hv _ _ h1 h2
    | 9, _ => exact shape_op9 n us fs _ hv _ _ h1 h2
    | 10, _ => exact shape_op10 n us fs _ h0 _ _ h1 h2
    | 11, _ => exact shape_op11 n us fs _ h0 _ _ h1 h2
    | 12, _ => exact shape_op12 n us fs _ h0 _ _ h1 h2
    | 13, _ => exact shape_op13 n us fs _ h0 _ _ h1 h2
    | 14, _ => exact shape_op14 n us fs _ h0 _ _ h1 h2
    | 15, _ => exact shape_op15 n us fs
    | 16, _ => exact shape_op16 n us fs
    | k + 17, h => exact absurd h (by omega)
def Frm.right (f : Frm) : Bool := fitsB f && f.ok
theorem right_ok (f : Frm) (hs : f.size ≤ 1000000) : Pure E 17 [.d .old f.d] (.d .top (.bool f.right)) := by
  have h1 := fits_ok f hs
  have h2 := shape_ok f hs
  have hq : f.right = (fitsB f && f.ok) := rfl
  obtain ⟨z, hz⟩ : ∃ z, f.right = z := ⟨_, rfl⟩
  rw [hz] at hq ⊢
  obtain ⟨o, n, us, fs⟩ := f
  generalize (Frm.mk o n us fs).ok = q at *
  generalize fitsB (Frm.mk o n us fs) = q' at *
  simp only [Frm.d] at h1 h2 ⊢
  refine pure_by has17 ?_
  generalize hp : std = p
  (generalize cq0 : Frm.ds = cy0; generalize cq1 : Tm.ds = cy1; generalize cq2 : opI = cy2; cbv <;> subst cq0 cq1 cq2)
  refine callA.pure h1 rfl ?_
  (generalize cq0 : Frm.ds = cy0; generalize cq1 : Tm.ds = cy1; generalize cq2 : opI = cy2; cbv <;> subst cq0 cq1 cq2)
  cases q' with
  | false => (generalize cq0 : Frm.ds = cy0; generalize cq1 : Tm.ds = cy1; generalize cq2 : opI = cy2; cbv <;> subst cq0 cq1 cq2); rw [hq]; rfl
  | true =>
    (generalize cq0 : Frm.ds = cy0; generalize cq1 : Tm.ds = cy1; generalize cq2 : opI = cy2; cbv <;> subst cq0 cq1 cq2)
    refine callA.pure h2 rfl ?_
    (generalize cq0 : Frm.ds = cy0; generalize cq1 : Tm.ds = cy1; generalize cq2 : opI = cy2; cbv <;> subst cq0 cq1 cq2)
    rw [hq]; rfl
end Go.Ly.Tr
end
section
namespace Go.Ly.Tr
set_option maxRecDepth 4000
theorem eachTB_ok {α : Type} {g h : α → D} {k : Nat} {y : D} (l : List α) (hl : l.length ≤ 1000000) (hel : ∀ x ∈ l, (∃ v1 v2 v3, g x = .agg [.bool v1, .str v2, .row 3 v3]) ∧ (∃ v1 v2 v3, h x = .agg [.bool v1, .str v2, .row 3 v3]) ∧ Pure E k [.d .old y, .d .old (g x)] (.d .new (h x))) :
    Pure E 103 [.d .old (.row 3 (mapO g l)), .fn k [.d .old y] []] (.fresh 3 (mapO h l) .new) := by
  refine pure_by has103 ?_
  generalize hp : std = p
  (generalize cq0 : mapO = cy0; cbv <;> subst cq0)
  subst hp
  refine loopA_list l (fun d r => mkF 22 [(1, .fn k [.d .old y] []), (5, .own 598 3 (mapO h d) .new), (8, .d .old (.row 3 (mapO g l))), (9, .d .top (.int .i64 (std.dlen (mapO g l)))), (10, .d .top (.int .i64 (std.dlen (mapO g d))))])
    (fun d r => []) (fun _ _ => ()) ?_ rfl (fun _ _ => rfl) ?_ ?_
  · generalize hp : std = p
    (generalize cq0 : mapO = cy0; cbv <;> subst cq0)
    subst hp
    simp [std, mapO]
  · generalize hp : std = p
    (generalize cq0 : mapO = cy0; cbv <;> subst cq0)
    simp only [end_ltO hp]
    (generalize cq0 : mapO = cy0; cbv <;> subst cq0)
  · intro d e r d' hes hd'
    obtain ⟨⟨v1, v2, v3, he⟩, ⟨w1, w2, w3, hw⟩, hok⟩ := hel e (by rw [hes]; simp)
    rw [he, hw] at hok
    generalize hp : std = p
    have hget := at_getO (g := g) hp hes
    rw [he] at hget
    have hcat : p.dcat (mapO h d) [.agg [.bool w1, .str w2, .row 3 w3]] = mapO h d' := by subst hp hd'; simp [std, mapO, hw]
    have hnx : p.add (p.dlen (mapO g d)) 1 = p.dlen (mapO g d') := by subst hp hd'; simp [std, mapO]
    (generalize cq0 : mapO = cy0; cbv <;> subst cq0)
    simp only [at_ltO hp hes]
    (generalize cq0 : mapO = cy0; cbv <;> subst cq0)
    refine ⟨_, hget, ?_⟩
    (generalize cq0 : mapO = cy0; cbv <;> subst cq0)
    refine callA.pure hok rfl ?_
    (generalize cq0 : mapO = cy0; cbv <;> subst cq0)
    simp only [hcat, hnx]
    have hlen' : l.length = d.length + (r.length + 1) := by rw [hes]; simp
    have hd2 : (mapO g d').length = d.length + 1 := by rw [mapO_len, hd']; simp
    refine ⟨?_, ?_, by simp⟩
    · subst hp
      simp [std, mapO]
      omega
    · subst hp
      simp [std, hd2]
      omega
theorem eachFB_ok {α : Type} {g h : α → D} {k : Nat} {y : D} (l : List α) (hl : l.length ≤ 1000000) (hel : ∀ x ∈ l, (∃ v1 v2 v3 v4, g x = .agg [.int .u8 v1, .str v2, .row 3 v3, .row 4 v4]) ∧ (∃ v1 v2 v3 v4, h x = .agg [.int .u8 v1, .str v2, .row 3 v3, .row 4 v4]) ∧ Pure E k [.d .old y, .d .old (g x)] (.d .new (h x))) :
    Pure E 104 [.d .old (.row 4 (mapO g l)), .fn k [.d .old y] []] (.fresh 4 (mapO h l) .new) := by
  refine pure_by has104 ?_
  generalize hp : std = p
  (generalize cq0 : mapO = cy0; cbv <;> subst cq0)
  subst hp
  refine loopA_list l (fun d r => mkF 22 [(1, .fn k [.d .old y] []), (5, .own 598 4 (mapO h d) .new), (8, .d .old (.row 4 (mapO g l))), (9, .d .top (.int .i64 (std.dlen (mapO g l)))), (10, .d .top (.int .i64 (std.dlen (mapO g d))))])
    (fun d r => []) (fun _ _ => ()) ?_ rfl (fun _ _ => rfl) ?_ ?_
  · generalize hp : std = p
    (generalize cq0 : mapO = cy0; cbv <;> subst cq0)
    subst hp
    simp [std, mapO]
  · generalize hp : std = p
    (generalize cq0 : mapO = cy0; cbv <;> subst cq0)
    simp only [end_ltO hp]
    (generalize cq0 : mapO = cy0; cbv <;> subst cq0)
  · intro d e r d' hes hd'
    obtain ⟨⟨v1, v2, v3, v4, he⟩, ⟨w1, w2, w3, w4, hw⟩, hok⟩ := hel e (by rw [hes]; simp)
    rw [he, hw] at hok
    generalize hp : std = p
    have hget := at_getO (g := g) hp hes
    rw [he] at hget
    have hcat : p.dcat (mapO h d) [.agg [.int .u8 w1, .str w2, .row 3 w3, .row 4 w4]] = mapO h d' := by subst hp hd'; simp [std, mapO, hw]
    have hnx : p.add (p.dlen (mapO g d)) 1 = p.dlen (mapO g d') := by subst hp hd'; simp [std, mapO]
    (generalize cq0 : mapO = cy0; cbv <;> subst cq0)
    simp only [at_ltO hp hes]
    (generalize cq0 : mapO = cy0; cbv <;> subst cq0)
    refine ⟨_, hget, ?_⟩
    (generalize cq0 : mapO = cy0; cbv <;> subst cq0)
    refine callA.pure hok rfl ?_
    (generalize cq0 : mapO = cy0; cbv <;> subst cq0)
    simp only [hcat, hnx]
    have hlen' : l.length = d.length + (r.length + 1) := by rw [hes]; simp
    have hd2 : (mapO g d').length = d.length + 1 := by rw [mapO_len, hd']; simp
    refine ⟨?_, ?_, by simp⟩
    · subst hp
      simp [std, mapO]
      omega
    · subst hp
      simp [std, hd2]
      omega
theorem eachFC_ok {α : Type} {g h : α → D} {k : Nat} {y : D} {z : D} (l : List α) (hl : l.length ≤ 1000000) (hel : ∀ x ∈ l, (∃ v1 v2 v3 v4, g x = .agg [.int .u8 v1, .str v2, .row 3 v3, .row 4 v4]) ∧ (∃ v1 v2 v3 v4, h x = .agg [.int .u8 v1, .str v2, .row 3 v3, .row 4 v4]) ∧ Pure E k [.d .old (g x), .fb [.d .old y] 0, .fb [.d .old z] 0] (.d .new (h x))) :
    Pure E 104 [.d .old (.row 4 (mapO g l)), .fn k [] [.fb [.d .old y] 0, .fb [.d .old z] 0]] (.fresh 4 (mapO h l) .new) := by
  refine pure_by has104 ?_
  generalize hp : std = p
  (generalize cq0 : mapO = cy0; cbv <;> subst cq0)
  subst hp
  refine loopA_list l (fun d r => mkF 22 [(1, .fn k [] [.fb [.d .old y] 0, .fb [.d .old z] 0]), (5, .own 598 4 (mapO h d) .new), (8, .d .old (.row 4 (mapO g l))), (9, .d .top (.int .i64 (std.dlen (mapO g l)))), (10, .d .top (.int .i64 (std.dlen (mapO g d))))])
    (fun d r => []) (fun _ _ => ()) ?_ rfl (fun _ _ => rfl) ?_ ?_
  · generalize hp : std = p
    (generalize cq0 : mapO = cy0; cbv <;> subst cq0)
    subst hp
    simp [std, mapO]
  · generalize hp : std = p
    (generalize cq0 : mapO = cy0; cbv <;> subst cq0)
    simp only [end_ltO hp]
    (generalize cq0 : mapO = cy0; cbv <;> subst cq0)
  · intro d e r d' hes hd'
    obtain ⟨⟨v1, v2, v3, v4, he⟩, ⟨w1, w2, w3, w4, hw⟩, hok⟩ := hel e (by rw [hes]; simp)
    rw [he, hw] at hok
    generalize hp : std = p
    have hget := at_getO (g := g) hp hes
    rw [he] at hget
    have hcat : p.dcat (mapO h d) [.agg [.int .u8 w1, .str w2, .row 3 w3, .row 4 w4]] = mapO h d' := by subst hp hd'; simp [std, mapO, hw]
    have hnx : p.add (p.dlen (mapO g d)) 1 = p.dlen (mapO g d') := by subst hp hd'; simp [std, mapO]
    (generalize cq0 : mapO = cy0; cbv <;> subst cq0)
    simp only [at_ltO hp hes]
    (generalize cq0 : mapO = cy0; cbv <;> subst cq0)
    refine ⟨_, hget, ?_⟩
    (generalize cq0 : mapO = cy0; cbv <;> subst cq0)
    refine callA.pure hok rfl ?_
    (generalize cq0 : mapO = cy0; cbv <;> subst cq0)
    simp only [hcat, hnx]
    have hlen' : l.length = d.length + (r.length + 1) := by rw [hes]; simp
    have hd2 : (mapO g d').length = d.length + 1 := by rw [mapO_len, hd']; simp
    refine ⟨?_, ?_, by simp⟩
    · subst hp
      simp [std, mapO]
      omega
    · subst hp
      simp [std, hd2]
      omega
theorem copiedT_ok {α : Type} {g h : α → D} {k : Nat}  (l : List α) (hl : l.length ≤ 1000000) (hel : ∀ x ∈ l, (∃ v1 v2 v3, g x = .agg [.bool v1, .str v2, .row 3 v3]) ∧ (∃ v1 v2 v3, h x = .agg [.bool v1, .str v2, .row 3 v3]) ∧ Pure E k [.d .old (g x)] (.d .new (h x))) :
    Pure E 143 [.d .old (.row 3 (mapO g l)), .fn k [] []] (.fresh 3 (mapO h l) .new) := by
  refine pure_by has143 ?_
  generalize hp : std = p
  (generalize cq0 : mapO = cy0; cbv <;> subst cq0)
  subst hp
  refine loopA_list l (fun d r => mkF 22 [(1, .fn k [] []), (5, .own 598 3 (mapO h d) .new), (8, .d .old (.row 3 (mapO g l))), (9, .d .top (.int .i64 (std.dlen (mapO g l)))), (10, .d .top (.int .i64 (std.dlen (mapO g d))))])
    (fun d r => []) (fun _ _ => ()) ?_ rfl (fun _ _ => rfl) ?_ ?_
  · generalize hp : std = p
    (generalize cq0 : mapO = cy0; cbv <;> subst cq0)
    subst hp
    simp [std, mapO]
  · generalize hp : std = p
    (generalize cq0 : mapO = cy0; cbv <;> subst cq0)
    simp only [end_ltO hp]
    (generalize cq0 : mapO = cy0; cbv <;> subst cq0)
  · intro d e r d' hes hd'
    obtain ⟨⟨v1, v2, v3, he⟩, ⟨w1, w2, w3, hw⟩, hok⟩ := hel e (by rw [hes]; simp)
    rw [he, hw] at hok
    generalize hp : std = p
    have hget := at_getO (g := g) hp hes
    rw [he] at hget
    have hcat : p.dcat (mapO h d) [.agg [.bool w1, .str w2, .row 3 w3]] = mapO h d' := by subst hp hd'; simp [std, mapO, hw]
    have hnx : p.add (p.dlen (mapO g d)) 1 = p.dlen (mapO g d') := by subst hp hd'; simp [std, mapO]
    (generalize cq0 : mapO = cy0; cbv <;> subst cq0)
    simp only [at_ltO hp hes]
    (generalize cq0 : mapO = cy0; cbv <;> subst cq0)
    refine ⟨_, hget, ?_⟩
    (generalize cq0 : mapO = cy0; cbv <;> subst cq0)
    refine callA.pure hok rfl ?_
    (generalize cq0 : mapO = cy0; cbv <;> subst cq0)
    simp only [hcat, hnx]
    have hlen' : l.length = d.length + (r.length + 1) := by rw [hes]; simp
    have hd2 : (mapO g d').length = d.length + 1 := by rw [mapO_len, hd']; simp
    refine ⟨?_, ?_, by simp⟩
    · subst hp
      simp [std, mapO]
      omega
    · subst hp
      simp [std, hd2]
      omega
theorem copiedF_ok {α : Type} {g h : α → D} {k : Nat}  (l : List α) (hl : l.length ≤ 1000000) (hel : ∀ x ∈ l, (∃ v1 v2 v3 v4, g x = .agg [.int .u8 v1, .str v2, .row 3 v3, .row 4 v4]) ∧ (∃ v1 v2 v3 v4, h x = .agg [.int .u8 v1, .str v2, .row 3 v3, .row 4 v4]) ∧ Pure E k [.d .old (g x)] (.d .new (h x))) :
    Pure E 145 [.d .old (.row 4 (mapO g l)), .fn k [] []] (.fresh 4 (mapO h l) .new) := by
  refine pure_by has145 ?_
  generalize hp : std = p
  (generalize cq0 : mapO = cy0; cbv <;> subst cq0)
  subst hp
  refine loopA_list l (fun d r => mkF 22 [(1, .fn k [] []), (5, .own 598 4 (mapO h d) .new), (8, .d .old (.row 4 (mapO g l))), (9, .d .top (.int .i64 (std.dlen (mapO g l)))), (10, .d .top (.int .i64 (std.dlen (mapO g d))))])
    (fun d r => []) (fun _ _ => ()) ?_ rfl (fun _ _ => rfl) ?_ ?_
  · generalize hp : std = p
    (generalize cq0 : mapO = cy0; cbv <;> subst cq0)
    subst hp
    simp [std, mapO]
  · generalize hp : std = p
    (generalize cq0 : mapO = cy0; cbv <;> subst cq0)
    simp only [end_ltO hp]
    (generalize cq0 : mapO = cy0; cbv <;> subst cq0)
  · intro d e r d' hes hd'
    obtain ⟨⟨v1, v2, v3, v4, he⟩, ⟨w1, w2, w3, w4, hw⟩, hok⟩ := hel e (by rw [hes]; simp)
    rw [he, hw] at hok
    generalize hp : std = p
    have hget := at_getO (g := g) hp hes
    rw [he] at hget
    have hcat : p.dcat (mapO h d) [.agg [.int .u8 w1, .str w2, .row 3 w3, .row 4 w4]] = mapO h d' := by subst hp hd'; simp [std, mapO, hw]
    have hnx : p.add (p.dlen (mapO g d)) 1 = p.dlen (mapO g d') := by subst hp hd'; simp [std, mapO]
    (generalize cq0 : mapO = cy0; cbv <;> subst cq0)
    simp only [at_ltO hp hes]
    (generalize cq0 : mapO = cy0; cbv <;> subst cq0)
    refine ⟨_, hget, ?_⟩
    (generalize cq0 : mapO = cy0; cbv <;> subst cq0)
    refine callA.pure hok rfl ?_
    (generalize cq0 : mapO = cy0; cbv <;> subst cq0)
    simp only [hcat, hnx]
    have hlen' : l.length = d.length + (r.length + 1) := by rw [hes]; simp
    have hd2 : (mapO g d').length = d.length + 1 := by rw [mapO_len, hd']; simp
    refine ⟨?_, ?_, by simp⟩
    · subst hp
      simp [std, mapO]
      omega
    · subst hp
      simp [std, hd2]
      omega
end Go.Ly.Tr
end
section
namespace Go.Ly.Tr
set_option maxRecDepth 4000
theorem own_ok (t : Tm) : t.size ≤ 1000000 → Pure E 117 [.d .old t.d] (.d .new t.d) := by
  induction t using Tm.ind with
  | h v n us ih =>
  intro hs
  simp only [Tm.d]
  rw [Tm.ds_eq]
  have hlen : us.length ≤ 1000000 := by
    have := Tm.len_size us
    simp only [Tm.size] at hs
    omega
  obtain ⟨es, hes⟩ : ∃ es, es = us.map Tm.d := ⟨_, rfl⟩
  rw [← hes]
  have hl : es.length ≤ 1000000 := by rw [hes]; simpa using hlen
  have hel : ∀ e ∈ es, ∃ a b c, e = .agg [.bool a, .str b, .row 3 c] ∧ Pure E 117 [.d .old e] (.d .new e) := by
    intro e he
    rw [hes, List.mem_map] at he
    obtain ⟨⟨a, b, c⟩, hu, rfl⟩ := he
    refine ⟨a, b, _, rfl, ih _ hu ?_⟩
    have := Tm.size_mem hu
    simp only [Tm.size] at hs
    omega
  clear hes ih hs hlen
  refine pure_by has117 ?_
  generalize hp : std = p
  cbv
  subst hp
  refine loopA_list es (fun d r => mkF 22 [(1, .ptr 0 0), (2, .ptr 1 0), (3, .own 398 3 d .new), (6, .ptr 0 2), (7, .d .old (.row 3 es)), (8, .d .top (.int .i64 (std.dlen es))), (9, .d .top (.int .i64 (std.dlen d)))])
    (fun d r => [.bx [.d .old (.bool v), .d .old (.str n), .d .old (.row 3 es)], .bx [.d .top (.bool false), .d .top (.str []), .own 202 3 [] .top]]) (fun _ _ => ()) ?_ rfl (fun _ _ => rfl) ?_ ?_
  · generalize hp : std = p
    cbv
    subst hp
    simp [std]
  · generalize hp : std = p
    cbv
    simp only [end_lt hp]
    cbv
  · intro d e r d' hes hd'
    obtain ⟨a, b, c, rfl, hok⟩ := hel e (by rw [hes]; simp)
    generalize hp : std = p
    cbv
    simp only [at_lt hp hes]
    cbv
    refine ⟨_, at_get hp hes, ?_⟩
    cbv
    refine callA.pure hok rfl ?_
    cbv
    subst hp hd'
    have hlen' : es.length = d.length + (r.length + 1) := by rw [hes]; simp
    simp [std]
    omega
end Go.Ly.Tr
end
section
namespace Go.Ly.Tr
set_option maxRecDepth 4000
theorem Tm.shape (t : Tm) : ∃ v1 v2 v3, t.d = .agg [.bool v1, .str v2, .row 3 v3] := by
  obtain ⟨a, b, c⟩ := t
  exact ⟨_, _, _, rfl⟩
theorem Frm.shape (t : Frm) : ∃ v1 v2 v3 v4, t.d = .agg [.int .u8 v1, .str v2, .row 3 v3, .row 4 v4] := by
  obtain ⟨a, b, c, d⟩ := t
  exact ⟨_, _, _, _, rfl⟩
theorem mapT (l : List Tm) : mapO Tm.d l = Tm.ds l := (Tm.ds_eq l).symm
theorem mapF (l : List Frm) : mapO Frm.d l = Frm.ds l := (Frm.ds_eq l).symm
theorem ownTerm_ok (t : Tm) : t.size ≤ 1000000 → Pure E 144 [.d .old t.d] (.d .new t.d) := by
  induction t using Tm.ind with
  | h v n us ih =>
  intro hs
  have hl := Tm.len_size us
  simp only [Tm.size] at hs
  have h := copiedT_ok (g := Tm.d) (h := Tm.d) (k := 144) us (by omega) fun x hx => ⟨x.shape, x.shape, ih x hx (by have := Tm.size_mem hx; omega)⟩
  rw [mapT] at h
  simp only [Tm.d]
  refine pure_by has144 ?_
  generalize hp : std = p
  (generalize cq0 : Tm.ds = cy0; cbv <;> subst cq0)
  refine callA.pure h rfl ?_
  (generalize cq0 : Tm.ds = cy0; cbv <;> subst cq0)
theorem copy_ok (f : Frm) : f.size ≤ 1000000 → Pure E 106 [.d .old f.d] (.d .new f.d) := by
  induction f using Frm.ind with
  | h o n us fs ih =>
  intro hs
  have hl := Tm.len_size us
  have hl' := Frm.len_size fs
  simp only [Frm.size] at hs
  have h1 := copiedT_ok (g := Tm.d) (h := Tm.d) (k := 144) us (by omega) fun x hx => ⟨x.shape, x.shape, ownTerm_ok x (by have := Tm.size_mem hx; omega)⟩
  have h2 := copiedF_ok (g := Frm.d) (h := Frm.d) (k := 106) fs (by omega) fun x hx => ⟨x.shape, x.shape, ih x hx (by have := Frm.size_mem hx; omega)⟩
  rw [mapT] at h1
  rw [mapF] at h2
  simp only [Frm.d]
  refine pure_by has106 ?_
  generalize hp : std = p
  (generalize cq0 : Frm.ds = cy0; generalize cq1 : Tm.ds = cy1; generalize cq2 : opI = cy2; cbv <;> subst cq0 cq1 cq2)
  refine drawA.mk _ ⟨_, _, _, rfl, h1, rfl, rfl⟩ ?_
  (generalize cq0 : Frm.ds = cy0; generalize cq1 : Tm.ds = cy1; generalize cq2 : opI = cy2; cbv <;> subst cq0 cq1 cq2)
  refine drawA.mk _ ⟨_, _, _, rfl, h2, rfl, rfl⟩ ?_
  (generalize cq0 : Frm.ds = cy0; generalize cq1 : Tm.ds = cy1; generalize cq2 : opI = cy2; cbv <;> subst cq0 cq1 cq2)
abbrev Sb := Nm × Tm
def Sb.d : Sb → D
  | (x, .mk v n us) => .agg [.str x, .bool v, .str n, .row 3 (Tm.ds us)]
theorem Sb.shape (o : Sb) : ∃ v1 v2 v3 v4, o.d = .agg [.str v1, .bool v2, .str v3, .row 3 v4] := by
  obtain ⟨x, a, b, c⟩ := o
  exact ⟨_, _, _, _, rfl⟩
theorem find_ok (l : List Sb) (s : Nm) (hl : l.length ≤ 9223372036854775807) : Pure E 59 [.d .old (.row 4 (mapO Sb.d l)), .d .old (.str s)] (.d .top (.int .i64 (idxQ (fun o : Sb => o.1 == s) l 0))) := by
  have h := indexL_ok (g := Sb.d) (q := fun o : Sb => o.1 == s) (k := 99) (y := .str s) l hl fun x _ => ⟨x.shape, by
    obtain ⟨y, a, b, c⟩ := x
    simp only [Sb.d]
    obtain ⟨q, hq⟩ : ∃ q, (y == s) = q := ⟨_, rfl⟩
    rw [hq]
    refine pure_by has99 ?_
    generalize hp : std = p
    have e : p.seq y s = q := by subst hp; exact hq
    (generalize cq0 : Tm.ds = cy0; cbv <;> subst cq0)
    rw [← e]⟩
  generalize idxQ (fun o : Sb => o.1 == s) l 0 = z at *
  refine pure_by has59 ?_
  generalize hp : std = p
  (generalize cq0 : Sb.d = cy0; generalize cq1 : mapO = cy1; cbv <;> subst cq0 cq1)
  refine callA.pure h rfl ?_
  (generalize cq0 : Sb.d = cy0; generalize cq1 : mapO = cy1; cbv <;> subst cq0 cq1)
mutual
def Tm.sub (l : List Sb) : Tm → Tm
  | .mk v n us => if v then (match l.find? (fun o => o.1 == n) with | some o => o.2 | none => .mk v n (Tm.subs l us)) else .mk v n (Tm.subs l us)
def Tm.subs (l : List Sb) : List Tm → List Tm
  | [] => []
  | t :: ts => t.sub l :: Tm.subs l ts
end
theorem Tm.subs_eq (l : List Sb) : ∀ ts : List Tm, Tm.subs l ts = ts.map (Tm.sub l)
  | [] => rfl
  | t :: ts => by rw [Tm.subs, Tm.subs_eq l ts, List.map_cons]
theorem idxQ_lt {α : Type} (q : α → Bool) : ∀ (l : List α) (k : Nat), (idxQ q l k = -1 ∧ l.find? q = none) ∨ ∃ i o, idxQ q l k = ((k + i : Nat) : Int) ∧ l[i]? = some o ∧ l.find? q = some o
  | [], _ => .inl ⟨rfl, rfl⟩
  | e :: r, k => by
    rw [idxQ, List.find?_cons]
    cases h : q e with
    | true => exact .inr ⟨0, e, by simp, rfl, by simp⟩
    | false =>
      rcases idxQ_lt q r (k + 1) with ⟨h1, h2⟩ | ⟨i, o, h1, h2, h3⟩
      · exact .inl ⟨by simpa using h1, by simpa using h2⟩
      · exact .inr ⟨i + 1, o, by simp [h1]; omega, by simpa using h2, by simpa using h3⟩
theorem lterm_ok (l : List Sb) (hl : l.length ≤ 1000000) (hl2 : ∀ o ∈ l, o.2.size ≤ 1000000) (t : Tm) : t.size ≤ 1000000 → Pure E 72 [.d .old (.row 4 (mapO Sb.d l)), .d .old t.d] (.d .new (t.sub l).d) := by
  induction t using Tm.ind with
  | h v n us ih =>
  intro hs
  have hlen := Tm.len_size us
  simp only [Tm.size] at hs
  have h1 := eachTB_ok (g := Tm.d) (h := fun t => (t.sub l).d) (k := 72) (y := .row 4 (mapO Sb.d l)) us (by omega) fun x hx => ⟨x.shape, (x.sub l).shape, ih x hx (by have := Tm.size_mem hx; omega)⟩
  rw [mapT, show mapO (fun t => (t.sub l).d) us = Tm.ds (Tm.subs l us) by rw [Tm.subs_eq, Tm.ds_eq, List.map_map]; rfl] at h1
  have h2 := find_ok l n (by omega)
  have h3 := idxQ_lt (fun o : Sb => o.1 == n) l 0
  have hq : (Tm.mk v n us).sub l = if v then (match l.find? (fun o => o.1 == n) with | some o => o.2 | none => .mk v n (Tm.subs l us)) else .mk v n (Tm.subs l us) := by rw [Tm.sub]
  obtain ⟨r, hr⟩ : ∃ r, (Tm.mk v n us).sub l = r := ⟨_, rfl⟩
  rw [hr] at hq ⊢
  obtain ⟨L, hL⟩ : ∃ L, mapO Sb.d l = L := ⟨_, rfl⟩
  rw [hL] at h1 h2 ⊢
  generalize idxQ (fun o : Sb => o.1 == n) l 0 = z at *
  obtain ⟨us', hus⟩ : ∃ us', Tm.subs l us = us' := ⟨_, rfl⟩
  rw [hus] at hq h1
  clear ih hr
  simp only [Tm.d]
  have fin : v = false ∨ (v = true ∧ l.find? (fun o => o.1 == n) = none) → r = .mk v n us' := by
    rintro (hv | ⟨hv, hf⟩)
    · rw [hq, hv]; rfl
    · rw [hq, hv, hf]; rfl
  refine pure_by has72 ?_
  generalize hp : std = p
  (generalize cq0 : Tm.d = cy0; generalize cq1 : Tm.ds = cy1; cbv <;> subst cq0 cq1)
  cases v with
  | false =>
    rw [fin (.inl rfl)]
    simp only [Tm.d]
    (generalize cq0 : Tm.ds = cy0; cbv <;> subst cq0)
    refine callA.pure h1 rfl ?_
    (generalize cq0 : Tm.ds = cy0; cbv <;> subst cq0)
  | true =>
    (generalize cq0 : Tm.d = cy0; generalize cq1 : Tm.ds = cy1; cbv <;> subst cq0 cq1)
    refine callA.pure h2 rfl ?_
    (generalize cq0 : Tm.d = cy0; generalize cq1 : Tm.ds = cy1; cbv <;> subst cq0 cq1)
    rcases h3 with ⟨hz, hf⟩ | ⟨i, o, hz, hi, hf⟩
    · rw [fin (.inr ⟨rfl, hf⟩)]
      have e1 : p.le 0 z = false := by subst hp hz; rfl
      simp only [Tm.d]
      (generalize cq0 : Tm.ds = cy0; cbv <;> subst cq0)
      simp only [e1]
      (generalize cq0 : Tm.ds = cy0; cbv <;> subst cq0)
      refine callA.pure h1 rfl ?_
      (generalize cq0 : Tm.ds = cy0; cbv <;> subst cq0)
    · have e1 : p.le 0 z = true := by subst hp hz; simp [std]
      have e2 : p.dget L z = some (Sb.d o) := by
        subst hp hL hz
        simp [std, mapO, hi]
      have hro : r = o.2 := by rw [hq, hf]; rfl
      have h4 := own_ok o.2 (hl2 o (List.mem_of_getElem? hi))
      obtain ⟨x, a, b, c⟩ := o
      subst hro
      simp only [Sb.d] at e2
      simp only [Tm.d] at h4 ⊢
      simp only [e1]
      (generalize cq0 : Tm.ds = cy0; cbv <;> subst cq0)
      refine ⟨_, e2, ?_⟩
      (generalize cq0 : Tm.ds = cy0; cbv <;> subst cq0)
      refine callA.pure h4 rfl ?_
      (generalize cq0 : Tm.ds = cy0; cbv <;> subst cq0)
end Go.Ly.Tr
end
section
namespace Go.Ly.Tr
set_option maxRecDepth 4000
def Sits (l : List Nm) : List (List AV) := l.map fun s => [.d .old (.str s)]
theorem Sits_app (a b : List Nm) : Sits (a ++ b) = Sits a ++ Sits b := by simp [Sits]
theorem Sits_fit (l : List Nm) : ∀ x ∈ Sits l, allD x = true ∧ len x = 1 := by
  intro x hx
  rw [Sits, List.mem_map] at hx
  obtain ⟨t, _, rfl⟩ := hx
  exact ⟨rfl, rfl⟩
mutual
def Tm.vars : Tm → List Nm
  | .mk v n us => (if v then [n] else []) ++ Tm.varss us
def Tm.varss : List Tm → List Nm
  | [] => []
  | t :: ts => t.vars ++ Tm.varss ts
end
theorem inTerms_ok (l : List Tm) : Pure E 73 [.d .old (.row 3 (Tm.ds l))] (.fn 118 [] [.cb [.d .old (.row 3 (Tm.ds l))] 0]) := by
  refine pure_by has73 ?_
  generalize hp : std = p
  (generalize cq0 : Tm.ds = cy0; cbv <;> subst cq0)
theorem inTerms_iter (l : List Tm) (hs : Tm.size.sizes l ≤ 1000000) : IterOK E 118 [] [.cb [.d .old (.row 3 (Tm.ds l))] 0] (Sits (Tm.varss l)) := by
  obtain ⟨n, hn⟩ : ∃ n, Tm.size.sizes l < n := ⟨_, Nat.lt_succ_self _⟩
  induction n generalizing l with
  | zero => omega
  | succ n ih =>
  intro O i ω K hy
  have hyb := yb_ys _ _ _ hy
  have hlen := Tm.len_size l
  refine fun_by has118 ?_
  generalize hp : std = p
  (generalize cq0 : Tm.ds = cy0; cbv <;> subst cq0)
  subst hp
  refine loopA_inv (ι := List Tm × List Tm × O.Ω) (fun j => l = j.1 ++ j.2.1 ∧ yb O i (Sits (Tm.varss j.2.1)) j.2.2 fun _ ω' => K ω') (fun j => j.2.1.length)
    (fun j => mkF 30 [(1, .cb [.d .old (.row 3 (Tm.ds l))] 0), (2, .ptr 0 0), (6, .d .old (.row 3 (Tm.ds l))), (7, .d .top (.int .i64 (std.dlen (Tm.ds l)))), (8, .d .top (.int .i64 (std.dlen (Tm.ds j.1))))])
    (fun j => [.bx [.ext i]]) (fun j => j.2.2) ([], l, ω) ⟨rfl, hyb⟩ ?_ rfl (fun _ => rfl) ?_
  · generalize hp : std = p
    (generalize cq0 : Tm.ds = cy0; cbv <;> subst cq0)
    subst hp
    simp [std, Tm.ds]
  · rintro ⟨d, r, ω1⟩ ⟨hes, hyr⟩
    simp only at hes hyr ⊢
    cases r with
    | nil =>
      rw [List.append_nil] at hes
      subst hes
      generalize hp : std = p
      (generalize cq0 : Sits = cy0; generalize cq1 : Tm.ds = cy1; generalize cq2 : Tm.varss = cy2; cbv <;> subst cq0 cq1 cq2)
      simp only [end_ltT hp]
      (generalize cq0 : Sits = cy0; generalize cq1 : Tm.ds = cy1; generalize cq2 : Tm.varss = cy2; cbv <;> subst cq0 cq1 cq2)
      exact hyr
    | cons e r =>
      have hm : e ∈ l := by rw [hes]; simp
      have hsz := Tm.size_mem hm
      obtain ⟨v, nm, us⟩ := e
      simp only [Tm.size] at hsz
      rw [Tm.varss, Tm.vars, Sits_app, Sits_app] at hyr
      generalize hp : std = p
      (generalize cq0 : Sits = cy0; generalize cq1 : Tm.ds = cy1; generalize cq2 : Tm.varss = cy2; cbv <;> subst cq0 cq1 cq2)
      simp only [at_ltT hp hes]
      (generalize cq0 : Sits = cy0; generalize cq1 : Tm.ds = cy1; generalize cq2 : Tm.varss = cy2; cbv <;> subst cq0 cq1 cq2)
      refine ⟨_, at_getT hp hes, ?_⟩
      (generalize cq0 : Sits = cy0; generalize cq1 : Tm.ds = cy1; generalize cq2 : Tm.varss = cy2; cbv <;> subst cq0 cq1 cq2)
      have hdl : d.length + (r.length + 1) = l.length := by rw [hes]; simp
      cases v with
      | false =>
        (generalize cq0 : Sits = cy0; generalize cq1 : Tm.ds = cy1; generalize cq2 : Tm.varss = cy2; cbv <;> subst cq0 cq1 cq2)
        refine callA.pure (inTerms_ok us) rfl ?_
        (generalize cq0 : Sits = cy0; generalize cq1 : Tm.ds = cy1; generalize cq2 : Tm.varss = cy2; cbv <;> subst cq0 cq1 cq2)
        have hq' : yb O i ((Tm.varss us).map (fun t => [AV.d .old (.str t)]) ++ Sits (Tm.varss r)) ω1 fun _ ω' => K ω' := hyr
        subst hp
        refine rf_sound (items := Sits (Tm.varss us)) rfl rfl rfl (ih us (by omega) (by omega)) (Sits_fit _) ?_
        rw [Sits]
        refine range_yb (i := i) (Kb := fun _ ω' => K ω') (rest := Sits (Tm.varss r)) ?_ ?_ ?_ _ _ hq'
        · rintro s' ω3 K' hc
          refine roundA_by ?_
          generalize hp : std = p
          (generalize cq0 : Tm.ds = cy0; cbv <;> subst cq0)
          refine callA.ext rfl (O.mono hc fun q ω4 hq4 => ?_)
          rcases hq4 with ⟨rfl, h4⟩ | ⟨rfl, h4⟩
          · (generalize cq0 : Tm.ds = cy0; cbv <;> subst cq0)
            simp only [not_t hp]
            (generalize cq0 : Tm.ds = cy0; cbv <;> subst cq0)
            exact ⟨_, by (generalize cq0 : Tm.ds = cy0; cbv <;> subst cq0), rfl, h4⟩
          · (generalize cq0 : Tm.ds = cy0; cbv <;> subst cq0)
            simp only [not_f hp]
            (generalize cq0 : Tm.ds = cy0; cbv <;> subst cq0)
            exact ⟨_, by (generalize cq0 : Tm.ds = cy0; cbv <;> subst cq0), rfl, h4⟩
        · intro ω3 h3
          generalize hp : std = p
          (generalize cq0 : Sits = cy0; generalize cq1 : Tm.ds = cy1; generalize cq2 : Tm.varss = cy2; cbv <;> subst cq0 cq1 cq2)
          refine ⟨by subst hp; simp [std, Tm.ds_len]; omega, (d ++ [.mk false nm us], r, ω3), ⟨by rw [hes]; simp, h3⟩, by simp, ?_, rfl⟩
          generalize hd' : d ++ [Tm.mk false nm us] = d'
          (generalize cq0 : Tm.ds = cy0; cbv <;> subst cq0)
          subst hp hd'
          simp [std, Tm.ds_len]
        · intro ω3 h3
          (generalize cq0 : Sits = cy0; generalize cq1 : Tm.ds = cy1; generalize cq2 : Tm.varss = cy2; cbv <;> subst cq0 cq1 cq2)
          exact h3
      | true =>
        have hyr' : O.call i [.d .old (.str nm)] ω1 fun r1 ω' => (r1 = .d .top (.bool true) ∧ yb O i ((Tm.varss us).map (fun t => [AV.d .old (.str t)]) ++ Sits (Tm.varss r)) ω' fun _ ω' => K ω') ∨ (r1 = .d .top (.bool false) ∧ K ω') := hyr
        (generalize cq0 : Sits = cy0; generalize cq1 : Tm.ds = cy1; generalize cq2 : Tm.varss = cy2; cbv <;> subst cq0 cq1 cq2)
        refine callA.ext rfl (O.mono hyr' fun q ω2 hq => ?_)
        rcases hq with ⟨rfl, hq'⟩ | ⟨rfl, hq⟩
        rotate_left
        · (generalize cq0 : Sits = cy0; generalize cq1 : Tm.ds = cy1; generalize cq2 : Tm.varss = cy2; cbv <;> subst cq0 cq1 cq2)
          simp only [not_f hp]
          (generalize cq0 : Sits = cy0; generalize cq1 : Tm.ds = cy1; generalize cq2 : Tm.varss = cy2; cbv <;> subst cq0 cq1 cq2)
          exact hq
        · (generalize cq0 : Sits = cy0; generalize cq1 : Tm.ds = cy1; generalize cq2 : Tm.varss = cy2; cbv <;> subst cq0 cq1 cq2)
          simp only [not_t hp]
          (generalize cq0 : Sits = cy0; generalize cq1 : Tm.ds = cy1; generalize cq2 : Tm.varss = cy2; cbv <;> subst cq0 cq1 cq2)
          refine callA.pure (inTerms_ok us) rfl ?_
          (generalize cq0 : Sits = cy0; generalize cq1 : Tm.ds = cy1; generalize cq2 : Tm.varss = cy2; cbv <;> subst cq0 cq1 cq2)
          subst hp
          refine rf_sound (items := Sits (Tm.varss us)) rfl rfl rfl (ih us (by omega) (by omega)) (Sits_fit _) ?_
          rw [Sits]
          refine range_yb (i := i) (Kb := fun _ ω' => K ω') (rest := Sits (Tm.varss r)) ?_ ?_ ?_ _ _ hq'
          · rintro s' ω3 K' hc
            refine roundA_by ?_
            generalize hp : std = p
            (generalize cq0 : Tm.ds = cy0; cbv <;> subst cq0)
            refine callA.ext rfl (O.mono hc fun q ω4 hq4 => ?_)
            rcases hq4 with ⟨rfl, h4⟩ | ⟨rfl, h4⟩
            · (generalize cq0 : Tm.ds = cy0; cbv <;> subst cq0)
              simp only [not_t hp]
              (generalize cq0 : Tm.ds = cy0; cbv <;> subst cq0)
              exact ⟨_, by (generalize cq0 : Tm.ds = cy0; cbv <;> subst cq0), rfl, h4⟩
            · (generalize cq0 : Tm.ds = cy0; cbv <;> subst cq0)
              simp only [not_f hp]
              (generalize cq0 : Tm.ds = cy0; cbv <;> subst cq0)
              exact ⟨_, by (generalize cq0 : Tm.ds = cy0; cbv <;> subst cq0), rfl, h4⟩
          · intro ω3 h3
            generalize hp : std = p
            (generalize cq0 : Sits = cy0; generalize cq1 : Tm.ds = cy1; generalize cq2 : Tm.varss = cy2; cbv <;> subst cq0 cq1 cq2)
            refine ⟨by subst hp; simp [std, Tm.ds_len]; omega, (d ++ [.mk true nm us], r, ω3), ⟨by rw [hes]; simp, h3⟩, by simp, ?_, rfl⟩
            generalize hd' : d ++ [Tm.mk true nm us] = d'
            (generalize cq0 : Tm.ds = cy0; cbv <;> subst cq0)
            subst hp hd'
            simp [std, Tm.ds_len]
          · intro ω3 h3
            (generalize cq0 : Sits = cy0; generalize cq1 : Tm.ds = cy1; generalize cq2 : Tm.varss = cy2; cbv <;> subst cq0 cq1 cq2)
            exact h3
end Go.Ly.Tr
end
section
namespace Go.Ly.Tr
set_option maxRecDepth 4000
def isQ (o : UInt8) : Bool := o == 8 || o == 9
theorem isQ_eq (o : UInt8) : (std.eq (opI o) 8 || std.eq (opI o) 9) = isQ o := by
  have key : ∀ k : UInt8, std.eq (opI o) (k.toNat : Int) = (o == k) := by
    intro k
    simp only [std, opI]
    rw [Bool.eq_iff_iff]
    simp only [decide_eq_true_eq, beq_iff_eq]
    constructor
    · intro h; exact UInt8.toNat_inj.1 (by omega)
    · rintro rfl; rfl
  have h1 := key 8
  have h2 := key 9
  rw [show ((8 : UInt8).toNat : Int) = 8 from rfl] at h1
  rw [show ((9 : UInt8).toNat : Int) = 9 from rfl] at h2
  rw [h1, h2, isQ]
theorem quant_ok (ep : Ep) (f : Frm) : ∀ o n us fs, f = .mk o n us fs → Pure E 102 [.d ep (.agg [.int .u8 (opI o), .str n, .row 3 (Tm.ds us), .row 4 (Frm.ds fs)])] (.d .top (.bool (isQ o))) := by
  intro o n us fs _
  rw [← isQ_eq]
  exact quantifier_ok ep (opI o) n _ _
def unb (o : UInt8) (n : Nm) (l : List Nm) : List Nm := l.filter fun s => !(isQ o && s == n)
theorem unb_app (o : UInt8) (n : Nm) (a b : List Nm) : unb o n (a ++ b) = unb o n a ++ unb o n b := by simp [unb]
mutual
def Frm.frees : Frm → List Nm
  | .mk o n us fs => Tm.varss us ++ unb o n (Frm.freess fs)
def Frm.freess : List Frm → List Nm
  | [] => []
  | f :: fs => f.frees ++ Frm.freess fs
end
theorem free_ok (o : UInt8) (n : Nm) (us : List Tm) (fs : List Frm) :
    Pure E 67 [.d .old (.agg [.int .u8 (opI o), .str n, .row 3 (Tm.ds us), .row 4 (Frm.ds fs)])]
      (.fn 109 [] [.cb [.d .old (.int .u8 (opI o)), .d .old (.str n), .d .old (.row 3 (Tm.ds us)), .d .old (.row 4 (Frm.ds fs))] 0]) := by
  refine pure_by has67 ?_
  generalize hp : std = p
  (generalize cq0 : Frm.ds = cy0; generalize cq1 : Tm.ds = cy1; generalize cq2 : opI = cy2; cbv <;> subst cq0 cq1 cq2)
theorem range_ybs {E : Env} {O : Outer E} {i : Nat} {a1 b1 : AC} {ps : List Nat} {A : Fm} {σ : Sto} {Kb : Bool → O.Ω → Prop} {K : Option Ex → Sto → O.Ω → Prop} {α : Type} {g : α → D} {f : α → Bool} {rest : List (List AV)}
    (skip : ∀ (x : α) (ω : O.Ω) (K' : Option Ex → Sto → O.Ω → Prop), f x = false → K' none σ ω → roundA E O a1 b1 ps A [.d .unk (g x)] σ ω K')
    (round : ∀ (x : α) (ω : O.Ω) (K' : Option Ex → Sto → O.Ω → Prop), f x = true → (O.call i [.d .old (g x)] ω fun q ω' => (q = .d .top (.bool true) ∧ K' none σ ω') ∨ (q = .d .top (.bool false) ∧ K' (some .ret) σ ω')) → roundA E O a1 b1 ps A [.d .unk (g x)] σ ω K')
    (fin : ∀ ω, yb O i rest ω Kb → K none σ ω) (stop : ∀ ω, Kb false ω → K (some .ret) σ ω) : ∀ (xs : List α) (ω : O.Ω), yb O i ((xs.filter f).map (fun t => [AV.d .old (g t)]) ++ rest) ω Kb → rangeItems E O a1 b1 ps A ((xs.map fun t => [AV.d .old (g t)]).map unkL) σ ω K
  | [], ω, h => fin ω h
  | x :: xs, ω, h => by
    cases hf : f x with
    | false =>
      rw [List.filter_cons_of_neg (by simp [hf])] at h
      exact skip x ω _ hf (range_ybs skip round fin stop xs ω h)
    | true =>
      rw [List.filter_cons_of_pos hf] at h
      simp only [List.map_cons, List.cons_append, yb] at h
      refine round x ω _ hf (O.mono h fun q ω' hq => ?_)
      rcases hq with ⟨h1, h2⟩ | ⟨h1, h2⟩
      · exact .inl ⟨h1, range_ybs skip round fin stop xs ω' h2⟩
      · exact .inr ⟨h1, stop ω' h2⟩
theorem free_iter (f : Frm) : f.size ≤ 1000000 → ∀ o n us fs, f = .mk o n us fs →
    IterOK E 109 [] [.cb [.d .old (.int .u8 (opI o)), .d .old (.str n), .d .old (.row 3 (Tm.ds us)), .d .old (.row 4 (Frm.ds fs))] 0] (Sits f.frees) := by
  induction f using Frm.ind with
  | h o n us fs ih =>
  intro hs _ _ _ _ heq
  cases heq
  intro O i ω K hy
  have hyb := yb_ys _ _ _ hy
  have hlen := Frm.len_size fs
  simp only [Frm.size] at hs
  rw [Frm.frees, Sits_app] at hyb
  refine fun_by has109 ?_
  generalize hp : std = p
  (generalize cq0 : Frm.ds = cy0; generalize cq1 : Tm.ds = cy1; generalize cq2 : opI = cy2; cbv <;> subst cq0 cq1 cq2)
  refine callA.pure (inTerms_ok us) rfl ?_
  (generalize cq0 : Frm.ds = cy0; generalize cq1 : Tm.ds = cy1; generalize cq2 : opI = cy2; cbv <;> subst cq0 cq1 cq2)
  subst hp
  refine rf_sound (items := Sits (Tm.varss us)) rfl rfl rfl (inTerms_iter us (by omega)) (Sits_fit _) ?_
  rw [Sits]
  refine range_yb (i := i) (g := fun s => D.str s) (Kb := fun _ ω' => K ω') (rest := Sits (unb o n (Frm.freess fs))) ?_ ?_ ?_ _ _ hyb
  · rintro s' ω3 K' hc
    refine roundA_by ?_
    generalize hp : std = p
    (generalize cq0 : Frm.ds = cy0; generalize cq1 : Tm.ds = cy1; generalize cq2 : opI = cy2; cbv <;> subst cq0 cq1 cq2)
    refine callA.ext rfl (O.mono hc fun q ω4 hq4 => ?_)
    rcases hq4 with ⟨rfl, h4⟩ | ⟨rfl, h4⟩
    · (generalize cq0 : Frm.ds = cy0; generalize cq1 : Tm.ds = cy1; generalize cq2 : opI = cy2; cbv <;> subst cq0 cq1 cq2)
      simp only [not_t hp]
      (generalize cq0 : Frm.ds = cy0; generalize cq1 : Tm.ds = cy1; generalize cq2 : opI = cy2; cbv <;> subst cq0 cq1 cq2)
      exact ⟨_, by cbv, rfl, h4⟩
    · (generalize cq0 : Frm.ds = cy0; generalize cq1 : Tm.ds = cy1; generalize cq2 : opI = cy2; cbv <;> subst cq0 cq1 cq2)
      simp only [not_f hp]
      (generalize cq0 : Frm.ds = cy0; generalize cq1 : Tm.ds = cy1; generalize cq2 : opI = cy2; cbv <;> subst cq0 cq1 cq2)
      exact ⟨_, by cbv, rfl, h4⟩
  rotate_left
  · intro ω3 h3
    (generalize cq0 : Frm.ds = cy0; generalize cq1 : Tm.ds = cy1; generalize cq2 : opI = cy2; cbv <;> subst cq0 cq1 cq2)
    exact h3
  intro ω0 hy0
  generalize hp : std = p
  (generalize cq0 : Frm.ds = cy0; generalize cq1 : Tm.ds = cy1; generalize cq2 : opI = cy2; cbv <;> subst cq0 cq1 cq2)
  subst hp
  refine loopA_inv (ι := List Frm × List Frm × O.Ω) (fun j => fs = j.1 ++ j.2.1 ∧ yb O i (Sits (unb o n (Frm.freess j.2.1))) j.2.2 fun _ ω' => K ω') (fun j => j.2.1.length)
    (fun j => mkF 38 [(1, .cb [.d .old (.int .u8 (opI o)), .d .old (.str n), .d .old (.row 3 (Tm.ds us)), .d .old (.row 4 (Frm.ds fs))] 0), (2, .ptr 0 0), (16, .d .old (.row 4 (Frm.ds fs))), (17, .d .top (.int .i64 (std.dlen (Frm.ds fs)))), (18, .d .top (.int .i64 (std.dlen (Frm.ds j.1))))])
    (fun j => [.bx [.ext i]]) (fun j => j.2.2) ([], fs, ω0) ⟨rfl, hy0⟩ ?_ rfl (fun _ => rfl) ?_
  · generalize hp : std = p
    (generalize cq0 : Frm.ds = cy0; generalize cq1 : Tm.ds = cy1; generalize cq2 : opI = cy2; cbv <;> subst cq0 cq1 cq2)
    subst hp
    simp [std, Frm.ds]
  · rintro ⟨d, r, ω1⟩ ⟨hes, hyr⟩
    simp only at hes hyr ⊢
    cases r with
    | nil =>
      rw [List.append_nil] at hes
      subst hes
      generalize hp : std = p
      (generalize cq0 : Frm.ds = cy0; generalize cq1 : Frm.freess = cy1; generalize cq2 : Sits = cy2; generalize cq3 : Tm.ds = cy3; generalize cq4 : opI = cy4; generalize cq5 : unb = cy5; cbv <;> subst cq0 cq1 cq2 cq3 cq4 cq5)
      simp only [end_ltF hp]
      (generalize cq0 : Frm.ds = cy0; generalize cq1 : Frm.freess = cy1; generalize cq2 : Sits = cy2; generalize cq3 : Tm.ds = cy3; generalize cq4 : opI = cy4; generalize cq5 : unb = cy5; cbv <;> subst cq0 cq1 cq2 cq3 cq4 cq5)
      exact hyr
    | cons e r =>
      have hm : e ∈ fs := by rw [hes]; simp
      have hsz := Frm.size_mem hm
      have hit := ih e hm (by omega)
      obtain ⟨o', n', us', fs'⟩ := e
      have hit := hit _ _ _ _ rfl
      rw [Frm.freess, unb_app, Sits_app] at hyr
      obtain ⟨L, hL⟩ : ∃ L, (Frm.mk o' n' us' fs').frees = L := ⟨_, rfl⟩
      rw [hL] at hyr hit
      have hdl : d.length + (r.length + 1) = fs.length := by rw [hes]; simp
      generalize hp : std = p
      (generalize cq0 : Frm.ds = cy0; generalize cq1 : Frm.freess = cy1; generalize cq2 : Sits = cy2; generalize cq3 : Tm.ds = cy3; generalize cq4 : opI = cy4; generalize cq5 : unb = cy5; cbv <;> subst cq0 cq1 cq2 cq3 cq4 cq5)
      simp only [at_ltF hp hes]
      (generalize cq0 : Frm.ds = cy0; generalize cq1 : Frm.freess = cy1; generalize cq2 : Sits = cy2; generalize cq3 : Tm.ds = cy3; generalize cq4 : opI = cy4; generalize cq5 : unb = cy5; cbv <;> subst cq0 cq1 cq2 cq3 cq4 cq5)
      refine ⟨_, at_getF hp hes, ?_⟩
      (generalize cq0 : Frm.ds = cy0; generalize cq1 : Frm.freess = cy1; generalize cq2 : Sits = cy2; generalize cq3 : Tm.ds = cy3; generalize cq4 : opI = cy4; generalize cq5 : unb = cy5; cbv <;> subst cq0 cq1 cq2 cq3 cq4 cq5)
      refine callA.pure (free_ok o' n' us' fs') rfl ?_
      (generalize cq0 : Frm.ds = cy0; generalize cq1 : Frm.freess = cy1; generalize cq2 : Sits = cy2; generalize cq3 : Tm.ds = cy3; generalize cq4 : opI = cy4; generalize cq5 : unb = cy5; cbv <;> subst cq0 cq1 cq2 cq3 cq4 cq5)
      subst hp
      refine rf_sound (items := Sits L) rfl rfl rfl hit (Sits_fit _) ?_
      rw [Sits]
      refine range_ybs (i := i) (g := fun s => D.str s) (f := fun s => !(isQ o && s == n)) (Kb := fun _ ω' => K ω') (rest := Sits (unb o n (Frm.freess r))) ?_ ?_ ?_ ?_ L ω1 hyr
      · rintro s ω3 K' hf hc
        have hq := quant_ok .old (.mk o n us fs) _ _ _ _ rfl
        simp only [Bool.not_eq_false', Bool.and_eq_true] at hf
        rw [hf.1] at hq
        refine roundA_by ?_
        generalize hp : std = p
        have e1 : p.seq s n = true := by subst hp; exact hf.2
        (generalize cq0 : Frm.ds = cy0; generalize cq1 : Tm.ds = cy1; generalize cq2 : opI = cy2; cbv <;> subst cq0 cq1 cq2)
        refine callA.pure hq rfl ?_
        (generalize cq0 : Frm.ds = cy0; generalize cq1 : Tm.ds = cy1; generalize cq2 : opI = cy2; cbv <;> subst cq0 cq1 cq2)
        simp only [e1]
        (generalize cq0 : Frm.ds = cy0; generalize cq1 : Tm.ds = cy1; generalize cq2 : opI = cy2; cbv <;> subst cq0 cq1 cq2)
        exact ⟨_, by (generalize cq0 : Frm.ds = cy0; generalize cq1 : Tm.ds = cy1; generalize cq2 : opI = cy2; cbv <;> subst cq0 cq1 cq2), rfl, hc⟩
      · rintro s ω3 K' hf hc
        have hq := quant_ok .old (.mk o n us fs) _ _ _ _ rfl
        generalize isQ o = b at *
        refine roundA_by ?_
        generalize hp : std = p
        have e1 : b = true → p.seq s n = false := by
          rintro rfl
          subst hp
          have : (s == n) = false := by simpa using hf
          exact this
        (generalize cq0 : Frm.ds = cy0; generalize cq1 : Tm.ds = cy1; generalize cq2 : opI = cy2; cbv <;> subst cq0 cq1 cq2)
        refine callA.pure hq rfl ?_
        (generalize cq0 : Frm.ds = cy0; generalize cq1 : Tm.ds = cy1; generalize cq2 : opI = cy2; cbv <;> subst cq0 cq1 cq2)
        cases b with
        | true =>
          (generalize cq0 : Frm.ds = cy0; generalize cq1 : Tm.ds = cy1; generalize cq2 : opI = cy2; cbv <;> subst cq0 cq1 cq2)
          simp only [e1 rfl]
          (generalize cq0 : Frm.ds = cy0; generalize cq1 : Tm.ds = cy1; generalize cq2 : opI = cy2; cbv <;> subst cq0 cq1 cq2)
          refine callA.ext rfl (O.mono hc fun q ω4 hq4 => ?_)
          rcases hq4 with ⟨rfl, h4⟩ | ⟨rfl, h4⟩
          · (generalize cq0 : Frm.ds = cy0; generalize cq1 : Tm.ds = cy1; generalize cq2 : opI = cy2; cbv <;> subst cq0 cq1 cq2)
            simp only [not_t hp]
            (generalize cq0 : Frm.ds = cy0; generalize cq1 : Tm.ds = cy1; generalize cq2 : opI = cy2; cbv <;> subst cq0 cq1 cq2)
            exact ⟨_, by (generalize cq0 : Frm.ds = cy0; generalize cq1 : Tm.ds = cy1; generalize cq2 : opI = cy2; cbv <;> subst cq0 cq1 cq2), rfl, h4⟩
          · (generalize cq0 : Frm.ds = cy0; generalize cq1 : Tm.ds = cy1; generalize cq2 : opI = cy2; cbv <;> subst cq0 cq1 cq2)
            simp only [not_f hp]
            (generalize cq0 : Frm.ds = cy0; generalize cq1 : Tm.ds = cy1; generalize cq2 : opI = cy2; cbv <;> subst cq0 cq1 cq2)
            exact ⟨_, by (generalize cq0 : Frm.ds = cy0; generalize cq1 : Tm.ds = cy1; generalize cq2 : opI = cy2; cbv <;> subst cq0 cq1 cq2), rfl, h4⟩
        | false =>
          (generalize cq0 : Frm.ds = cy0; generalize cq1 : Tm.ds = cy1; generalize cq2 : opI = cy2; cbv <;> subst cq0 cq1 cq2)
          refine callA.ext rfl (O.mono hc fun q ω4 hq4 => ?_)
          rcases hq4 with ⟨rfl, h4⟩ | ⟨rfl, h4⟩
          · (generalize cq0 : Frm.ds = cy0; generalize cq1 : Tm.ds = cy1; generalize cq2 : opI = cy2; cbv <;> subst cq0 cq1 cq2)
            simp only [not_t hp]
            (generalize cq0 : Frm.ds = cy0; generalize cq1 : Tm.ds = cy1; generalize cq2 : opI = cy2; cbv <;> subst cq0 cq1 cq2)
            exact ⟨_, by (generalize cq0 : Frm.ds = cy0; generalize cq1 : Tm.ds = cy1; generalize cq2 : opI = cy2; cbv <;> subst cq0 cq1 cq2), rfl, h4⟩
          · (generalize cq0 : Frm.ds = cy0; generalize cq1 : Tm.ds = cy1; generalize cq2 : opI = cy2; cbv <;> subst cq0 cq1 cq2)
            simp only [not_f hp]
            (generalize cq0 : Frm.ds = cy0; generalize cq1 : Tm.ds = cy1; generalize cq2 : opI = cy2; cbv <;> subst cq0 cq1 cq2)
            exact ⟨_, by (generalize cq0 : Frm.ds = cy0; generalize cq1 : Tm.ds = cy1; generalize cq2 : opI = cy2; cbv <;> subst cq0 cq1 cq2), rfl, h4⟩
      · intro ω3 h3
        generalize hp : std = p
        (generalize cq0 : Frm.ds = cy0; generalize cq1 : Frm.freess = cy1; generalize cq2 : Sits = cy2; generalize cq3 : Tm.ds = cy3; generalize cq4 : opI = cy4; generalize cq5 : unb = cy5; cbv <;> subst cq0 cq1 cq2 cq3 cq4 cq5)
        refine ⟨by subst hp; simp [std, Frm.ds_len]; omega, (d ++ [.mk o' n' us' fs'], r, ω3), ⟨by rw [hes]; simp, h3⟩, by simp, ?_, rfl⟩
        generalize hd' : d ++ [Frm.mk o' n' us' fs'] = d'
        (generalize cq0 : Frm.ds = cy0; generalize cq1 : Tm.ds = cy1; generalize cq2 : opI = cy2; cbv <;> subst cq0 cq1 cq2)
        subst hp hd'
        simp [std, Frm.ds_len]
      · intro ω3 h3
        (generalize cq0 : Frm.ds = cy0; generalize cq1 : Frm.freess = cy1; generalize cq2 : Sits = cy2; generalize cq3 : Tm.ds = cy3; generalize cq4 : opI = cy4; generalize cq5 : unb = cy5; cbv <;> subst cq0 cq1 cq2 cq3 cq4 cq5)
        exact h3
end Go.Ly.Tr
end
section
namespace Go.Proofs
open Go.Shelf
def Tryz.laysM171_ren : Go.Shelf.Ren := ⟨fun | 171 => 87 | 243 => 132 | 246 => 162 | 283 => 185 | 284 => 186 | 285 => 187 | 286 => 188 | 129 => 175 | 317 => 195 | 318 => 196 | 319 => 197 | 320 => 198 | 337 => 200 | 338 => 201 | n => n, fun | 3 => 3 | 9 => 9 | 2 => 2 | 4 => 4 | 171 => 164 | 0 => 0 | 53 => 161 | 37 => 70 | 5 => 5 | 173 => 166 | 212 => 177 | 51 => 159 | 20 => 20 | 213 => 178 | 46 => 138 | 232 => 182 | 233 => 183 | n => n, fun | 17 => 0 | 18 => 1 | 19 => 2 | n => n⟩
theorem Tryz.laysM171 : Go.Proofs.LaysM.n171 Tryz.prog Tryz.laysM171_ren := {
  mixed := by kernel_rfl
  f129 := Tryz.func175.trans (congrArg some (by kernel_rfl))
  f171 := Tryz.func87.trans (congrArg some (by kernel_rfl))
  f243 := Tryz.func132.trans (congrArg some (by kernel_rfl))
  f246 := Tryz.func162.trans (congrArg some (by kernel_rfl))
  f283 := Tryz.func185.trans (congrArg some (by kernel_rfl))
  f284 := Tryz.func186.trans (congrArg some (by kernel_rfl))
  f285 := Tryz.func187.trans (congrArg some (by kernel_rfl))
  f286 := Tryz.func188.trans (congrArg some (by kernel_rfl))
  f317 := Tryz.func195.trans (congrArg some (by kernel_rfl))
  f318 := Tryz.func196.trans (congrArg some (by kernel_rfl))
  f319 := Tryz.func197.trans (congrArg some (by kernel_rfl))
  f320 := Tryz.func198.trans (congrArg some (by kernel_rfl))
  f337 := Tryz.func200.trans (congrArg some (by kernel_rfl))
  f338 := Tryz.func201.trans (congrArg some (by kernel_rfl))
  t0 := Tryz.underlying0
  a0 := Tryz.isAgg0
  z0 := Tryz.sizeOf0
  v0 := Tryz.zeroValue0
  t2 := Tryz.underlying2
  a2 := Tryz.isAgg2
  z2 := Tryz.sizeOf2
  v2 := Tryz.zeroValue2
  t3 := Tryz.underlying3
  a3 := Tryz.isAgg3
  z3 := Tryz.sizeOf3
  v3 := Tryz.zeroValue3
  t4 := Tryz.underlying4
  a4 := Tryz.isAgg4
  z4 := Tryz.sizeOf4
  v4 := Tryz.zeroValue4
  t5 := Tryz.underlying5
  a5 := Tryz.isAgg5
  z5 := Tryz.sizeOf5
  v5 := Tryz.zeroValue5
  t9 := Tryz.underlying9
  a9 := Tryz.isAgg9
  z9 := Tryz.sizeOf9
  v9 := Tryz.zeroValue9
  t20 := Tryz.underlying20
  a20 := Tryz.isAgg20
  z20 := Tryz.sizeOf20
  v20 := Tryz.zeroValue20
  t37 := Tryz.underlying70
  a37 := Tryz.isAgg70
  z37 := Tryz.sizeOf70
  v37 := Tryz.zeroValue70
  t46 := Tryz.underlying138
  a46 := Tryz.isAgg138
  z46 := Tryz.sizeOf138
  v46 := Tryz.zeroValue138
  t51 := Tryz.underlying159
  a51 := Tryz.isAgg159
  z51 := Tryz.sizeOf159
  v51 := Tryz.zeroValue159
  t53 := Tryz.underlying161
  a53 := Tryz.isAgg161
  z53 := Tryz.sizeOf161
  v53 := Tryz.zeroValue161
  t171 := Tryz.underlying164
  a171 := Tryz.isAgg164
  z171 := Tryz.sizeOf164
  v171 := Tryz.zeroValue164
  t173 := Tryz.underlying166
  a173 := Tryz.isAgg166
  z173 := Tryz.sizeOf166
  v173 := Tryz.zeroValue166
  t212 := Tryz.underlying177
  a212 := Tryz.isAgg177
  z212 := Tryz.sizeOf177
  v212 := Tryz.zeroValue177
  t213 := Tryz.underlying178
  a213 := Tryz.isAgg178
  z213 := Tryz.sizeOf178
  t232 := Tryz.underlying182
  a232 := Tryz.isAgg182
  z232 := Tryz.sizeOf182
  v232 := Tryz.zeroValue182
  t233 := Tryz.underlying183
  a233 := Tryz.isAgg183
  z233 := Tryz.sizeOf183
  v233 := Tryz.zeroValue183
  g17 := by kernel_rfl
  g18 := by kernel_rfl
  g19 := by kernel_rfl
  i0 := by kernel_rfl
  i2 := by kernel_rfl
  i3 := by kernel_rfl
  i4 := by kernel_rfl
  i5 := by kernel_rfl
  i9 := by kernel_rfl
  i20 := by kernel_rfl
  i37 := by kernel_rfl
  i46 := by kernel_rfl
  i51 := by kernel_rfl
  i53 := by kernel_rfl
  i171 := by kernel_rfl
  i173 := by kernel_rfl
  i212 := by kernel_rfl
  i232 := by kernel_rfl
  i233 := by kernel_rfl
  m17 := by kernel_rfl
  m18 := by kernel_rfl
  m19 := by kernel_rfl }
open Go.RowKit Go.Sort Go.Lib in
theorem Tryz.strconv_Itoa (n : Int) (h0 : -9223372036854775808 ≤ n) (h1 : n ≤ 9223372036854775807) (w : World) (htab : Lib.TabIs Tryz.prog w "internal/strconv.uint64pow10" .u64 Lib.pow10Tab) :
    Calls Tryz.prog 87 #[.int .i64 n] w fun e w' => e = .returned (.string ⟨(Lib.itoa n).toArray⟩) ∧ ∃ k os, w' = grow (w.drewN k) os := Any.strconv_Itoa Tryz.laysM171 n h0 h1 w htab
def Tryz.lays190_ren : Go.Shelf.Ren := ⟨fun | 190 => 108 | 125 => 147 | 258 => 146 | 128 => 174 | 129 => 175 | 302 => 165 | 303 => 166 | 304 => 167 | 305 => 168 | 306 => 169 | 307 => 170 | 308 => 171 | 309 => 172 | 310 => 173 | 333 => 189 | 329 => 190 | 330 => 191 | 334 => 192 | 335 => 193 | 336 => 177 | 344 => 199 | n => n, fun | 31 => 44 | 9 => 9 | 3 => 3 | 46 => 138 | 0 => 0 | 51 => 159 | 53 => 161 | 4 => 4 | 183 => 151 | 182 => 150 | 131 => 156 | 5 => 5 | 218 => 168 | 222 => 172 | 228 => 179 | 229 => 180 | n => n, fun | n => n⟩
theorem Tryz.lays190 : Go.Proofs.Lays.n190 Tryz.prog Tryz.lays190_ren := {
  mixed := by kernel_rfl
  f125 := Tryz.func147.trans (congrArg some (by kernel_rfl))
  f128 := Tryz.func174.trans (congrArg some (by kernel_rfl))
  f129 := Tryz.func175.trans (congrArg some (by kernel_rfl))
  f190 := Tryz.func108.trans (congrArg some (by kernel_rfl))
  f258 := Tryz.func146.trans (congrArg some (by kernel_rfl))
  f302 := Tryz.func165.trans (congrArg some (by kernel_rfl))
  f303 := Tryz.func166.trans (congrArg some (by kernel_rfl))
  f304 := Tryz.func167.trans (congrArg some (by kernel_rfl))
  f305 := Tryz.func168.trans (congrArg some (by kernel_rfl))
  f306 := Tryz.func169.trans (congrArg some (by kernel_rfl))
  f307 := Tryz.func170.trans (congrArg some (by kernel_rfl))
  f308 := Tryz.func171.trans (congrArg some (by kernel_rfl))
  f309 := Tryz.func172.trans (congrArg some (by kernel_rfl))
  f310 := Tryz.func173.trans (congrArg some (by kernel_rfl))
  f329 := Tryz.func190.trans (congrArg some (by kernel_rfl))
  f330 := Tryz.func191.trans (congrArg some (by kernel_rfl))
  f333 := Tryz.func189.trans (congrArg some (by kernel_rfl))
  f334 := Tryz.func192.trans (congrArg some (by kernel_rfl))
  f335 := Tryz.func193.trans (congrArg some (by kernel_rfl))
  f336 := Tryz.func177.trans (congrArg some (by kernel_rfl))
  f344 := Tryz.func199.trans (congrArg some (by kernel_rfl))
  t0 := Tryz.underlying0
  a0 := Tryz.isAgg0
  z0 := Tryz.sizeOf0
  v0 := Tryz.zeroValue0
  t3 := Tryz.underlying3
  a3 := Tryz.isAgg3
  z3 := Tryz.sizeOf3
  v3 := Tryz.zeroValue3
  t4 := Tryz.underlying4
  a4 := Tryz.isAgg4
  z4 := Tryz.sizeOf4
  v4 := Tryz.zeroValue4
  t5 := Tryz.underlying5
  a5 := Tryz.isAgg5
  z5 := Tryz.sizeOf5
  v5 := Tryz.zeroValue5
  t9 := Tryz.underlying9
  a9 := Tryz.isAgg9
  z9 := Tryz.sizeOf9
  v9 := Tryz.zeroValue9
  t31 := Tryz.underlying44
  a31 := Tryz.isAgg44
  z31 := Tryz.sizeOf44
  v31 := Tryz.zeroValue44
  t46 := Tryz.underlying138
  a46 := Tryz.isAgg138
  z46 := Tryz.sizeOf138
  v46 := Tryz.zeroValue138
  t51 := Tryz.underlying159
  a51 := Tryz.isAgg159
  z51 := Tryz.sizeOf159
  v51 := Tryz.zeroValue159
  t53 := Tryz.underlying161
  a53 := Tryz.isAgg161
  z53 := Tryz.sizeOf161
  v53 := Tryz.zeroValue161
  t131 := Tryz.underlying156
  a131 := Tryz.isAgg156
  z131 := Tryz.sizeOf156
  v131 := Tryz.zeroValue156
  t182 := Tryz.underlying150
  a182 := Tryz.isAgg150
  z182 := Tryz.sizeOf150
  v182 := Tryz.zeroValue150
  t183 := Tryz.underlying151
  a183 := Tryz.isAgg151
  z183 := Tryz.sizeOf151
  v183 := Tryz.zeroValue151
  t218 := Tryz.underlying168
  a218 := Tryz.isAgg168
  z218 := Tryz.sizeOf168
  v218 := Tryz.zeroValue168
  t222 := Tryz.underlying172
  a222 := Tryz.isAgg172
  z222 := Tryz.sizeOf172
  v222 := Tryz.zeroValue172
  t228 := Tryz.underlying179
  a228 := Tryz.isAgg179
  z228 := Tryz.sizeOf179
  v228 := Tryz.zeroValue179
  t229 := Tryz.underlying180
  a229 := Tryz.isAgg180
  z229 := Tryz.sizeOf180
  v229 := Tryz.zeroValue180 }
open Go.Sort Go.RowKit in
theorem Tryz.slices_Sort_string (blk off cap : Nat) (ss : List (List UInt8)) (w : World) (hH : Holds encStr w blk off ss.toArray) (hblk : blk < w.heap.size) (hsz : ss.length < 4611686018427387904) :
    Calls Tryz.prog 108 #[.slice (some ⟨blk, off, none⟩) ss.length cap] w fun e w' =>
      e = .returned (.tuple #[]) ∧ ∃ n os, w' = grow (putRow encStr (Sort.ahead w n) blk off (ss.mergeSort fun x y => decide (x ≤ y)).toArray) os := Any.slices_Sort_string Tryz.lays190 blk off cap ss w hH hblk hsz
open Go.RowKit Go.Sort in
theorem Tryz.slices_Sort_string_none (p : Option Addr) (cap : Nat) (w : World) :
    Calls Tryz.prog 108 #[.slice p 0 cap] w fun e w' => e = .returned (.tuple #[]) ∧ w' = w := Any.slices_Sort_string_none Tryz.lays190 p cap w
end Go.Proofs
end
section
set_option maxRecDepth 10000
namespace Go.Ly.Tr
def af13 : AF := ⟨1, 26, [.tmp 2], true, .seq (.rg false [ ⟨some 2, .mv (.c (.d .top (.bool false))), none⟩]) (.seq (.rg false [ ⟨some 3, .mv (.c (.d .top (.int .i64 0))), none⟩]) (.seq (.seq (.rg false [ ⟨some 4, .mv (.c (.d .top (.int .i64 0))), none⟩]) (.block 0 (.loop (.seq (.seq (.rg false [ ⟨some 5, .mv (.s 4), none⟩,  ⟨some 6, .mv (.s 0), none⟩,  ⟨some 7, .len false (.s 6), none⟩,  ⟨some 8, .bin .lss 0 (.s 5) (.s 7), none⟩,  ⟨some 9, .mv (.s 8), none⟩,  ⟨some 10, .mv (.s 3), some (9, true)⟩,  ⟨some 11, .bin .leq 0 (.s 10) (.c (.d .top (.int .i64 500))), some (9, true)⟩,  ⟨some 12, .pick (.s 9) (.s 11) (.c (.d .top (.bool false))), none⟩]) (.cond (.s 12) .skip (.exit 0))) (.seq (.block 1 (.rg false [ ⟨some 15, .mv (.s 3), none⟩,  ⟨some 16, .mv (.s 0), none⟩,  ⟨some 17, .mv (.s 4), none⟩,  ⟨some 18, .ia (.s 16) (.s 17) 4, none⟩,  ⟨some 19, .ld (.s 18) 4 true, none⟩,  ⟨some 20, .mv (.s 3), none⟩,  ⟨some 21, .bin .sub 0 (.c (.d .top (.int .i64 500))) (.s 20), none⟩,  ⟨some 22, .call false (.c (.fn 47 [] [])) [.s 19, .s 21], none⟩,  ⟨some 23, .bin .add 0 (.s 15) (.s 22), none⟩,  ⟨some 3, .mv (.s 23), none⟩])) (.rg false [ ⟨some 13, .mv (.s 4), none⟩,  ⟨some 14, .bin .add 0 (.s 13) (.c (.d .top (.int .i64 1))), none⟩,  ⟨some 4, .mv (.s 14), none⟩])))))) (.seq (.rg false [ ⟨some 24, .mv (.s 3), none⟩,  ⟨some 25, .bin .leq 0 (.s 24) (.c (.d .top (.int .i64 500))), none⟩,  ⟨some 2, .mv (.s 25), none⟩]) .ret)))⟩
theorem has13 : Has E 13 af13 := ⟨Go.Proofs.Tryz.f13, [], true, Go.Proofs.Tryz.func13, by decide, by kernel_rfl⟩
def af52 : AF := ⟨1, 23, [.tmp 2], true, .seq (.rg false [ ⟨some 2, .mv (.c (.d .top (.str []))), none⟩]) (.scope (.seq (.rg false [ ⟨some 3, .mv (.c (.d .top (.int .i64 1))), none⟩]) (.seq .skip (.block 0 (.loop (.block 1 (.seq (.rg false [ ⟨some 7, .mv (.s 3), none⟩,  ⟨some 8, .call false (.c (.fn 87 [] [])) [.s 7], none⟩,  ⟨some 9, .bin .add 1 (.c (.d .top (.str [120]))) (.s 8), none⟩,  ⟨some 4, .mv (.s 9), none⟩]) (.seq (.seq (.rg false [ ⟨some 10, .mv (.s 0), none⟩,  ⟨some 11, .len false (.s 10), none⟩,  ⟨some 12, .mv (.c (.d .top (.int .i64 0))), none⟩]) (.block 2 (.loop (.seq (.rg false [ ⟨some 13, .bin .lss 0 (.s 12) (.s 11), none⟩]) (.seq (.cond (.s 13) .skip (.exit 2)) (.seq (.block 3 (.seq (.rg false [ ⟨some 14, .ia (.s 10) (.s 12) 1, none⟩,  ⟨some 15, .ld (.s 14) 1 false, none⟩,  ⟨some 6, .mv (.s 15), none⟩]) (.seq (.rg false [ ⟨some 16, .mv (.s 6), none⟩,  ⟨some 17, .mv (.s 4), none⟩,  ⟨some 18, .bin .eql 1 (.s 16) (.s 17), none⟩]) (.cond (.s 18) (.seq (.rg false [ ⟨some 19, .mv (.s 3), none⟩,  ⟨some 20, .bin .add 0 (.s 19) (.c (.d .top (.int .i64 1))), none⟩,  ⟨some 3, .mv (.s 20), none⟩]) (.exit 1)) .skip)))) (.rg false [ ⟨some 21, .bin .add 0 (.s 12) (.c (.d .top (.int .i64 1))), none⟩,  ⟨some 12, .mv (.s 21), none⟩]))))))) (.seq (.rg false [ ⟨some 22, .mv (.s 4), none⟩,  ⟨some 2, .mv (.s 22), none⟩]) .ret)))))))))⟩
theorem has52 : Has E 52 af52 := ⟨Go.Proofs.Tryz.f52, [], true, Go.Proofs.Tryz.func52, by decide, by kernel_rfl⟩
def af82 : AF := ⟨2, 39, [.tmp 4], true, .seq (.rg false [ ⟨some 4, .mv (.c (.d .top (.int .i64 0))), none⟩]) (.seq (.rg false [ ⟨some 5, .mv (.c (.d .top (.int .i64 0))), none⟩]) (.seq (.seq (.rg false [ ⟨some 6, .mv (.c (.d .top (.int .i64 0))), none⟩]) (.block 0 (.loop (.seq (.seq (.rg false [ ⟨some 7, .mv (.s 6), none⟩,  ⟨some 8, .mv (.s 0), none⟩,  ⟨some 9, .len false (.s 8), none⟩,  ⟨some 10, .bin .lss 0 (.s 7) (.s 9), none⟩,  ⟨some 11, .mv (.s 10), none⟩,  ⟨some 12, .mv (.s 5), some (11, true)⟩,  ⟨some 13, .mv (.s 1), some (11, true)⟩,  ⟨some 14, .bin .leq 0 (.s 12) (.s 13), some (11, true)⟩,  ⟨some 15, .pick (.s 11) (.s 14) (.c (.d .top (.bool false))), none⟩]) (.cond (.s 15) .skip (.exit 0))) (.seq (.block 1 (.rg true [ ⟨some 18, .mv (.s 5), none⟩,  ⟨some 19, .mv (.s 0), none⟩,  ⟨some 20, .mv (.s 6), none⟩,  ⟨some 21, .ia (.s 19) (.s 20) 3, none⟩,  ⟨some 22, .fa (.s 21) 1, none⟩,  ⟨some 23, .ld (.s 22) 1 false, none⟩,  ⟨some 24, .len true (.s 23), none⟩,  ⟨some 25, .bin .quo 0 (.s 24) (.c (.d .top (.int .i64 40))), none⟩,  ⟨some 26, .bin .add 0 (.c (.d .top (.int .i64 1))) (.s 25), none⟩,  ⟨some 27, .mv (.s 0), none⟩,  ⟨some 28, .mv (.s 6), none⟩,  ⟨some 29, .ia (.s 27) (.s 28) 3, none⟩,  ⟨some 30, .fa (.s 29) 2, none⟩,  ⟨some 31, .ld (.s 30) 1 false, none⟩,  ⟨some 32, .mv (.s 1), none⟩,  ⟨some 33, .mv (.s 5), none⟩,  ⟨some 34, .bin .sub 0 (.s 32) (.s 33), none⟩,  ⟨some 35, .call false (.c (.fn 82 [] [])) [.s 31, .s 34], none⟩,  ⟨some 36, .bin .add 0 (.s 26) (.s 35), none⟩,  ⟨some 37, .bin .add 0 (.s 18) (.s 36), none⟩,  ⟨some 5, .mv (.s 37), none⟩])) (.rg false [ ⟨some 16, .mv (.s 6), none⟩,  ⟨some 17, .bin .add 0 (.s 16) (.c (.d .top (.int .i64 1))), none⟩,  ⟨some 6, .mv (.s 17), none⟩])))))) (.seq (.rg false [ ⟨some 38, .mv (.s 5), none⟩,  ⟨some 4, .mv (.s 38), none⟩]) .ret)))⟩
theorem has82 : Has E 82 af82 := ⟨Go.Proofs.Tryz.f82, [], true, Go.Proofs.Tryz.func82, by decide, by kernel_rfl⟩
def afu66 : AF := ⟨1, 24, [.tmp 2], true, .seq (.rg false [ ⟨some 2, .nil false 1, none⟩]) (.seq (.rg false [ ⟨some 6, .mkm, none⟩,  ⟨some 3, .alloc [.nm], none⟩,  ⟨none, .st (.s 3) (.s 6) 1, none⟩]) (.seq (.rg false [ ⟨some 4, .allocu 1, none⟩]) (.seq (.seq (.rg false [ ⟨some 7, .mv (.s 0), none⟩]) (.block 0 (.rf (.s 7) [8] (.rg false [ ⟨some 5, .mv (.s 8), none⟩]) (.block 1 (.seq (.rg false [ ⟨some 9, .ld (.s 3) 1 false, none⟩,  ⟨some 10, .mv (.s 5), none⟩,  ⟨some 11, .mlk (.str []) (.s 9) (.s 10) (.int .i64 0) false, none⟩,  ⟨some 12, .bin .add 0 (.s 11) (.c (.d .top (.int .i64 1))), none⟩,  ⟨none, .mup (.str []) (.s 9) (.s 10) (.s 12), none⟩]) (.seq (.rg false [ ⟨some 13, .ld (.s 3) 1 false, none⟩,  ⟨some 14, .mv (.s 5), none⟩,  ⟨some 15, .mlk (.str []) (.s 13) (.s 14) (.int .i64 0) false, none⟩,  ⟨some 16, .bin .eql 0 (.s 15) (.c (.d .top (.int .i64 1))), none⟩]) (.cond (.s 16) (.rg false [ ⟨some 17, .ld (.s 4) 1 false, none⟩,  ⟨some 18, .mv (.s 5), none⟩,  ⟨some 19, .bslice 0 1 [.s 18], none⟩,  ⟨some 20, .app (.s 17) (.s 19) 1 16, none⟩,  ⟨none, .st (.s 4) (.s 20) 1, none⟩]) .skip))))))) (.seq (.rg false [ ⟨some 21, .ld (.s 4) 1 false, none⟩,  ⟨some 22, .call false (.c (.fn 108 [] [])) [.s 21], none⟩]) (.seq (.rg false [ ⟨some 23, .ld (.s 4) 1 false, none⟩,  ⟨some 2, .mv (.s 23), none⟩]) .ret)))))⟩
theorem hasu66 : Has E 66 afu66 := ⟨Go.Proofs.Tryz.f66, [4], true, Go.Proofs.Tryz.func66, by decide, by kernel_rfl⟩
def af87 : AF := ⟨1, 5, [.tmp 2], true, .seq (.rg false [ ⟨some 2, .mv (.c (.d .top (.str []))), none⟩]) (.seq (.rg false [ ⟨some 3, .mv (.s 0), none⟩,  ⟨some 4, .call false (.c (.fn 132 [] [])) [.s 3], none⟩,  ⟨some 2, .mv (.s 4), none⟩]) .ret)⟩
theorem has87 : Has E 87 af87 := ⟨Go.Proofs.Tryz.f87, [], true, Go.Proofs.Tryz.func87, by decide, by kernel_rfl⟩
def af194 : AF := ⟨1, 6, [.tmp 2], true, .seq (.rg false [ ⟨some 2, .mv (.c (.d .top (.bool false))), none⟩]) (.seq (.rg false [ ⟨some 3, .mv (.s 0), none⟩,  ⟨some 4, .mv (.s 0), none⟩,  ⟨some 5, .bin .neq 0 (.s 3) (.s 4), none⟩,  ⟨some 2, .mv (.s 5), none⟩]) .ret)⟩
theorem has194 : Has E 194 af194 := ⟨Go.Proofs.Tryz.f194, [], true, Go.Proofs.Tryz.func194, by decide, by kernel_rfl⟩
end Go.Ly.Tr
end
