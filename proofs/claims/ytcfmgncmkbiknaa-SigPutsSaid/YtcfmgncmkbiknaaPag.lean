/- Part 7 of 10 of the proof. -/
import Derived.Test.YtcfmgncmkbiknaaProg
import Derived.KernelRfl
import Derived.Test.YtcfmgncmkbiknaaPaf
import Derived.Test.YtcfmgncmkbiknaaPae
section
/- The functions' code, as the memory-free layer reads it (2 of 2). -/
set_option maxRecDepth 100000
namespace Go.Abs
open Go Go.Proofs
/-- madrigal/sig.shaped -/
def ir96 : IR := (.seq (.region [⟨.none, (.some 1), (.boxi (.t 0))⟩, ⟨.none, (.some 2), (.set (.c (.bool .false)) .false)⟩] (.some [1])) (.seq (.block 0 (.seq (.seq (.region [⟨.none, (.some 4), (.fieldAddr 1 .none (.t 1))⟩, ⟨.none, (.some 5), (.load .none (.t 4))⟩, ⟨.none, (.some 6), (.bin .lss (.t 5) (.c (.int .i64 0)))⟩, ⟨.none, (.some 3), (.set (.t 6) .false)⟩] (.some [1, 3])) (.cond (.t 3) .skip (.seq (.region [⟨.none, (.some 7), (.fieldAddr 0 .none (.t 1))⟩, ⟨.none, (.some 8), (.load .none (.t 7))⟩, ⟨.none, (.some 9), (.bin .eql (.t 8) (.c (.int .i64 1)))⟩, ⟨.none, (.some 10), (.set (.t 9) .false)⟩, ⟨(.some (10, .true)), (.some 11), (.fieldAddr 2 .none (.t 1))⟩, ⟨(.some (10, .true)), (.some 12), (.load .none (.t 11))⟩, ⟨(.some (10, .true)), (.some 13), (.len 1 (.t 12))⟩, ⟨(.some (10, .true)), (.some 14), (.bin .gtr (.t 13) (.c (.int .i64 0)))⟩, ⟨.none, (.some 15), (.pick (.t 10) (.t 14) (.c (.bool .false)))⟩, ⟨.none, (.some 3), (.set (.t 15) .false)⟩] (.some [1, 3])) (.cond (.t 3) .skip (.seq (.region [⟨.none, (.some 16), (.fieldAddr 0 .none (.t 1))⟩, ⟨.none, (.some 17), (.load .none (.t 16))⟩, ⟨.none, (.some 18), (.bin .neq (.t 17) (.c (.int .i64 1)))⟩, ⟨.none, (.some 19), (.set (.t 18) .false)⟩, ⟨(.some (19, .true)), (.some 20), (.fieldAddr 0 .none (.t 1))⟩, ⟨(.some (19, .true)), (.some 21), (.load .none (.t 20))⟩, ⟨(.some (19, .true)), (.some 22), (.bin .neq (.t 21) (.c (.int .i64 2)))⟩, ⟨.none, (.some 23), (.pick (.t 19) (.t 22) (.c (.bool .false)))⟩, ⟨.none, (.some 3), (.set (.t 23) .false)⟩] (.some [1, 3])) (.cond (.t 3) .skip (.region [⟨.none, (.some 24), (.fieldAddr 2 .none (.t 1))⟩, ⟨.none, (.some 25), (.load .none (.t 24))⟩, ⟨.none, (.some 26), (.len 1 (.t 25))⟩, ⟨.none, (.some 27), (.bin .gtr (.t 26) (.c (.int .i64 8)))⟩, ⟨.none, (.some 3), (.set (.t 27) .false)⟩] (.some [1, 3])))))))) (.cond (.t 3) (.seq (.region [⟨.none, (.some 2), (.set (.c (.bool .false)) .false)⟩] (.some [2])) .ret) .skip))) (.seq (.region [⟨.none, (.some 28), (.fieldAddr 2 .none (.t 1))⟩, ⟨.none, (.some 29), (.load .none (.t 28))⟩, ⟨.none, (.some 30), (.call (.c (.fn (.func 92) [] [])) [(.t 29), (.c (.fn (.func 109) [] []))] .none)⟩, ⟨.none, (.some 31), (.un .not (.t 30))⟩, ⟨.none, (.some 2), (.set (.t 31) .false)⟩] (.some [2])) .ret)))
def fi96 : FunI := ⟨32, ir96, [(.t 2)]⟩
theorem ok96 : FunOk Try.prog 96 fi96 := ⟨Try.call96, Try.f96, _, [(0, 0, 1)], [(0, [1]), (1, [1, 3]), (2, [1, 3]), (3, [1, 3]), (4, [1, 3]), (5, [2]), (6, [2])], [], Try.func96, rfl, Try.ntmps96, by kernel_rfl, by kernel_rfl⟩
/-- cmp.isNaN[int] -/
def ir97 : IR := (.seq (.region [⟨.none, (.some 2), (.set (.c (.bool .false)) .false)⟩] (.some [0])) (.seq (.region [⟨.none, (.some 3), (.set (.t 0) .false)⟩, ⟨.none, (.some 4), (.set (.t 0) .false)⟩, ⟨.none, (.some 5), (.bin .neq (.t 3) (.t 4))⟩, ⟨.none, (.some 2), (.set (.t 5) .false)⟩] (.some [2])) .ret))
def fi97 : FunI := ⟨6, ir97, [(.t 2)]⟩
theorem ok97 : FunOk Try.prog 97 fi97 := ⟨Try.call97, Try.f97, _, [], [(0, [0]), (1, [2])], [], Try.func97, rfl, Try.ntmps97, by kernel_rfl, by kernel_rfl⟩
/-- slices.IndexFunc[[]int,int] -/
def ir98 : IR := (.seq (.region [⟨.none, (.some 4), (.set (.c (.int .i64 0)) .false)⟩] (.some [0, 1])) (.seq (.seq (.region [⟨.none, (.some 6), (.set (.t 0) .false)⟩, ⟨.none, (.some 7), (.len 1 (.t 6))⟩, ⟨.none, (.some 8), (.set (.c (.int .i64 0)) .false)⟩] (.some [0, 1, 7, 8])) (.block 0 (.loop (.seq (.region [⟨.none, (.some 9), (.bin .lss (.t 8) (.t 7))⟩] (.some [0, 1, 7, 8, 9])) (.seq (.cond (.t 9) .skip (.exit 0)) (.seq (.block 1 (.seq (.region [⟨.none, (.some 10), (.set (.t 8) .false)⟩, ⟨.none, (.some 5), (.set (.t 10) .false)⟩] (.some [0, 1, 5, 7, 8])) (.seq (.region [⟨.none, (.some 11), (.set (.t 1) .false)⟩, ⟨.none, (.some 12), (.set (.t 0) .false)⟩, ⟨.none, (.some 13), (.set (.t 5) .false)⟩, ⟨.none, (.some 14), (.indexAddr 1 (.t 12) (.t 13))⟩, ⟨.none, (.some 15), (.load .none (.t 14))⟩, ⟨.none, (.some 16), (.call (.t 11) [(.t 15)] (.some 1999))⟩] (.some [0, 1, 5, 7, 8, 16])) (.cond (.t 16) (.seq (.region [⟨.none, (.some 17), (.set (.t 5) .false)⟩, ⟨.none, (.some 4), (.set (.t 17) .false)⟩] (.some [4])) .ret) .skip)))) (.region [⟨.none, (.some 18), (.bin .add (.t 8) (.c (.int .i64 1)))⟩, ⟨.none, (.some 8), (.set (.t 18) .false)⟩] (.some [0, 1, 7, 8])))))))) (.seq (.region [⟨.none, (.some 4), (.set (.c (.int .i64 (-1))) .false)⟩] (.some [4])) .ret)))
def fi98 : FunI := ⟨19, ir98, [(.t 4)]⟩
theorem ok98 : FunOk Try.prog 98 fi98 := ⟨Try.call98, Try.f98, _, [(4, 5, 2000)], [(0, [0, 1]), (1, [0, 1, 7, 8]), (2, [0, 1, 7, 8, 9]), (3, [0, 1, 5, 7, 8]), (4, [0, 1, 5, 7, 8, 16]), (5, [4]), (6, [0, 1, 7, 8]), (7, [4])], [], Try.func98, rfl, Try.ntmps98, by kernel_rfl, by kernel_rfl⟩
/-- math/bits.Mul -/
def ir99 : IR := (.seq (.region [⟨.none, (.some 4), (.set (.c (.int .u64 0)) .false)⟩, ⟨.none, (.some 5), (.set (.c (.int .u64 0)) .false)⟩] (.some [0, 1])) (.seq (.cond (.c (.bool .false)) (.seq (.region [⟨.none, (.some 11), (.set (.t 0) .false)⟩, ⟨.none, (.some 12), (.convInt .u32 (.t 11))⟩, ⟨.none, (.some 13), (.set (.t 1) .false)⟩, ⟨.none, (.some 14), (.convInt .u32 (.t 13))⟩, ⟨.none, (.some 15), (.call (.c (.fn (.func 110) [] [])) [(.t 12), (.t 14)] .none)⟩, ⟨.none, (.some 10), (.set (.t 15) .false)⟩, ⟨.none, (.some 16), (.extract (.t 10) 0)⟩, ⟨.none, (.some 17), (.extract (.t 10) 1)⟩, ⟨.none, (.some 6), (.set (.t 16) .false)⟩, ⟨.none, (.some 7), (.set (.t 17) .false)⟩] (.some [6, 7])) (.seq (.region [⟨.none, (.some 18), (.set (.t 6) .false)⟩, ⟨.none, (.some 19), (.convInt .u64 (.t 18))⟩, ⟨.none, (.some 20), (.set (.t 7) .false)⟩, ⟨.none, (.some 21), (.convInt .u64 (.t 20))⟩, ⟨.none, (.some 4), (.set (.t 19) .false)⟩, ⟨.none, (.some 5), (.set (.t 21) .false)⟩] (.some [4, 5])) .ret)) .skip) (.seq (.region [⟨.none, (.some 23), (.set (.t 0) .false)⟩, ⟨.none, (.some 24), (.set (.t 1) .false)⟩, ⟨.none, (.some 25), (.call (.c (.fn (.func 111) [] [])) [(.t 23), (.t 24)] .none)⟩, ⟨.none, (.some 22), (.set (.t 25) .false)⟩, ⟨.none, (.some 26), (.extract (.t 22) 0)⟩, ⟨.none, (.some 27), (.extract (.t 22) 1)⟩, ⟨.none, (.some 8), (.set (.t 26) .false)⟩, ⟨.none, (.some 9), (.set (.t 27) .false)⟩] (.some [8, 9])) (.seq (.region [⟨.none, (.some 28), (.set (.t 8) .false)⟩, ⟨.none, (.some 29), (.set (.t 9) .false)⟩, ⟨.none, (.some 4), (.set (.t 28) .false)⟩, ⟨.none, (.some 5), (.set (.t 29) .false)⟩] (.some [4, 5])) .ret))))
def fi99 : FunI := ⟨30, ir99, [(.t 4), (.t 5)]⟩
theorem ok99 : FunOk Try.prog 99 fi99 := ⟨Try.call99, Try.f99, _, [], [(0, [0, 1]), (1, [6, 7]), (2, [4, 5]), (3, [8, 9]), (4, [4, 5])], [], Try.func99, rfl, Try.ntmps99, by kernel_rfl, by kernel_rfl⟩
/-- madrigal/sig.copied$1 -/
def ir100 : IR := (.seq (.region [⟨.none, (.some 2), (.alloc (.agg [(.int .i64 0), (.int .i64 0), .nils]))⟩] (.some [0, 2])) (.seq (.region [⟨.none, (.some 3), (.set (.t 0) .false)⟩, ⟨.none, (.some 4), (.build (.agg [(.int .i64 0), (.int .i64 0), .nils]) [(0, (1, (.c (.int .i64 1)))), (1, (1, (.t 3)))])⟩, ⟨.none, .none, (.store 3 (.t 2) (.t 4))⟩] (.some [2])) .ret))
def fi100 : FunI := ⟨5, ir100, [(.c 2 (.some 3))]⟩
theorem ok100 : FunOk Try.prog 100 fi100 := ⟨Try.call100, Try.f100, _, [], [(0, [0, 2]), (1, [2])], [], Try.func100, rfl, Try.ntmps100, by kernel_rfl, by kernel_rfl⟩
/-- madrigal/sig.walk -/
def ir101 : IR := (.seq (.region [⟨.none, (.some 2), (.boxi (.t 0))⟩] (.some [1, 2])) (.seq (.region [⟨.none, (.some 6), (.set (.t 1) .false)⟩, ⟨.none, (.some 7), (.load (.some 3) (.t 2))⟩, ⟨.none, (.some 8), (.call (.t 6) [(.t 7)] (.some 1999))⟩] (.some [1, 2])) (.seq (.region [⟨.none, (.some 9), (.fieldAddr 2 .none (.t 2))⟩, ⟨.none, (.some 10), (.load .none (.t 9))⟩, ⟨.none, (.some 11), (.len 1 (.t 10))⟩, ⟨.none, (.some 12), (.set (.c (.int .i64 0)) .false)⟩] (.some [1, 10, 11, 12])) (.block 0 (.loop (.seq (.region [⟨.none, (.some 13), (.bin .lss (.t 12) (.t 11))⟩] (.some [1, 10, 11, 12, 13])) (.seq (.cond (.t 13) .skip (.exit 0)) (.seq (.block 1 (.seq (.region [⟨.none, (.some 14), (.indexAddr 3 (.t 10) (.t 12))⟩, ⟨.none, (.some 15), (.load (.some 3) (.t 14))⟩, ⟨.none, (.some 5), (.boxs 3 (.t 15))⟩] (.some [1, 5, 10, 11, 12])) (.region [⟨.none, (.some 16), (.load (.some 3) (.t 5))⟩, ⟨.none, (.some 17), (.set (.t 1) .false)⟩, ⟨.none, (.some 18), (.call (.c (.fn (.func 101) [] [])) [(.t 16), (.t 17)] (.some 1999))⟩] (.some [1, 10, 11, 12])))) (.region [⟨.none, (.some 19), (.bin .add (.t 12) (.c (.int .i64 1)))⟩, ⟨.none, (.some 12), (.set (.t 19) .false)⟩] (.some [1, 10, 11, 12]))))))))))
def fi101 : FunI := ⟨20, ir101, []⟩
theorem ok101 : FunOk Try.prog 101 fi101 := ⟨Try.call101, Try.f101, _, [(0, 0, 1), (1, 2, 2000), (4, 2, 1000), (5, 2, 2000)], [(0, [1, 2]), (1, [1, 2]), (2, [1, 10, 11, 12]), (3, [1, 10, 11, 12, 13]), (4, [1, 5, 10, 11, 12]), (5, [1, 10, 11, 12]), (6, [1, 10, 11, 12])], [], Try.func101, rfl, Try.ntmps101, by kernel_rfl, by kernel_rfl⟩
/-- madrigal/sig.vars$1 -/
def ir102 : IR := (.seq (.region [⟨.none, (.some 3), (.boxi (.t 0))⟩] (.some [1, 2, 3])) (.seq (.region [⟨.none, (.some 4), (.fieldAddr 0 .none (.t 3))⟩, ⟨.none, (.some 5), (.load .none (.t 4))⟩, ⟨.none, (.some 6), (.bin .eql (.t 5) (.c (.int .i64 1)))⟩, ⟨.none, (.some 7), (.set (.t 6) .false)⟩, ⟨(.some (7, .true)), (.some 8), (.load .none (.t 1))⟩, ⟨(.some (7, .true)), (.some 9), (.fieldAddr 1 .none (.t 3))⟩, ⟨(.some (7, .true)), (.some 10), (.load .none (.t 9))⟩, ⟨(.some (7, .true)), (.some 11), (.lookup 0 (.bool .false) (.t 8) (.t 10) .false)⟩, ⟨(.some (7, .true)), (.some 12), (.un .not (.t 11))⟩, ⟨.none, (.some 13), (.pick (.t 7) (.t 12) (.c (.bool .false)))⟩] (.some [1, 2, 3, 13])) (.cond (.t 13) (.seq (.region [⟨.none, (.some 14), (.load .none (.t 1))⟩, ⟨.none, (.some 15), (.fieldAddr 1 .none (.t 3))⟩, ⟨.none, (.some 16), (.load .none (.t 15))⟩, ⟨.none, .none, (.mapset 0 (.t 14) (.t 16) (.c (.bool .true)))⟩] (.some [2, 3])) (.region [⟨.none, (.some 17), (.takeCell (.t 2))⟩, ⟨.none, (.some 18), (.fieldAddr 1 .none (.t 3))⟩, ⟨.none, (.some 19), (.load .none (.t 18))⟩, ⟨.none, (.some 20), (.buildSlice 0 1 (.int .i64 0) 1 [(0, (.t 19))])⟩, ⟨.none, (.some 21), (.append 1 8 (.t 17) (.t 20))⟩, ⟨.none, .none, (.putCell (.t 2) 21)⟩] (.some []))) .skip)))
def fi102 : FunI := ⟨22, ir102, []⟩
theorem ok102 : FunOk Try.prog 102 fi102 := ⟨Try.call102, Try.f102, _, [(0, 0, 1), (3, 0, 1), (3, 5, 1)], [(0, [1, 2, 3]), (1, [1, 2, 3, 13]), (2, [2, 3]), (3, [])], [], Try.func102, rfl, Try.ntmps102, by kernel_rfl, by kernel_rfl⟩
/-- strings.IndexByte -/
def ir103 : IR := (.seq (.region [⟨.none, (.some 4), (.set (.c (.int .i64 0)) .false)⟩] (.some [0, 1])) (.seq (.region [⟨.none, (.some 5), (.set (.t 0) .false)⟩, ⟨.none, (.some 6), (.set (.t 1) .false)⟩, ⟨.none, (.some 7), (.call (.c (.fn (.func 112) [] [])) [(.t 5), (.t 6)] .none)⟩, ⟨.none, (.some 4), (.set (.t 7) .false)⟩] (.some [4])) .ret))
def fi103 : FunI := ⟨8, ir103, [(.t 4)]⟩
theorem ok103 : FunOk Try.prog 103 fi103 := ⟨Try.call103, Try.f103, _, [], [(0, [0, 1]), (1, [4])], [], Try.func103, rfl, Try.ntmps103, by kernel_rfl, by kernel_rfl⟩
/-- strings.Index -/
def ir104 : IR := (.seq (.region [⟨.none, (.some 4), (.set (.c (.int .i64 0)) .false)⟩] (.some [0, 1])) (.seq (.region [⟨.none, (.some 5), (.set (.t 0) .false)⟩, ⟨.none, (.some 6), (.set (.t 1) .false)⟩, ⟨.none, (.some 7), (.call (.c (.fn (.func 113) [] [])) [(.t 5), (.t 6)] .none)⟩, ⟨.none, (.some 4), (.set (.t 7) .false)⟩] (.some [4])) .ret))
def fi104 : FunI := ⟨8, ir104, [(.t 4)]⟩
theorem ok104 : FunOk Try.prog 104 fi104 := ⟨Try.call104, Try.f104, _, [], [(0, [0, 1]), (1, [4])], [], Try.func104, rfl, Try.ntmps104, by kernel_rfl, by kernel_rfl⟩
/-- madrigal/sig.good$1 -/
def ir105 : IR := (.seq (.region [⟨.none, (.some 3), (.set (.c (.bool .false)) .false)⟩] (.some [0, 1])) (.seq (.region [⟨.none, (.some 4), (.set (.t 0) .false)⟩, ⟨.none, (.some 5), (.bin .geq (.t 4) (.c (.int .i64 0)))⟩, ⟨.none, (.some 6), (.set (.t 5) .false)⟩, ⟨(.some (6, .true)), (.some 7), (.set (.t 0) .false)⟩, ⟨(.some (6, .true)), (.some 8), (.load .none (.t 1))⟩, ⟨(.some (6, .true)), (.some 9), (.bin .lss (.t 7) (.t 8))⟩, ⟨.none, (.some 10), (.pick (.t 6) (.t 9) (.c (.bool .false)))⟩, ⟨.none, (.some 3), (.set (.t 10) .false)⟩] (.some [3])) .ret))
def fi105 : FunI := ⟨11, ir105, [(.t 3)]⟩
theorem ok105 : FunOk Try.prog 105 fi105 := ⟨Try.call105, Try.f105, _, [], [(0, [0, 1]), (1, [3])], [], Try.func105, rfl, Try.ntmps105, by kernel_rfl, by kernel_rfl⟩
/-- strings.Count -/
def ir106 : IR := (.seq (.region [⟨.none, (.some 4), (.set (.c (.int .i64 0)) .false)⟩] (.some [0, 1])) (.seq (.seq (.region [⟨.none, (.some 7), (.set (.t 1) .false)⟩, ⟨.none, (.some 8), (.len 0 (.t 7))⟩, ⟨.none, (.some 9), (.bin .eql (.t 8) (.c (.int .i64 0)))⟩] (.some [0, 1, 9])) (.cond (.t 9) (.seq (.region [⟨.none, (.some 10), (.set (.t 0) .false)⟩, ⟨.none, (.some 11), (.call (.c (.fn (.func 114) [] [])) [(.t 10)] .none)⟩, ⟨.none, (.some 12), (.bin .add (.t 11) (.c (.int .i64 1)))⟩, ⟨.none, (.some 4), (.set (.t 12) .false)⟩] (.some [4])) .ret) .skip)) (.seq (.seq (.region [⟨.none, (.some 13), (.set (.t 1) .false)⟩, ⟨.none, (.some 14), (.len 0 (.t 13))⟩, ⟨.none, (.some 15), (.bin .eql (.t 14) (.c (.int .i64 1)))⟩] (.some [0, 1, 15])) (.cond (.t 15) (.seq (.region [⟨.none, (.some 16), (.set (.t 0) .false)⟩, ⟨.none, (.some 17), (.set (.t 1) .false)⟩, ⟨.none, (.some 18), (.indexStr (.t 17) (.c (.int .i64 0)))⟩, ⟨.none, (.some 19), (.call (.c (.fn (.func 115) [] [])) [(.t 16), (.t 18)] .none)⟩, ⟨.none, (.some 4), (.set (.t 19) .false)⟩] (.some [4])) .ret) .skip)) (.seq (.region [⟨.none, (.some 5), (.set (.c (.int .i64 0)) .false)⟩] (.some [0, 1, 5])) (.block 0 (.loop (.block 1 (.seq (.region [⟨.none, (.some 20), (.set (.t 0) .false)⟩, ⟨.none, (.some 21), (.set (.t 1) .false)⟩, ⟨.none, (.some 22), (.call (.c (.fn (.func 104) [] [])) [(.t 20), (.t 21)] .none)⟩, ⟨.none, (.some 6), (.set (.t 22) .false)⟩] (.some [0, 1, 5, 6])) (.seq (.seq (.region [⟨.none, (.some 23), (.set (.t 6) .false)⟩, ⟨.none, (.some 24), (.bin .eql (.t 23) (.c (.int .i64 (-1))))⟩] (.some [0, 1, 5, 6, 24])) (.cond (.t 24) (.seq (.region [⟨.none, (.some 25), (.set (.t 5) .false)⟩, ⟨.none, (.some 4), (.set (.t 25) .false)⟩] (.some [4])) .ret) .skip)) (.seq (.region [⟨.none, (.some 26), (.set (.t 5) .false)⟩, ⟨.none, (.some 27), (.bin .add (.t 26) (.c (.int .i64 1)))⟩, ⟨.none, (.some 5), (.set (.t 27) .false)⟩] (.some [0, 1, 5, 6])) (.region [⟨.none, (.some 28), (.set (.t 0) .false)⟩, ⟨.none, (.some 29), (.set (.t 6) .false)⟩, ⟨.none, (.some 30), (.set (.t 1) .false)⟩, ⟨.none, (.some 31), (.len 0 (.t 30))⟩, ⟨.none, (.some 32), (.bin .add (.t 29) (.t 31))⟩, ⟨.none, (.some 33), (.sliceStr (.t 28) (.some (.t 32)) .none)⟩, ⟨.none, (.some 0), (.set (.t 33) .false)⟩] (.some [0, 1, 5]))))))))))))
def fi106 : FunI := ⟨34, ir106, [(.t 4)]⟩
theorem ok106 : FunOk Try.prog 106 fi106 := ⟨Try.call106, Try.f106, _, [], [(0, [0, 1]), (1, [0, 1, 9]), (2, [4]), (3, [0, 1, 15]), (4, [4]), (5, [0, 1, 5]), (6, [0, 1, 5, 6]), (7, [0, 1, 5, 6, 24]), (8, [4]), (9, [0, 1, 5, 6]), (10, [0, 1, 5])], [], Try.func106, rfl, Try.ntmps106, by kernel_rfl, by kernel_rfl⟩
/-- madrigal/sig.good$2 -/
def ir107 : IR := (.seq (.region [⟨.none, (.some 3), (.set (.c (.bool .false)) .false)⟩] (.some [0, 1])) (.seq (.region [⟨.none, (.some 4), (.load .none (.t 1))⟩, ⟨.none, (.some 5), (.set (.t 0) .false)⟩, ⟨.none, (.some 6), (.call (.t 4) [(.t 5)] (.some 1999))⟩, ⟨.none, (.some 7), (.un .not (.t 6))⟩, ⟨.none, (.some 3), (.set (.t 7) .false)⟩] (.some [3])) .ret))
def fi107 : FunI := ⟨8, ir107, [(.t 3)]⟩
theorem ok107 : FunOk Try.prog 107 fi107 := ⟨Try.call107, Try.f107, _, [(1, 2, 2000)], [(0, [0, 1]), (1, [3])], [], Try.func107, rfl, Try.ntmps107, by kernel_rfl, by kernel_rfl⟩
/-- slices.IndexFunc[[]madrigal/api.Term,madrigal/api.Term] -/
def ir108 : IR := (.seq (.region [⟨.none, (.some 4), (.set (.c (.int .i64 0)) .false)⟩] (.some [0, 1])) (.seq (.seq (.region [⟨.none, (.some 6), (.set (.t 0) .false)⟩, ⟨.none, (.some 7), (.len 1 (.t 6))⟩, ⟨.none, (.some 8), (.set (.c (.int .i64 0)) .false)⟩] (.some [0, 1, 7, 8])) (.block 0 (.loop (.seq (.region [⟨.none, (.some 9), (.bin .lss (.t 8) (.t 7))⟩] (.some [0, 1, 7, 8, 9])) (.seq (.cond (.t 9) .skip (.exit 0)) (.seq (.block 1 (.seq (.region [⟨.none, (.some 10), (.set (.t 8) .false)⟩, ⟨.none, (.some 5), (.set (.t 10) .false)⟩] (.some [0, 1, 5, 7, 8])) (.seq (.region [⟨.none, (.some 11), (.set (.t 1) .false)⟩, ⟨.none, (.some 12), (.set (.t 0) .false)⟩, ⟨.none, (.some 13), (.set (.t 5) .false)⟩, ⟨.none, (.some 14), (.indexAddr 3 (.t 12) (.t 13))⟩, ⟨.none, (.some 15), (.load (.some 3) (.t 14))⟩, ⟨.none, (.some 16), (.call (.t 11) [(.t 15)] (.some 1999))⟩] (.some [0, 1, 5, 7, 8, 16])) (.cond (.t 16) (.seq (.region [⟨.none, (.some 17), (.set (.t 5) .false)⟩, ⟨.none, (.some 4), (.set (.t 17) .false)⟩] (.some [4])) .ret) .skip)))) (.region [⟨.none, (.some 18), (.bin .add (.t 8) (.c (.int .i64 1)))⟩, ⟨.none, (.some 8), (.set (.t 18) .false)⟩] (.some [0, 1, 7, 8])))))))) (.seq (.region [⟨.none, (.some 4), (.set (.c (.int .i64 (-1))) .false)⟩] (.some [4])) .ret)))
def fi108 : FunI := ⟨19, ir108, [(.t 4)]⟩
theorem ok108 : FunOk Try.prog 108 fi108 := ⟨Try.call108, Try.f108, _, [(4, 5, 2000)], [(0, [0, 1]), (1, [0, 1, 7, 8]), (2, [0, 1, 7, 8, 9]), (3, [0, 1, 5, 7, 8]), (4, [0, 1, 5, 7, 8, 16]), (5, [4]), (6, [0, 1, 7, 8]), (7, [4])], [], Try.func108, rfl, Try.ntmps108, by kernel_rfl, by kernel_rfl⟩
/-- madrigal/sig.shaped$1 -/
def ir109 : IR := (.seq (.region [⟨.none, (.some 1), (.boxi (.t 0))⟩, ⟨.none, (.some 2), (.set (.c (.bool .false)) .false)⟩] (.some [1])) (.seq (.region [⟨.none, (.some 3), (.load (.some 3) (.t 1))⟩, ⟨.none, (.some 4), (.call (.c (.fn (.func 96) [] [])) [(.t 3)] .none)⟩, ⟨.none, (.some 5), (.un .not (.t 4))⟩, ⟨.none, (.some 2), (.set (.t 5) .false)⟩] (.some [2])) .ret))
def fi109 : FunI := ⟨6, ir109, [(.t 2)]⟩
theorem ok109 : FunOk Try.prog 109 fi109 := ⟨Try.call109, Try.f109, _, [(0, 0, 1)], [(0, [1]), (1, [2])], [], Try.func109, rfl, Try.ntmps109, by kernel_rfl, by kernel_rfl⟩
/-- math/bits.Mul32 -/
def ir110 : IR := (.seq (.region [⟨.none, (.some 4), (.set (.c (.int .u32 0)) .false)⟩, ⟨.none, (.some 5), (.set (.c (.int .u32 0)) .false)⟩] (.some [0, 1])) (.seq (.region [⟨.none, (.some 7), (.set (.t 0) .false)⟩, ⟨.none, (.some 8), (.convInt .u64 (.t 7))⟩, ⟨.none, (.some 9), (.set (.t 1) .false)⟩, ⟨.none, (.some 10), (.convInt .u64 (.t 9))⟩, ⟨.none, (.some 11), (.bin .mul (.t 8) (.t 10))⟩, ⟨.none, (.some 6), (.set (.t 11) .false)⟩] (.some [6])) (.seq (.region [⟨.none, (.some 12), (.set (.t 6) .false)⟩, ⟨.none, (.some 13), (.shift .shr (.t 12) (.c (.int .u64 32)))⟩, ⟨.none, (.some 14), (.convInt .u32 (.t 13))⟩, ⟨.none, (.some 15), (.set (.t 6) .false)⟩, ⟨.none, (.some 16), (.convInt .u32 (.t 15))⟩, ⟨.none, (.some 4), (.set (.t 14) .false)⟩, ⟨.none, (.some 5), (.set (.t 16) .false)⟩] (.some [4, 5])) .ret)))
def fi110 : FunI := ⟨17, ir110, [(.t 4), (.t 5)]⟩
theorem ok110 : FunOk Try.prog 110 fi110 := ⟨Try.call110, Try.f110, _, [], [(0, [0, 1]), (1, [6]), (2, [4, 5])], [], Try.func110, rfl, Try.ntmps110, by kernel_rfl, by kernel_rfl⟩
/-- math/bits.Mul64 -/
def ir111 : IR := (.seq (.region [⟨.none, (.some 4), (.set (.c (.int .u64 0)) .false)⟩, ⟨.none, (.some 5), (.set (.c (.int .u64 0)) .false)⟩] (.some [0, 1])) (.seq (.region [⟨.none, (.some 14), (.set (.t 0) .false)⟩, ⟨.none, (.some 15), (.bin .and (.t 14) (.c (.int .u64 4294967295)))⟩, ⟨.none, (.some 6), (.set (.t 15) .false)⟩] (.some [0, 1, 6])) (.seq (.region [⟨.none, (.some 16), (.set (.t 0) .false)⟩, ⟨.none, (.some 17), (.shift .shr (.t 16) (.c (.int .u64 32)))⟩, ⟨.none, (.some 7), (.set (.t 17) .false)⟩] (.some [0, 1, 6, 7])) (.seq (.region [⟨.none, (.some 18), (.set (.t 1) .false)⟩, ⟨.none, (.some 19), (.bin .and (.t 18) (.c (.int .u64 4294967295)))⟩, ⟨.none, (.some 8), (.set (.t 19) .false)⟩] (.some [0, 1, 6, 7, 8])) (.seq (.region [⟨.none, (.some 20), (.set (.t 1) .false)⟩, ⟨.none, (.some 21), (.shift .shr (.t 20) (.c (.int .u64 32)))⟩, ⟨.none, (.some 9), (.set (.t 21) .false)⟩] (.some [0, 1, 6, 7, 8, 9])) (.seq (.region [⟨.none, (.some 22), (.set (.t 6) .false)⟩, ⟨.none, (.some 23), (.set (.t 8) .false)⟩, ⟨.none, (.some 24), (.bin .mul (.t 22) (.t 23))⟩, ⟨.none, (.some 10), (.set (.t 24) .false)⟩] (.some [0, 1, 6, 7, 8, 9, 10])) (.seq (.region [⟨.none, (.some 25), (.set (.t 7) .false)⟩, ⟨.none, (.some 26), (.set (.t 8) .false)⟩, ⟨.none, (.some 27), (.bin .mul (.t 25) (.t 26))⟩, ⟨.none, (.some 28), (.set (.t 10) .false)⟩, ⟨.none, (.some 29), (.shift .shr (.t 28) (.c (.int .u64 32)))⟩, ⟨.none, (.some 30), (.bin .add (.t 27) (.t 29))⟩, ⟨.none, (.some 11), (.set (.t 30) .false)⟩] (.some [0, 1, 6, 7, 9, 11])) (.seq (.region [⟨.none, (.some 31), (.set (.t 11) .false)⟩, ⟨.none, (.some 32), (.bin .and (.t 31) (.c (.int .u64 4294967295)))⟩, ⟨.none, (.some 12), (.set (.t 32) .false)⟩] (.some [0, 1, 6, 7, 9, 11, 12])) (.seq (.region [⟨.none, (.some 33), (.set (.t 11) .false)⟩, ⟨.none, (.some 34), (.shift .shr (.t 33) (.c (.int .u64 32)))⟩, ⟨.none, (.some 13), (.set (.t 34) .false)⟩] (.some [0, 1, 6, 7, 9, 12, 13])) (.seq (.region [⟨.none, (.some 35), (.set (.t 12) .false)⟩, ⟨.none, (.some 36), (.set (.t 6) .false)⟩, ⟨.none, (.some 37), (.set (.t 9) .false)⟩, ⟨.none, (.some 38), (.bin .mul (.t 36) (.t 37))⟩, ⟨.none, (.some 39), (.bin .add (.t 35) (.t 38))⟩, ⟨.none, (.some 12), (.set (.t 39) .false)⟩] (.some [0, 1, 7, 9, 12, 13])) (.seq (.region [⟨.none, (.some 40), (.set (.t 7) .false)⟩, ⟨.none, (.some 41), (.set (.t 9) .false)⟩, ⟨.none, (.some 42), (.bin .mul (.t 40) (.t 41))⟩, ⟨.none, (.some 43), (.set (.t 13) .false)⟩, ⟨.none, (.some 44), (.bin .add (.t 42) (.t 43))⟩, ⟨.none, (.some 45), (.set (.t 12) .false)⟩, ⟨.none, (.some 46), (.shift .shr (.t 45) (.c (.int .u64 32)))⟩, ⟨.none, (.some 47), (.bin .add (.t 44) (.t 46))⟩, ⟨.none, (.some 4), (.set (.t 47) .false)⟩] (.some [0, 1, 4])) (.seq (.region [⟨.none, (.some 48), (.set (.t 0) .false)⟩, ⟨.none, (.some 49), (.set (.t 1) .false)⟩, ⟨.none, (.some 50), (.bin .mul (.t 48) (.t 49))⟩, ⟨.none, (.some 5), (.set (.t 50) .false)⟩] (.some [4, 5])) .ret))))))))))))
def fi111 : FunI := ⟨51, ir111, [(.t 4), (.t 5)]⟩
theorem ok111 : FunOk Try.prog 111 fi111 := ⟨Try.call111, Try.f111, _, [], [(0, [0, 1]), (1, [0, 1, 6]), (2, [0, 1, 6, 7]), (3, [0, 1, 6, 7, 8]), (4, [0, 1, 6, 7, 8, 9]), (5, [0, 1, 6, 7, 8, 9, 10]), (6, [0, 1, 6, 7, 9, 11]), (7, [0, 1, 6, 7, 9, 11, 12]), (8, [0, 1, 6, 7, 9, 12, 13]), (9, [0, 1, 7, 9, 12, 13]), (10, [0, 1, 4]), (11, [4, 5])], [], Try.func111, rfl, Try.ntmps111, by kernel_rfl, by kernel_rfl⟩
/-- internal/stringslite.IndexByte -/
def ir112 : IR := (.seq (.region [⟨.none, (.some 4), (.set (.c (.int .i64 0)) .false)⟩] (.some [0, 1])) (.seq (.region [⟨.none, (.some 5), (.set (.t 0) .false)⟩, ⟨.none, (.some 6), (.set (.t 1) .false)⟩, ⟨.none, (.some 7), (.call (.c (.fn (.func 116) [] [])) [(.t 5), (.t 6)] .none)⟩, ⟨.none, (.some 4), (.set (.t 7) .false)⟩] (.some [4])) .ret))
def fi112 : FunI := ⟨8, ir112, [(.t 4)]⟩
theorem ok112 : FunOk Try.prog 112 fi112 := ⟨Try.call112, Try.f112, _, [], [(0, [0, 1]), (1, [4])], [], Try.func112, rfl, Try.ntmps112, by kernel_rfl, by kernel_rfl⟩
/-- internal/stringslite.Index -/
def ir113 : IR := (.seq (.region [⟨.none, (.some 4), (.set (.c (.int .i64 0)) .false)⟩] (.some [0, 1])) (.seq (.region [⟨.none, (.some 14), (.set (.t 1) .false)⟩, ⟨.none, (.some 15), (.len 0 (.t 14))⟩, ⟨.none, (.some 5), (.set (.t 15) .false)⟩] (.some [0, 1, 5])) (.seq (.block 0 (.seq (.region [⟨.none, (.some 17), (.set (.t 5) .false)⟩, ⟨.none, (.some 18), (.bin .eql (.t 17) (.c (.int .i64 0)))⟩, ⟨.none, (.some 19), (.set (.t 18) .false)⟩, ⟨(.some (19, .false)), (.some 20), (.set (.t 1) .false)⟩, ⟨(.some (19, .false)), (.some 21), (.set (.t 0) .false)⟩, ⟨(.some (19, .false)), (.some 22), (.bin .eql (.t 20) (.t 21))⟩, ⟨.none, (.some 23), (.pick (.t 19) (.c (.bool .true)) (.t 22))⟩, ⟨.none, (.some 16), (.set (.t 23) .false)⟩] (.some [0, 1, 5, 16])) (.cond (.t 16) (.seq (.region [⟨.none, (.some 4), (.set (.c (.int .i64 0)) .false)⟩] (.some [4])) .ret) (.seq (.region [⟨.none, (.some 25), (.set (.t 5) .false)⟩, ⟨.none, (.some 26), (.bin .eql (.t 25) (.c (.int .i64 1)))⟩, ⟨.none, (.some 24), (.set (.t 26) .false)⟩] (.some [0, 1, 5, 24])) (.cond (.t 24) (.seq (.region [⟨.none, (.some 27), (.set (.t 0) .false)⟩, ⟨.none, (.some 28), (.set (.t 1) .false)⟩, ⟨.none, (.some 29), (.indexStr (.t 28) (.c (.int .i64 0)))⟩, ⟨.none, (.some 30), (.call (.c (.fn (.func 112) [] [])) [(.t 27), (.t 29)] .none)⟩, ⟨.none, (.some 4), (.set (.t 30) .false)⟩] (.some [4])) .ret) (.seq (.region [⟨.none, (.some 32), (.set (.t 5) .false)⟩, ⟨.none, (.some 33), (.set (.t 0) .false)⟩, ⟨.none, (.some 34), (.len 0 (.t 33))⟩, ⟨.none, (.some 35), (.bin .geq (.t 32) (.t 34))⟩, ⟨.none, (.some 31), (.set (.t 35) .false)⟩] (.some [0, 1, 5, 31])) (.cond (.t 31) (.seq (.region [⟨.none, (.some 4), (.set (.c (.int .i64 (-1))) .false)⟩] (.some [4])) .ret) (.seq (.region [⟨.none, (.some 37), (.set (.t 5) .false)⟩, ⟨.none, (.some 38), .never⟩, ⟨.none, (.some 39), (.bin .leq (.t 37) (.t 38))⟩, ⟨.none, (.some 40), (.set (.t 39) .false)⟩, ⟨(.some (40, .true)), (.some 41), (.set (.t 0) .false)⟩, ⟨(.some (40, .true)), (.some 42), (.len 0 (.t 41))⟩, ⟨(.some (40, .true)), (.some 43), (.bin .leq (.t 42) (.c (.int .i64 64)))⟩, ⟨.none, (.some 44), (.pick (.t 40) (.t 43) (.c (.bool .false)))⟩, ⟨.none, (.some 36), (.set (.t 44) .false)⟩] (.some [0, 1, 5, 36])) (.cond (.t 36) (.seq (.region [⟨.none, (.some 45), (.set (.t 0) .false)⟩, ⟨.none, (.some 46), (.set (.t 1) .false)⟩, ⟨.none, (.some 47), (.call (.c (.fn (.func 117) [] [])) [(.t 45), (.t 46)] .none)⟩, ⟨.none, (.some 4), (.set (.t 47) .false)⟩] (.some [4])) .ret) .skip))))))))) (.seq (.region [⟨.none, (.some 48), (.set (.t 1) .false)⟩, ⟨.none, (.some 49), (.indexStr (.t 48) (.c (.int .i64 0)))⟩, ⟨.none, (.some 6), (.set (.t 49) .false)⟩] (.some [0, 1, 5, 6])) (.seq (.region [⟨.none, (.some 50), (.set (.t 1) .false)⟩, ⟨.none, (.some 51), (.indexStr (.t 50) (.c (.int .i64 1)))⟩, ⟨.none, (.some 7), (.set (.t 51) .false)⟩] (.some [0, 1, 5, 6, 7])) (.seq (.region [⟨.none, (.some 8), (.set (.c (.int .i64 0)) .false)⟩] (.some [0, 1, 5, 6, 7, 8])) (.seq (.region [⟨.none, (.some 52), (.set (.t 0) .false)⟩, ⟨.none, (.some 53), (.len 0 (.t 52))⟩, ⟨.none, (.some 54), (.set (.t 5) .false)⟩, ⟨.none, (.some 55), (.bin .sub (.t 53) (.t 54))⟩, ⟨.none, (.some 56), (.bin .add (.t 55) (.c (.int .i64 1)))⟩, ⟨.none, (.some 9), (.set (.t 56) .false)⟩] (.some [0, 1, 5, 6, 7, 8, 9])) (.seq (.region [⟨.none, (.some 10), (.set (.c (.int .i64 0)) .false)⟩] (.some [0, 1, 5, 6, 7, 8, 9, 10])) (.seq (.block 1 (.loop (.seq (.seq (.region [⟨.none, (.some 57), (.set (.t 8) .false)⟩, ⟨.none, (.some 58), (.set (.t 9) .false)⟩, ⟨.none, (.some 59), (.bin .lss (.t 57) (.t 58))⟩] (.some [0, 1, 5, 6, 7, 8, 9, 10, 59])) (.cond (.t 59) .skip (.exit 1))) (.block 2 (.seq (.seq (.region [⟨.none, (.some 60), (.set (.t 0) .false)⟩, ⟨.none, (.some 61), (.set (.t 8) .false)⟩, ⟨.none, (.some 62), (.indexStr (.t 60) (.t 61))⟩, ⟨.none, (.some 63), (.set (.t 6) .false)⟩, ⟨.none, (.some 64), (.bin .neq (.t 62) (.t 63))⟩] (.some [0, 1, 5, 6, 7, 8, 9, 10, 64])) (.cond (.t 64) (.seq (.region [⟨.none, (.some 65), (.set (.t 0) .false)⟩, ⟨.none, (.some 66), (.set (.t 8) .false)⟩, ⟨.none, (.some 67), (.bin .add (.t 66) (.c (.int .i64 1)))⟩, ⟨.none, (.some 68), (.set (.t 9) .false)⟩, ⟨.none, (.some 69), (.sliceStr (.t 65) (.some (.t 67)) (.some (.t 68)))⟩, ⟨.none, (.some 70), (.set (.t 6) .false)⟩, ⟨.none, (.some 71), (.call (.c (.fn (.func 112) [] [])) [(.t 69), (.t 70)] .none)⟩, ⟨.none, (.some 11), (.set (.t 71) .false)⟩] (.some [0, 1, 5, 6, 7, 8, 9, 10, 11])) (.seq (.seq (.region [⟨.none, (.some 72), (.set (.t 11) .false)⟩, ⟨.none, (.some 73), (.bin .lss (.t 72) (.c (.int .i64 0)))⟩] (.some [0, 1, 5, 6, 7, 8, 9, 10, 11, 73])) (.cond (.t 73) (.seq (.region [⟨.none, (.some 4), (.set (.c (.int .i64 (-1))) .false)⟩] (.some [4])) .ret) .skip)) (.region [⟨.none, (.some 74), (.set (.t 8) .false)⟩, ⟨.none, (.some 75), (.set (.t 11) .false)⟩, ⟨.none, (.some 76), (.bin .add (.t 75) (.c (.int .i64 1)))⟩, ⟨.none, (.some 77), (.bin .add (.t 74) (.t 76))⟩, ⟨.none, (.some 8), (.set (.t 77) .false)⟩] (.some [0, 1, 5, 6, 7, 8, 9, 10])))) .skip)) (.seq (.seq (.region [⟨.none, (.some 78), (.set (.t 0) .false)⟩, ⟨.none, (.some 79), (.set (.t 8) .false)⟩, ⟨.none, (.some 80), (.bin .add (.t 79) (.c (.int .i64 1)))⟩, ⟨.none, (.some 81), (.indexStr (.t 78) (.t 80))⟩, ⟨.none, (.some 82), (.set (.t 7) .false)⟩, ⟨.none, (.some 83), (.bin .eql (.t 81) (.t 82))⟩, ⟨.none, (.some 84), (.set (.t 83) .false)⟩, ⟨(.some (84, .true)), (.some 85), (.set (.t 0) .false)⟩, ⟨(.some (84, .true)), (.some 86), (.set (.t 8) .false)⟩, ⟨(.some (84, .true)), (.some 87), (.set (.t 8) .false)⟩, ⟨(.some (84, .true)), (.some 88), (.set (.t 5) .false)⟩, ⟨(.some (84, .true)), (.some 89), (.bin .add (.t 87) (.t 88))⟩, ⟨(.some (84, .true)), (.some 90), (.sliceStr (.t 85) (.some (.t 86)) (.some (.t 89)))⟩, ⟨(.some (84, .true)), (.some 91), (.set (.t 1) .false)⟩, ⟨(.some (84, .true)), (.some 92), (.bin .eql (.t 90) (.t 91))⟩, ⟨.none, (.some 93), (.pick (.t 84) (.t 92) (.c (.bool .false)))⟩] (.some [0, 1, 5, 6, 7, 8, 9, 10, 93])) (.cond (.t 93) (.seq (.region [⟨.none, (.some 94), (.set (.t 8) .false)⟩, ⟨.none, (.some 4), (.set (.t 94) .false)⟩] (.some [4])) .ret) .skip)) (.seq (.region [⟨.none, (.some 95), (.set (.t 8) .false)⟩, ⟨.none, (.some 96), (.bin .add (.t 95) (.c (.int .i64 1)))⟩, ⟨.none, (.some 8), (.set (.t 96) .false)⟩] (.some [0, 1, 5, 6, 7, 8, 9, 10])) (.seq (.region [⟨.none, (.some 97), (.set (.t 10) .false)⟩, ⟨.none, (.some 98), (.bin .add (.t 97) (.c (.int .i64 1)))⟩, ⟨.none, (.some 10), (.set (.t 98) .false)⟩] (.some [0, 1, 5, 6, 7, 8, 9, 10])) (.seq (.region [⟨.none, (.some 99), (.set (.t 5) .false)⟩, ⟨.none, (.some 100), .never⟩, ⟨.none, (.some 101), (.bin .leq (.t 99) (.t 100))⟩, ⟨.none, (.some 102), (.set (.t 101) .false)⟩, ⟨(.some (102, .true)), (.some 103), (.set (.t 10) .false)⟩, ⟨(.some (102, .true)), (.some 104), (.set (.t 8) .false)⟩, ⟨(.some (102, .true)), (.some 105), (.call (.c (.fn (.func 118) [] [])) [(.t 104)] .none)⟩, ⟨(.some (102, .true)), (.some 106), (.bin .gtr (.t 103) (.t 105))⟩, ⟨.none, (.some 107), (.pick (.t 102) (.t 106) (.c (.bool .false)))⟩] (.some [0, 1, 5, 6, 7, 8, 9, 10, 107])) (.cond (.t 107) (.seq (.region [⟨.none, (.some 108), (.set (.t 0) .false)⟩, ⟨.none, (.some 109), (.set (.t 8) .false)⟩, ⟨.none, (.some 110), (.sliceStr (.t 108) (.some (.t 109)) .none)⟩, ⟨.none, (.some 111), (.set (.t 1) .false)⟩, ⟨.none, (.some 112), (.call (.c (.fn (.func 117) [] [])) [(.t 110), (.t 111)] .none)⟩, ⟨.none, (.some 12), (.set (.t 112) .false)⟩] (.some [8, 12])) (.seq (.seq (.region [⟨.none, (.some 113), (.set (.t 12) .false)⟩, ⟨.none, (.some 114), (.bin .geq (.t 113) (.c (.int .i64 0)))⟩] (.some [8, 12, 114])) (.cond (.t 114) (.seq (.region [⟨.none, (.some 115), (.set (.t 12) .false)⟩, ⟨.none, (.some 116), (.set (.t 8) .false)⟩, ⟨.none, (.some 117), (.bin .add (.t 115) (.t 116))⟩, ⟨.none, (.some 4), (.set (.t 117) .false)⟩] (.some [4])) .ret) .skip)) (.seq (.region [⟨.none, (.some 4), (.set (.c (.int .i64 (-1))) .false)⟩] (.some [4])) .ret))) (.seq (.region [⟨.none, (.some 118), (.set (.t 5) .false)⟩, ⟨.none, (.some 119), .never⟩, ⟨.none, (.some 120), (.bin .gtr (.t 118) (.t 119))⟩, ⟨.none, (.some 121), (.set (.t 120) .false)⟩, ⟨(.some (121, .true)), (.some 122), (.set (.t 10) .false)⟩, ⟨(.some (121, .true)), (.some 123), (.set (.t 8) .false)⟩, ⟨(.some (121, .true)), (.some 124), (.shift .shr (.t 123) (.c (.int .u64 4)))⟩, ⟨(.some (121, .true)), (.some 125), (.bin .add (.c (.int .i64 4)) (.t 124))⟩, ⟨(.some (121, .true)), (.some 126), (.bin .geq (.t 122) (.t 125))⟩, ⟨.none, (.some 127), (.pick (.t 121) (.t 126) (.c (.bool .false)))⟩, ⟨.none, (.some 128), (.set (.t 127) .false)⟩, ⟨(.some (128, .true)), (.some 129), (.set (.t 8) .false)⟩, ⟨(.some (128, .true)), (.some 130), (.set (.t 9) .false)⟩, ⟨(.some (128, .true)), (.some 131), (.bin .lss (.t 129) (.t 130))⟩, ⟨.none, (.some 132), (.pick (.t 128) (.t 131) (.c (.bool .false)))⟩] (.some [0, 1, 5, 6, 7, 8, 9, 10, 132])) (.cond (.t 132) (.seq (.region [⟨.none, (.some 133), (.set (.t 0) .false)⟩, ⟨.none, (.some 134), (.set (.t 8) .false)⟩, ⟨.none, (.some 135), (.sliceStr (.t 133) (.some (.t 134)) .none)⟩, ⟨.none, (.some 136), (.set (.t 1) .false)⟩, ⟨.none, (.some 137), (.call (.c (.fn (.func 119) [] [])) [(.t 135), (.t 136)] .none)⟩, ⟨.none, (.some 13), (.set (.t 137) .false)⟩] (.some [8, 13])) (.seq (.seq (.region [⟨.none, (.some 138), (.set (.t 13) .false)⟩, ⟨.none, (.some 139), (.bin .lss (.t 138) (.c (.int .i64 0)))⟩] (.some [8, 13, 139])) (.cond (.t 139) (.seq (.region [⟨.none, (.some 4), (.set (.c (.int .i64 (-1))) .false)⟩] (.some [4])) .ret) .skip)) (.seq (.region [⟨.none, (.some 140), (.set (.t 8) .false)⟩, ⟨.none, (.some 141), (.set (.t 13) .false)⟩, ⟨.none, (.some 142), (.bin .add (.t 140) (.t 141))⟩, ⟨.none, (.some 4), (.set (.t 142) .false)⟩] (.some [4])) .ret))) .skip)))))))))))) (.seq (.region [⟨.none, (.some 4), (.set (.c (.int .i64 (-1))) .false)⟩] (.some [4])) .ret))))))))))
def fi113 : FunI := ⟨143, ir113, [(.t 4)]⟩
theorem ok113 : FunOk Try.prog 113 fi113 := ⟨Try.call113, Try.f113, _, [], [(0, [0, 1]), (1, [0, 1, 5]), (2, [0, 1, 5, 16]), (3, [4]), (4, [0, 1, 5, 24]), (5, [4]), (6, [0, 1, 5, 31]), (7, [4]), (8, [0, 1, 5, 36]), (9, [4]), (10, [0, 1, 5, 6]), (11, [0, 1, 5, 6, 7]), (12, [0, 1, 5, 6, 7, 8]), (13, [0, 1, 5, 6, 7, 8, 9]), (14, [0, 1, 5, 6, 7, 8, 9, 10]), (15, [0, 1, 5, 6, 7, 8, 9, 10, 59]), (16, [0, 1, 5, 6, 7, 8, 9, 10, 64]), (17, [0, 1, 5, 6, 7, 8, 9, 10, 11]), (18, [0, 1, 5, 6, 7, 8, 9, 10, 11, 73]), (19, [4]), (20, [0, 1, 5, 6, 7, 8, 9, 10]), (21, [0, 1, 5, 6, 7, 8, 9, 10, 93]), (22, [4]), (23, [0, 1, 5, 6, 7, 8, 9, 10]), (24, [0, 1, 5, 6, 7, 8, 9, 10]), (25, [0, 1, 5, 6, 7, 8, 9, 10, 107]), (26, [8, 12]), (27, [8, 12, 114]), (28, [4]), (29, [4]), (30, [0, 1, 5, 6, 7, 8, 9, 10, 132]), (31, [8, 13]), (32, [8, 13, 139]), (33, [4]), (34, [4]), (35, [4])], [], Try.func113, rfl, Try.ntmps113, by kernel_rfl, by kernel_rfl⟩
/-- unicode/utf8.RuneCountInString -/
def ir114 : IR := (.seq (.region [⟨.none, (.some 2), (.set (.c (.int .i64 0)) .false)⟩] (.some [0, 2])) (.seq (.seq (.region [⟨.none, (.some 3), (.set (.t 0) .false)⟩, ⟨.none, (.some 4), .never⟩] (.some [2, 4])) (.block 0 (.loop (.seq (.region [⟨.none, (.some 5), .never⟩, ⟨.none, (.some 6), (.extract (.t 5) 0)⟩] (.some [2, 4, 6])) (.seq (.cond (.t 6) .skip (.exit 0)) (.block 1 (.region [⟨.none, (.some 7), (.set (.t 2) .false)⟩, ⟨.none, (.some 8), (.bin .add (.t 7) (.c (.int .i64 1)))⟩, ⟨.none, (.some 2), (.set (.t 8) .false)⟩] (.some [2, 4])))))))) (.seq (.region [⟨.none, (.some 9), (.set (.t 2) .false)⟩, ⟨.none, (.some 2), (.set (.t 9) .false)⟩] (.some [2])) .ret)))
def fi114 : FunI := ⟨10, ir114, [(.t 2)]⟩
theorem ok114 : FunOk Try.prog 114 fi114 := ⟨Try.call114, Try.f114, _, [], [(0, [0, 2]), (1, [2, 4]), (2, [2, 4, 6]), (3, [2, 4]), (4, [2])], [], Try.func114, rfl, Try.ntmps114, by kernel_rfl, by kernel_rfl⟩
/-- internal/bytealg.Cutover -/
def ir118 : IR := (.seq (.region [⟨.none, (.some 2), (.set (.c (.int .i64 0)) .false)⟩] (.some [0])) (.seq (.region [⟨.none, (.some 3), (.set (.t 0) .false)⟩, ⟨.none, (.some 4), (.bin .add (.t 3) (.c (.int .i64 16)))⟩, ⟨.none, (.some 5), (.bin .quo (.t 4) (.c (.int .i64 8)))⟩, ⟨.none, (.some 2), (.set (.t 5) .false)⟩] (.some [2])) .ret))
def fi118 : FunI := ⟨6, ir118, [(.t 2)]⟩
theorem ok118 : FunOk Try.prog 118 fi118 := ⟨Try.call118, Try.f118, _, [], [(0, [0]), (1, [2])], [], Try.func118, rfl, Try.ntmps118, by kernel_rfl, by kernel_rfl⟩
/-- internal/bytealg.IndexRabinKarp[string] -/
def ir119 : IR := (.seq (.region [⟨.none, (.some 4), (.set (.c (.int .i64 0)) .false)⟩] (.some [0, 1])) (.seq (.region [⟨.none, (.some 12), (.set (.t 1) .false)⟩, ⟨.none, (.some 13), (.call (.c (.fn (.func 120) [] [])) [(.t 12)] .none)⟩, ⟨.none, (.some 11), (.set (.t 13) .false)⟩, ⟨.none, (.some 14), (.extract (.t 11) 0)⟩, ⟨.none, (.some 15), (.extract (.t 11) 1)⟩, ⟨.none, (.some 5), (.set (.t 14) .false)⟩, ⟨.none, (.some 6), (.set (.t 15) .false)⟩] (.some [0, 1, 5, 6])) (.seq (.region [⟨.none, (.some 16), (.set (.t 1) .false)⟩, ⟨.none, (.some 17), (.len 0 (.t 16))⟩, ⟨.none, (.some 7), (.set (.t 17) .false)⟩] (.some [0, 1, 5, 6, 7])) (.seq (.region [⟨.none, (.some 8), (.set (.c (.int .u32 0)) .false)⟩] (.some [0, 1, 5, 6, 7, 8])) (.seq (.seq (.region [⟨.none, (.some 9), (.set (.c (.int .i64 0)) .false)⟩] (.some [0, 1, 5, 6, 7, 8, 9])) (.block 0 (.loop (.seq (.seq (.region [⟨.none, (.some 18), (.set (.t 9) .false)⟩, ⟨.none, (.some 19), (.set (.t 7) .false)⟩, ⟨.none, (.some 20), (.bin .lss (.t 18) (.t 19))⟩] (.some [0, 1, 5, 6, 7, 8, 9, 20])) (.cond (.t 20) .skip (.exit 0))) (.seq (.block 1 (.region [⟨.none, (.some 23), (.set (.t 8) .false)⟩, ⟨.none, (.some 24), (.bin .mul (.t 23) (.c (.int .u32 16777619)))⟩, ⟨.none, (.some 25), (.set (.t 0) .false)⟩, ⟨.none, (.some 26), (.set (.t 9) .false)⟩, ⟨.none, (.some 27), (.indexStr (.t 25) (.t 26))⟩, ⟨.none, (.some 28), (.convInt .u32 (.t 27))⟩, ⟨.none, (.some 29), (.bin .add (.t 24) (.t 28))⟩, ⟨.none, (.some 8), (.set (.t 29) .false)⟩] (.some [0, 1, 5, 6, 7, 8, 9]))) (.region [⟨.none, (.some 21), (.set (.t 9) .false)⟩, ⟨.none, (.some 22), (.bin .add (.t 21) (.c (.int .i64 1)))⟩, ⟨.none, (.some 9), (.set (.t 22) .false)⟩] (.some [0, 1, 5, 6, 7, 8, 9]))))))) (.seq (.seq (.region [⟨.none, (.some 30), (.set (.t 8) .false)⟩, ⟨.none, (.some 31), (.set (.t 5) .false)⟩, ⟨.none, (.some 32), (.bin .eql (.t 30) (.t 31))⟩, ⟨.none, (.some 33), (.set (.t 32) .false)⟩, ⟨(.some (33, .true)), (.some 34), (.set (.t 0) .false)⟩, ⟨(.some (33, .true)), (.some 35), (.set (.t 7) .false)⟩, ⟨(.some (33, .true)), (.some 36), (.sliceStr (.t 34) .none (.some (.t 35)))⟩, ⟨(.some (33, .true)), (.some 37), (.set (.t 1) .false)⟩, ⟨(.some (33, .true)), (.some 38), (.bin .eql (.t 36) (.t 37))⟩, ⟨.none, (.some 39), (.pick (.t 33) (.t 38) (.c (.bool .false)))⟩] (.some [0, 1, 5, 6, 7, 8, 39])) (.cond (.t 39) (.seq (.region [⟨.none, (.some 4), (.set (.c (.int .i64 0)) .false)⟩] (.some [4])) .ret) .skip)) (.seq (.seq (.region [⟨.none, (.some 40), (.set (.t 7) .false)⟩, ⟨.none, (.some 10), (.set (.t 40) .false)⟩] (.some [0, 1, 5, 6, 7, 8, 10])) (.block 2 (.loop (.seq (.seq (.region [⟨.none, (.some 41), (.set (.t 10) .false)⟩, ⟨.none, (.some 42), (.set (.t 0) .false)⟩, ⟨.none, (.some 43), (.len 0 (.t 42))⟩, ⟨.none, (.some 44), (.bin .lss (.t 41) (.t 43))⟩] (.some [0, 1, 5, 6, 7, 8, 10, 44])) (.cond (.t 44) .skip (.exit 2))) (.block 3 (.seq (.region [⟨.none, (.some 45), (.set (.t 8) .false)⟩, ⟨.none, (.some 46), (.bin .mul (.t 45) (.c (.int .u32 16777619)))⟩, ⟨.none, (.some 8), (.set (.t 46) .false)⟩] (.some [0, 1, 5, 6, 7, 8, 10])) (.seq (.region [⟨.none, (.some 47), (.set (.t 8) .false)⟩, ⟨.none, (.some 48), (.set (.t 0) .false)⟩, ⟨.none, (.some 49), (.set (.t 10) .false)⟩, ⟨.none, (.some 50), (.indexStr (.t 48) (.t 49))⟩, ⟨.none, (.some 51), (.convInt .u32 (.t 50))⟩, ⟨.none, (.some 52), (.bin .add (.t 47) (.t 51))⟩, ⟨.none, (.some 8), (.set (.t 52) .false)⟩] (.some [0, 1, 5, 6, 7, 8, 10])) (.seq (.region [⟨.none, (.some 53), (.set (.t 8) .false)⟩, ⟨.none, (.some 54), (.set (.t 6) .false)⟩, ⟨.none, (.some 55), (.set (.t 0) .false)⟩, ⟨.none, (.some 56), (.set (.t 10) .false)⟩, ⟨.none, (.some 57), (.set (.t 7) .false)⟩, ⟨.none, (.some 58), (.bin .sub (.t 56) (.t 57))⟩, ⟨.none, (.some 59), (.indexStr (.t 55) (.t 58))⟩, ⟨.none, (.some 60), (.convInt .u32 (.t 59))⟩, ⟨.none, (.some 61), (.bin .mul (.t 54) (.t 60))⟩, ⟨.none, (.some 62), (.bin .sub (.t 53) (.t 61))⟩, ⟨.none, (.some 8), (.set (.t 62) .false)⟩] (.some [0, 1, 5, 6, 7, 8, 10])) (.seq (.region [⟨.none, (.some 63), (.set (.t 10) .false)⟩, ⟨.none, (.some 64), (.bin .add (.t 63) (.c (.int .i64 1)))⟩, ⟨.none, (.some 10), (.set (.t 64) .false)⟩] (.some [0, 1, 5, 6, 7, 8, 10])) (.seq (.region [⟨.none, (.some 65), (.set (.t 8) .false)⟩, ⟨.none, (.some 66), (.set (.t 5) .false)⟩, ⟨.none, (.some 67), (.bin .eql (.t 65) (.t 66))⟩, ⟨.none, (.some 68), (.set (.t 67) .false)⟩, ⟨(.some (68, .true)), (.some 69), (.set (.t 0) .false)⟩, ⟨(.some (68, .true)), (.some 70), (.set (.t 10) .false)⟩, ⟨(.some (68, .true)), (.some 71), (.set (.t 7) .false)⟩, ⟨(.some (68, .true)), (.some 72), (.bin .sub (.t 70) (.t 71))⟩, ⟨(.some (68, .true)), (.some 73), (.set (.t 10) .false)⟩, ⟨(.some (68, .true)), (.some 74), (.sliceStr (.t 69) (.some (.t 72)) (.some (.t 73)))⟩, ⟨(.some (68, .true)), (.some 75), (.set (.t 1) .false)⟩, ⟨(.some (68, .true)), (.some 76), (.bin .eql (.t 74) (.t 75))⟩, ⟨.none, (.some 77), (.pick (.t 68) (.t 76) (.c (.bool .false)))⟩] (.some [0, 1, 5, 6, 7, 8, 10, 77])) (.cond (.t 77) (.seq (.region [⟨.none, (.some 78), (.set (.t 10) .false)⟩, ⟨.none, (.some 79), (.set (.t 7) .false)⟩, ⟨.none, (.some 80), (.bin .sub (.t 78) (.t 79))⟩, ⟨.none, (.some 4), (.set (.t 80) .false)⟩] (.some [4])) .ret) .skip))))))))))) (.seq (.region [⟨.none, (.some 4), (.set (.c (.int .i64 (-1))) .false)⟩] (.some [4])) .ret))))))))
def fi119 : FunI := ⟨81, ir119, [(.t 4)]⟩
theorem ok119 : FunOk Try.prog 119 fi119 := ⟨Try.call119, Try.f119, _, [], [(0, [0, 1]), (1, [0, 1, 5, 6]), (2, [0, 1, 5, 6, 7]), (3, [0, 1, 5, 6, 7, 8]), (4, [0, 1, 5, 6, 7, 8, 9]), (5, [0, 1, 5, 6, 7, 8, 9, 20]), (6, [0, 1, 5, 6, 7, 8, 9]), (7, [0, 1, 5, 6, 7, 8, 9]), (8, [0, 1, 5, 6, 7, 8, 39]), (9, [4]), (10, [0, 1, 5, 6, 7, 8, 10]), (11, [0, 1, 5, 6, 7, 8, 10, 44]), (12, [0, 1, 5, 6, 7, 8, 10]), (13, [0, 1, 5, 6, 7, 8, 10]), (14, [0, 1, 5, 6, 7, 8, 10]), (15, [0, 1, 5, 6, 7, 8, 10]), (16, [0, 1, 5, 6, 7, 8, 10, 77]), (17, [4]), (18, [4])], [], Try.func119, rfl, Try.ntmps119, by kernel_rfl, by kernel_rfl⟩
/-- internal/bytealg.hashStr[string] -/
def ir120 : IR := (.seq (.region [⟨.none, (.some 2), (.set (.c (.int .u32 0)) .false)⟩, ⟨.none, (.some 3), (.set (.c (.int .u32 0)) .false)⟩] (.some [0])) (.seq (.region [⟨.none, (.some 4), (.set (.c (.int .u32 0)) .false)⟩] (.some [0, 4])) (.seq (.seq (.region [⟨.none, (.some 5), (.set (.c (.int .i64 0)) .false)⟩] (.some [0, 4, 5])) (.block 0 (.loop (.seq (.seq (.region [⟨.none, (.some 9), (.set (.t 5) .false)⟩, ⟨.none, (.some 10), (.set (.t 0) .false)⟩, ⟨.none, (.some 11), (.len 0 (.t 10))⟩, ⟨.none, (.some 12), (.bin .lss (.t 9) (.t 11))⟩] (.some [0, 4, 5, 12])) (.cond (.t 12) .skip (.exit 0))) (.seq (.block 1 (.region [⟨.none, (.some 15), (.set (.t 4) .false)⟩, ⟨.none, (.some 16), (.bin .mul (.t 15) (.c (.int .u32 16777619)))⟩, ⟨.none, (.some 17), (.set (.t 0) .false)⟩, ⟨.none, (.some 18), (.set (.t 5) .false)⟩, ⟨.none, (.some 19), (.indexStr (.t 17) (.t 18))⟩, ⟨.none, (.some 20), (.convInt .u32 (.t 19))⟩, ⟨.none, (.some 21), (.bin .add (.t 16) (.t 20))⟩, ⟨.none, (.some 4), (.set (.t 21) .false)⟩] (.some [0, 4, 5]))) (.region [⟨.none, (.some 13), (.set (.t 5) .false)⟩, ⟨.none, (.some 14), (.bin .add (.t 13) (.c (.int .i64 1)))⟩, ⟨.none, (.some 5), (.set (.t 14) .false)⟩] (.some [0, 4, 5]))))))) (.seq (.region [⟨.none, (.some 6), (.set (.c (.int .u32 1)) .false)⟩, ⟨.none, (.some 7), (.set (.c (.int .u32 16777619)) .false)⟩] (.some [0, 4, 6, 7])) (.seq (.seq (.region [⟨.none, (.some 22), (.set (.t 0) .false)⟩, ⟨.none, (.some 23), (.len 0 (.t 22))⟩, ⟨.none, (.some 8), (.set (.t 23) .false)⟩] (.some [4, 6, 7, 8])) (.block 2 (.loop (.seq (.seq (.region [⟨.none, (.some 24), (.set (.t 8) .false)⟩, ⟨.none, (.some 25), (.bin .gtr (.t 24) (.c (.int .i64 0)))⟩] (.some [4, 6, 7, 8, 25])) (.cond (.t 25) .skip (.exit 2))) (.seq (.block 3 (.seq (.seq (.region [⟨.none, (.some 28), (.set (.t 8) .false)⟩, ⟨.none, (.some 29), (.bin .and (.t 28) (.c (.int .i64 1)))⟩, ⟨.none, (.some 30), (.bin .neq (.t 29) (.c (.int .i64 0)))⟩] (.some [4, 6, 7, 8, 30])) (.cond (.t 30) (.region [⟨.none, (.some 31), (.set (.t 6) .false)⟩, ⟨.none, (.some 32), (.set (.t 7) .false)⟩, ⟨.none, (.some 33), (.bin .mul (.t 31) (.t 32))⟩, ⟨.none, (.some 6), (.set (.t 33) .false)⟩] (.some [4, 6, 7, 8])) .skip)) (.region [⟨.none, (.some 34), (.set (.t 7) .false)⟩, ⟨.none, (.some 35), (.set (.t 7) .false)⟩, ⟨.none, (.some 36), (.bin .mul (.t 34) (.t 35))⟩, ⟨.none, (.some 7), (.set (.t 36) .false)⟩] (.some [4, 6, 7, 8])))) (.region [⟨.none, (.some 26), (.set (.t 8) .false)⟩, ⟨.none, (.some 27), (.shift .shr (.t 26) (.c (.int .u64 1)))⟩, ⟨.none, (.some 8), (.set (.t 27) .false)⟩] (.some [4, 6, 7, 8]))))))) (.seq (.region [⟨.none, (.some 37), (.set (.t 4) .false)⟩, ⟨.none, (.some 38), (.set (.t 6) .false)⟩, ⟨.none, (.some 2), (.set (.t 37) .false)⟩, ⟨.none, (.some 3), (.set (.t 38) .false)⟩] (.some [2, 3])) .ret))))))
def fi120 : FunI := ⟨39, ir120, [(.t 2), (.t 3)]⟩
theorem ok120 : FunOk Try.prog 120 fi120 := ⟨Try.call120, Try.f120, _, [], [(0, [0]), (1, [0, 4]), (2, [0, 4, 5]), (3, [0, 4, 5, 12]), (4, [0, 4, 5]), (5, [0, 4, 5]), (6, [0, 4, 6, 7]), (7, [4, 6, 7, 8]), (8, [4, 6, 7, 8, 25]), (9, [4, 6, 7, 8]), (10, [4, 6, 7, 8, 30]), (11, [4, 6, 7, 8]), (12, [4, 6, 7, 8]), (13, [2, 3])], [], Try.func120, rfl, Try.ntmps120, by kernel_rfl, by kernel_rfl⟩
end Go.Abs
end
section
open Go Go.Proofs Go.Abs
namespace Go.Abs
theorem clone85 (o : Nat) (xs : List AV) (H : List AObj) (h1 : okE 1 xs) (hb : xs.length * 8 ≤ 140737488355328) (hbl : belowL H.length xs = true) :
    ACalls Try.prog 85 [.lst o xs] H fun r H' => r = .lst 1 xs ∧ H' = H := by
  refine ok85.acalls (by simp [fi85]) ?_
  simp only [fi85, ir85, awp, aops, agd, aop, put, get, aval, prune, setE, argEnv, AV.unown, List.map, Nat.reduceEqDiff, reduceIte, aret, ares]
  have hfin : ∀ (x : AV) , x.le (.lst 1 xs) → ∃ m, H.length ≤ m ∧ ∃ r, x.le r ∧ r.blw m = true ∧ r = AV.lst 1 xs ∧ List.take m H = H :=
    fun x hx => ⟨H.length, Nat.le_refl _, _, hx, by simpa [AV.blw] using hbl, rfl, by simp⟩
  cases xs with
  | nil =>
    simp only [aeqNil, isNil, boolP, abslice, aappend, alist, rlist, List.replicate]
    exact ⟨⟨fun _ => ⟨.inr trivial, hfin _ (.inr (.inr (.inr (.inl ⟨rfl, 1, rfl⟩))))⟩, by simp⟩, by simp, fun _ => ⟨by simp, by simp [okE], .inr trivial, hfin _ (.inl rfl)⟩⟩
  | cons x xs =>
    simp only [aeqNil, isNil, boolP, abslice, aappend, alist, rlist, List.replicate]
    exact ⟨by simp, fun _ => ⟨by simpa using hb, h1, .inr trivial, hfin _ (.inl rfl)⟩⟩
theorem clone85n (H : List AObj) : ACalls Try.prog 85 [.nils] H fun r H' => r = .lst 1 [] ∧ H' = H := by
  refine ok85.acalls (by simp [fi85]) ?_
  simp only [fi85, ir85, awp, aops, agd, aop, put, get, aval, prune, setE, argEnv, AV.unown, List.map, Nat.reduceEqDiff, reduceIte, aret, ares]
  simp only [aeqNil, isNil, boolP]
  exact ⟨fun _ => ⟨.inr trivial, H.length, Nat.le_refl _, _, .inr (.inr (.inr (.inl ⟨rfl, 1, rfl⟩))), rfl, rfl, by simp⟩, by simp⟩
def clone1P : List AV → Option AV
  | [.lst _ xs] => if (xs.all fun y => y.cells.length == 1 && y.cells.all AV.one) = true ∧ xs.length * 8 ≤ 140737488355328 ∧ belowL 0 xs = true then some (.lst 1 xs) else none
  | [.nils] => some (.lst 1 [])
  | _ => none
theorem belowL_mono0 {xs : List AV} (h : belowL 0 xs = true) (k : Nat) : belowL k xs = true := belowL_mono (Nat.zero_le _) xs h
theorem clone85_ok : EntOk Try.prog 85 (.prim clone1P) := by
  intro args r H h
  unfold clone1P at h
  split at h <;> try cases h
  rotate_left
  · exact clone85n H
  split at h <;> cases h
  rename_i hc
  refine clone85 _ _ _ ?_ hc.2.1 (belowL_mono0 hc.2.2 _)
  intro y hy
  have := List.all_eq_true.1 hc.1 y hy
  simpa using this
end Go.Abs
end
section
/- Trees, and what the operations do with them. -/
set_option maxRecDepth 100000
set_option linter.unusedSimpArgs false
set_option linter.defProp false
namespace Go.Abs
open Go

inductive T where
  | mk (k n : Int) (l : List T)
  deriving Inhabited
mutual
def T.av : T → AV
  | .mk k n l => .agg [.int .i64 k, .int .i64 n, .lst 0 (avs l)]
def avs : List T → List AV
  | [] => []
  | x :: r => x.av :: avs r
end
def T.k : T → Int | .mk k _ _ => k
def T.n : T → Int | .mk _ n _ => n
def T.l : T → List T | .mk _ _ l => l
theorem T.av_eq (x : T) : x.av = .agg [.int .i64 x.k, .int .i64 x.n, .lst 0 (avs x.l)] := by cases x; rfl
theorem avs_map : ∀ l, avs l = l.map T.av
  | [] => rfl
  | x :: r => by simp [avs, avs_map r]
theorem avs_len (l : List T) : (avs l).length = l.length := by simp [avs_map]
theorem avs_getD (l : List T) (i : Nat) (h : i < l.length) : (avs l).getD i .any = (l.getD i default).av := by
  simp [avs_map, h]
mutual
theorem T.av_blw (n : Nat) : ∀ x : T, x.av.blw n = true
  | .mk k m l => by simp [T.av, AV.blw, belowL, avs_blw n l]
theorem avs_blw (n : Nat) : ∀ l : List T, belowL n (avs l) = true
  | [] => rfl
  | x :: r => by simp [avs, belowL, T.av_blw n x, avs_blw n r]
end
theorem T.agg_cells (x : T) : AV.agg x.av.cells = x.av := by cases x; rfl
theorem T.av_val (x : T) : x.av.val = true := by cases x; rfl
theorem T.av_one (x : T) : x.av.cells.all AV.one = true := by cases x; rfl
theorem T.av_unown (x : T) : x.av.unown = x.av := by cases x; rfl
theorem T.av_drop (x : T) : x.av.drop = x.av := by cases x; rfl
theorem T.cells_unown (x : T) : x.av.cells.map AV.unown = x.av.cells := by cases x; rfl
theorem T.cells_drop (x : T) : x.av.cells.map AV.drop = x.av.cells := by cases x; rfl
theorem T.av_clen (x : T) : x.av.cells.length = 3 := by cases x; rfl

theorem lens_avs (o : Nat) (l : List T) : (∀ (own : Nat) (xs : List AV), AV.lst o (avs l) = AV.lst own xs → ∀ z ∈ xs, z.cells.length = 3) = True := by
  simp only [eq_iff_iff, iff_true]
  intro own xs e z hz
  cases e
  rw [avs_map] at hz
  obtain ⟨y, _, rfl⟩ := List.mem_map.1 hz
  exact y.av_clen
theorem idx_avs (e o : Nat) (l : List T) (k : IntKind) (i : Nat) (φ : AV → Prop) : aindexAddr e (.lst o (avs l)) (.int k (i : Int)) φ = (i < l.length ∧ φ (.iptr (l.getD i default).av)) := by
  simp only [aindexAddr, avs_len, Int.toNat_natCast, eq_iff_iff]
  constructor
  · rintro ⟨_, h, h2⟩; rw [avs_getD _ _ h] at h2; exact ⟨h, h2⟩
  · rintro ⟨h, h2⟩; rw [avs_getD _ _ h]; exact ⟨by omega, h, h2⟩
theorem load_iptr_T (x : T) (H : List AObj) (φ : AV → Prop) : aload (some 3) (.iptr x.av) H φ = φ x.av := by
  simp [aload, T.av_clen, T.agg_cells]
theorem sp_T (a b c : AV) (x : T) : asplice [a, b, c] 0 x.av.cells = x.av.cells := by simp [asplice, T.av_clen]
theorem bl_T (n : Nat) (x : T) : belowL n x.av.cells = true := belowL_cells (x.av_blw _)
theorem loadC_T (x : T) (φ : AV → Prop) : loadC (some (.cells x.av.cells)) (some 3) 0 φ = φ x.av := by
  have e : List.map AV.drop (List.take 3 (List.drop 0 x.av.cells)) = x.av.cells := by cases x; rfl
  simp only [loadC, e, T.agg_cells]
  simp [T.av_clen]
theorem fk (x : T) (φ : AV → Prop) : afieldAddr 0 none (.iptr x.av) φ = φ (.iptr (.int .i64 x.k)) := by
  cases x; simp [afieldAddr, apart, T.av, AV.cells, T.k, AV.one]
theorem fn_ (x : T) (φ : AV → Prop) : afieldAddr 1 none (.iptr x.av) φ = φ (.iptr (.int .i64 x.n)) := by
  cases x; simp [afieldAddr, apart, T.av, AV.cells, T.n, AV.one]
theorem fl (x : T) (φ : AV → Prop) : afieldAddr 2 none (.iptr x.av) φ = φ (.iptr (.lst 0 (avs x.l))) := by
  cases x; simp [afieldAddr, apart, T.av, AV.cells, T.l, AV.one]


/-! ### Lists of numbers -/
def ints (l : List Int) : List AV := l.map (AV.int .i64)
theorem ints_len (l : List Int) : (ints l).length = l.length := by simp [ints]
theorem ints_blw (n : Nat) (l : List Int) : belowL n (ints l) = true := by
  rw [belowL_iff]; intro x hx; obtain ⟨y, _, rfl⟩ := List.mem_map.1 hx; rfl
theorem lens_ints (o : Nat) (l : List Int) : (∀ (own : Nat) (xs : List AV), AV.lst o (ints l) = AV.lst own xs → ∀ z ∈ xs, z.cells.length = 1) = True := by
  simp only [eq_iff_iff, iff_true]
  intro own xs e z hz
  cases e
  obtain ⟨y, _, rfl⟩ := List.mem_map.1 hz
  rfl
theorem idx_ints (e o : Nat) (l : List Int) (k : IntKind) (i : Nat) (φ : AV → Prop) : aindexAddr e (.lst o (ints l)) (.int k (i : Int)) φ = (i < l.length ∧ φ (.iptr (.int .i64 (l.getD i 0)))) := by
  simp only [aindexAddr, ints_len, Int.toNat_natCast, eq_iff_iff]
  constructor
  · rintro ⟨_, h, h2⟩; refine ⟨h, ?_⟩; simpa [ints, h] using h2
  · rintro ⟨h, h2⟩; refine ⟨by omega, h, ?_⟩; simpa [ints, h] using h2
theorem ints_snoc (l : List Int) (n : Int) : ints l ++ [.int .i64 n] = ints (l ++ [n]) := by simp [ints]
theorem ok_int (k : IntKind) (n : Int) : okE 1 [.int k n] = True := by simp [okE, AV.cells, AV.one]
theorem ok_ints (l : List Int) : okE 1 (ints l) = True := by
  simp only [okE, eq_iff_iff, iff_true]
  intro y hy
  obtain ⟨z, _, rfl⟩ := List.mem_map.1 hy
  exact ⟨rfl, rfl⟩
theorem ok_T (x : T) : okE 3 [x.av] = True := by
  simp only [okE, eq_iff_iff, iff_true]
  intro y hy
  rw [List.mem_singleton] at hy
  subst hy
  exact ⟨x.av_clen, x.av_one⟩
theorem cn_int (k : IntKind) (n : Int) : canon (.int k n) = .int k n := _root_.id rfl
theorem cn_T (x : T) : canon x.av = x.av := by cases x; rfl
theorem bs0 (z : AV) (esz : Nat) (φ : List AV → Prop) : abslice (List.replicate 0 z) esz [] φ = φ [] := _root_.id rfl
theorem bs1 (z x : AV) (esz : Nat) (φ : List AV → Prop) : abslice (List.replicate 1 (canon z)) esz [(0, x)] φ = (x.val = true ∧ x.cells.length = esz ∧ φ [canon x]) := by
  simp [abslice]
theorem bs2 (z x y : AV) (esz : Nat) (φ : List AV → Prop) : abslice (List.replicate 2 (canon z)) esz [(0, x), (1, y)] φ = (x.val = true ∧ x.cells.length = esz ∧ y.val = true ∧ y.cells.length = esz ∧ φ [canon x, canon y]) := by
  simp [abslice, List.replicate]
theorem bs3 (z x y u : AV) (esz : Nat) (φ : List AV → Prop) : abslice (List.replicate 3 (canon z)) esz [(0, x), (1, y), (2, u)] φ = (x.val = true ∧ x.cells.length = esz ∧ y.val = true ∧ y.cells.length = esz ∧ u.val = true ∧ u.cells.length = esz ∧ φ [canon x, canon y, canon u]) := by
  simp [abslice, List.replicate]
@[congr] theorem abslice_congr {xs : List AV} {esz : Nat} {ps ps' : List (Nat × AV)} {φ : List AV → Prop} (h : nrm ps = ps') : abslice xs esz ps φ = abslice xs esz ps' φ := by subst h; rfl

/-- Plain laws, for simp. -/
def stepsN := (And.intro (And.intro (And.intro (And.intro @or_true @true_or) (And.intro @true_and @and_true)) (And.intro (And.intro @true_implies @Bool.true_and) (And.intro @Bool.and_true (And.intro @Bool.not_true @Bool.not_false)))) (And.intro (And.intro (And.intro @decide_true @decide_false) (And.intro @Classical.not_not @not_true_eq_false)) (And.intro (And.intro @not_false_eq_true @false_implies) (And.intro @Int.not_le (And.intro @Int.not_lt @Nat.le_refl)))))
/-- What the operations do with trees and lists of numbers, for simp. -/
def stepsT := (And.intro (And.intro (And.intro (And.intro (And.intro @avs_len @T.av_blw) (And.intro @avs_blw @T.av_val)) (And.intro (And.intro @T.av_one @T.av_unown) (And.intro @T.av_drop @T.cells_unown))) (And.intro (And.intro (And.intro @T.cells_drop @T.av_clen) (And.intro @T.agg_cells @lens_avs)) (And.intro (And.intro @idx_avs @load_iptr_T) (And.intro @sp_T (And.intro @bl_T @loadC_T))))) (And.intro (And.intro (And.intro (And.intro @fk @fn_) (And.intro @fl @ints_len)) (And.intro (And.intro @ints_blw @lens_ints) (And.intro @idx_ints @ints_snoc))) (And.intro (And.intro (And.intro @ok_int @ok_T) (And.intro @ok_ints @cn_int)) (And.intro (And.intro @cn_T @bs0) (And.intro @bs1 (And.intro @bs2 @bs3))))))
end Go.Abs
end
section
set_option maxRecDepth 100000
set_option linter.unusedSimpArgs false
namespace Go.Abs
open Go Go.Proofs
mutual
def T.same : T → T → Bool
  | .mk k n l, .mk k' n' l' => k == k' && n == n' && sames l l'
def sames : List T → List T → Bool
  | [], [] => true
  | x :: r, y :: s => x.same y && sames r s
  | _, _ => false
end
theorem sames_len : ∀ {l m : List T}, sames l m = true → l.length = m.length
  | [], [], _ => rfl
  | x :: r, y :: s, h => by simp only [sames, Bool.and_eq_true] at h; simp [sames_len h.2]
  | [], _ :: _, h => by simp [sames] at h
  | _ :: _, [], h => by simp [sames] at h

theorem sames_drop {xs ys : List T} {i : Nat} (h1 : i < xs.length) (h2 : i < ys.length) : sames (xs.drop i) (ys.drop i) = ((xs.getD i default).same (ys.getD i default) && sames (xs.drop (i + 1)) (ys.drop (i + 1))) := by
  rw [List.drop_eq_getElem_cons h1, List.drop_eq_getElem_cons h2]
  simp [sames, h1, h2]

theorem mem_getD {l : List T} {i : Nat} (h : i < l.length) : l.getD i default ∈ l := by simp [h]
theorem T.lt {x y : T} (h : x ∈ y.l) : SizeOf.sizeOf x < SizeOf.sizeOf y := by
  cases y with
  | mk k n l =>
    have := List.sizeOf_lt_of_mem h
    simp only [T.l] at this
    simp only [T.mk.sizeOf_spec]
    omega
/-! ### Compare -/
end Go.Abs
end
section
set_option maxRecDepth 100000
set_option linter.unusedSimpArgs false
namespace Go.Abs
open Go Go.Proofs
mutual
def lookT : T → Int → Int → Bool × Int
  | .mk _ _ l, deep, left => if left - 1 < 0 ∨ 1000 < deep then (false, left - 1) else looks l (deep + 1) (left - 1)
def looks : List T → Int → Int → Bool × Int
  | [], _, left => (true, left)
  | x :: r, deep, left => if (lookT x deep left).1 = true then looks r deep (lookT x deep left).2 else (false, (lookT x deep left).2)
end
def fewL (l : List T) : Bool := (looks l 1 6000).1
mutual
theorem lookT_le : ∀ (x : T) (deep left : Int), (lookT x deep left).2 ≤ left ∧ (0 ≤ left → -1 ≤ (lookT x deep left).2 ∧ ((lookT x deep left).1 = true → 0 ≤ (lookT x deep left).2))
  | .mk k n l, deep, left => by
    simp only [lookT]
    split
    · simp; omega
    · rename_i hn
      have := looks_le l (deep + 1) (left - 1)
      exact ⟨by omega, fun _ => this.2 (by omega)⟩
theorem looks_le : ∀ (l : List T) (deep left : Int), (looks l deep left).2 ≤ left ∧ (0 ≤ left → -1 ≤ (looks l deep left).2 ∧ ((looks l deep left).1 = true → 0 ≤ (looks l deep left).2))
  | [], deep, left => by simp [looks]; omega
  | x :: r, deep, left => by
    have h1 := lookT_le x deep left
    simp only [looks]
    split
    · rename_i hb
      have h2 := looks_le r deep (lookT x deep left).2
      exact ⟨by omega, fun h0 => h2.2 ((h1.2 h0).2 hb)⟩
    · exact ⟨h1.1, fun h0 => ⟨(h1.2 h0).1, fun e => by cases e⟩⟩
end
theorem looks_drop {l : List T} {i : Nat} {d left : Int} (h : i < l.length) : looks (l.drop i) d left = if (lookT (l.getD i default) d left).1 = true then looks (l.drop (i + 1)) d (lookT (l.getD i default) d left).2 else (false, (lookT (l.getD i default) d left).2) := by
  rw [List.drop_eq_getElem_cons h]
  simp [looks, h]

def fewObjs (n : Nat) (left : Int) : List AObj := [.cells [.int .i64 left], .cells [.fn (.func 49) [] [.ptr n 0, .ptr (n + 1) 0]]]
theorem c49 (H : List AObj) (x : T) (deep left : Int) (h0 : 0 ≤ left) (h1 : left ≤ 6000) (h2 : 0 ≤ deep) (h3 : deep ≤ 1001) :
    ACalls Try.prog 49 [x.av, .int .i64 deep, .ptr H.length 0, .ptr (H.length + 1) 0] (H ++ fewObjs H.length left) fun r H' => r = .bool (lookT x deep left).1 ∧ H' = H ++ fewObjs H.length (lookT x deep left).2 := by
  have ih : ∀ y ∈ x.l, ∀ (deep left : Int), 0 ≤ left → left ≤ 6000 → 0 ≤ deep → deep ≤ 1001 →
    ACalls Try.prog 49 [y.av, .int .i64 deep, .ptr H.length 0, .ptr (H.length + 1) 0] (H ++ fewObjs H.length left) fun r H' => r = .bool (lookT y deep left).1 ∧ H' = H ++ fewObjs H.length (lookT y deep left).2 :=
      fun y hy deep left h0 h1 h2 h3 => c49 H y deep left h0 h1 h2 h3
  have e : lookT x deep left = if left - 1 < 0 ∨ 1000 < deep then (false, left - 1) else looks x.l (deep + 1) (left - 1) := by cases x; simp only [lookT, T.l]
  refine ok49.calls (by simp [fi49]) ?_
  simp only [fi49, ir49]
  simp only [fewObjs, stepsS, stepsT, stepsN, if_true, forall_const, ne_eq, implies_true, List.nil_append, List.append_nil, List.cons_append, List.length_cons, List.length_nil, Nat.reduceEqDiff, Nat.reduceAdd, Nat.reduceLT, Nat.reduceLeDiff, ↓reduceIte, reduceCtorEq, Int.reduceEq, Int.reduceLT]
  rw [wrap_in (left - 1) (by omega)]
  refine ⟨fun h4 => ⟨fun h5 => ?_, fun h5 hl => ?_⟩, fun h4 => ?_⟩
  · rw [e, if_pos (.inr h5)]
    exact ret2 (by simp [fewObjs]) rfl rfl rfl
  · have e2 : lookT x deep left = looks x.l (deep + 1) (left - 1) := by rw [e, if_neg (by omega)]
    refine swp_loop_st x.l.length (fun i (s : Int) => 0 ≤ s ∧ s ≤ 6000 ∧ looks (x.l.drop i) (deep + 1) s = lookT x deep left)
      (fun i s => [(1, .int .i64 deep), (3, .ptr (H.length + 1) 0), (18, .lst 0 (avs x.l)), (19, .int .i64 x.l.length), (20, .int .i64 i)]) (fun i s => H ++ fewObjs H.length s) (left - 1) ⟨⟨by omega, by omega, by rw [e2]; rfl⟩, sle_refl _ _ _⟩ fun i s hi hI => ?_
    obtain ⟨k0, k1, hI⟩ := hI
    simp only [fewObjs, stepsS, stepsT, stepsN, if_true, forall_const, ne_eq, implies_true, List.nil_append, List.append_nil, List.cons_append, List.length_cons, List.length_nil, Nat.reduceEqDiff, Nat.reduceAdd, Nat.reduceLT, Nat.reduceLeDiff, ↓reduceIte, reduceCtorEq, Int.reduceEq, Int.reduceLT]
    refine ⟨fun hlt => ⟨len_lt hlt, ?_⟩, fun hge => ?_⟩
    · have hlt := len_lt hlt
      rw [wrap_in (deep + 1) (by omega)]
      rw [looks_drop hlt] at hI
      have hle := lookT_le (x.l.getD i default) (deep + 1) s
      refine scall_to (ih _ (mem_getD hlt) (deep + 1) s k0 k1 (by omega) (by omega)) ?_
      rintro r H' ⟨rfl, rfl⟩
      simp only [fewObjs, stepsS, stepsT, stepsN, if_true, forall_const, ne_eq, implies_true, List.nil_append, List.append_nil, List.cons_append, List.length_cons, List.length_nil, Nat.reduceEqDiff, Nat.reduceAdd, Nat.reduceLT, Nat.reduceLeDiff, ↓reduceIte, reduceCtorEq, Int.reduceEq, Int.reduceLT]
      refine scond_b (fun hb => ?_) (fun hb => ?_) <;> simp only [stepsS, stepsT, stepsN, if_true, forall_const, ne_eq, implies_true, List.nil_append, List.append_nil, List.cons_append, List.length_cons, List.length_nil, Nat.reduceEqDiff, Nat.reduceAdd, Nat.reduceLT, Nat.reduceLeDiff, ↓reduceIte, reduceCtorEq, Int.reduceEq, Int.reduceLT]
      · rw [if_pos hb] at hI
        exact ⟨i + 1, (lookT (x.l.getD i default) (deep + 1) s).2, ⟨hlt, (hle.2 k0).2 hb, by omega, hI⟩, by omega, sle_eq (by rw [wrap_nat i (by omega)]) rfl⟩
      · rw [if_neg (by rw [hb]; simp)] at hI
        rw [← hI]
        exact ret2 (by simp [fewObjs]) rfl rfl rfl
    · rw [List.drop_of_length_le (len_nlt hge)] at hI
      rw [← hI]
      exact ret2 (by simp [fewObjs]) rfl rfl rfl
  · rw [e, if_pos (.inl h4)]
    exact ret2 (by simp [fewObjs]) rfl rfl rfl
termination_by SizeOf.sizeOf x
decreasing_by exact T.lt hy
theorem c14 (l : List T) : Pure Try.prog 14 [.lst 0 (avs l)] (.bool (fewL l)) := by
  refine fun H => ok14.calls (by simp [fi14]) ?_
  simp only [fi14, ir14]
  simp only [stepsS, stepsT, stepsN, if_true, forall_const, ne_eq, implies_true, List.nil_append, List.append_nil, List.cons_append, List.length_cons, List.length_nil, Nat.reduceEqDiff, Nat.reduceAdd, Nat.reduceLT, Nat.reduceLeDiff, ↓reduceIte, reduceCtorEq, Int.reduceEq, Int.reduceLT]
  refine ⟨by simp; omega, fun hl => ?_⟩
  refine swp_loop_st l.length (fun i (s : Int) => 0 ≤ s ∧ s ≤ 6000 ∧ (looks (l.drop i) 1 s).1 = fewL l)
      (fun i s => [(4, .ptr (H.length + 1) 0), (8, .lst 0 (avs l)), (9, .int .i64 l.length), (10, .int .i64 i)]) (fun i s => H ++ fewObjs H.length s) 6000 ⟨⟨by omega, by omega, rfl⟩, sle_refl _ _ _⟩ fun i s hi hI => ?_
  obtain ⟨k0, k1, hI⟩ := hI
  simp only [fewObjs, stepsS, stepsT, stepsN, if_true, forall_const, ne_eq, implies_true, List.nil_append, List.append_nil, List.cons_append, List.length_cons, List.length_nil, Nat.reduceEqDiff, Nat.reduceAdd, Nat.reduceLT, Nat.reduceLeDiff, ↓reduceIte, reduceCtorEq, Int.reduceEq, Int.reduceLT]
  refine ⟨fun hlt => ⟨len_lt hlt, ?_⟩, fun hge => ?_⟩
  · have hlt := len_lt hlt
    rw [looks_drop hlt] at hI
    have hle := lookT_le (l.getD i default) 1 s
    refine scall_to (c49 H (l.getD i default) 1 s k0 k1 (by omega) (by omega)) ?_
    rintro r H' ⟨rfl, rfl⟩
    simp only [fewObjs, stepsS, stepsT, stepsN, if_true, forall_const, ne_eq, implies_true, List.nil_append, List.append_nil, List.cons_append, List.length_cons, List.length_nil, Nat.reduceEqDiff, Nat.reduceAdd, Nat.reduceLT, Nat.reduceLeDiff, ↓reduceIte, reduceCtorEq, Int.reduceEq, Int.reduceLT]
    refine scond_b (fun hb => ?_) (fun hb => ?_) <;> simp only [stepsS, stepsT, stepsN, if_true, forall_const, ne_eq, implies_true, List.nil_append, List.append_nil, List.cons_append, List.length_cons, List.length_nil, Nat.reduceEqDiff, Nat.reduceAdd, Nat.reduceLT, Nat.reduceLeDiff, ↓reduceIte, reduceCtorEq, Int.reduceEq, Int.reduceLT]
    · rw [if_pos hb] at hI
      exact ⟨i + 1, (lookT (l.getD i default) 1 s).2, ⟨hlt, (hle.2 k0).2 hb, by omega, hI⟩, by omega, sle_eq (by rw [wrap_nat i (by omega)]) rfl⟩
    · rw [if_neg (by rw [hb]; simp)] at hI
      rw [← hI]
      exact ret1 rfl rfl
  · rw [List.drop_of_length_le (len_nlt hge)] at hI
    rw [← hI]
    exact ret1 rfl rfl
end Go.Abs
end
section
/- What a tree is: the program's way and the document's. -/
set_option maxRecDepth 100000
set_option linter.unusedSimpArgs false
namespace Go.Abs
open Go Go.Proofs

/-! ### measure -/
mutual
def cntT : T → Int → Int × Int → Int × Int
  | .mk _ _ l, d, s => cnts l (d + 1) (s.1 + 1, max s.2 d)
def cnts : List T → Int → Int × Int → Int × Int
  | [], _, s => s
  | x :: r, d, s => if 2000 < s.1 ∨ 200 < s.2 then s else cnts r d (cntT x d s)
end
def cntOk (d : Int) (s : Int × Int) : Prop := 0 ≤ s.1 ∧ s.1 ≤ 2000 ∧ 0 ≤ s.2 ∧ s.2 ≤ 200 ∧ 0 ≤ d ∧ d ≤ 201
def cntOut (s : Int × Int) : Prop := 0 ≤ s.1 ∧ s.1 ≤ 2001 ∧ 0 ≤ s.2 ∧ s.2 ≤ 201
mutual
theorem cntT_out : ∀ (x : T) (d : Int) (s : Int × Int), cntOk d s → cntOut (cntT x d s) ∧ (cntT x d s).2 ≥ d
  | .mk k n l, d, s, h => by
    simp only [cntT]
    obtain ⟨h1, h2, h3, h4, h5, h6⟩ := h
    have := cnts_out l (d + 1) (s.1 + 1, max s.2 d) (by unfold cntOut; simp only; omega) (by omega) (by simp only; omega)
    refine ⟨this.1, ?_⟩
    have h := this.2
    simp only at h
    omega
theorem cnts_out : ∀ (l : List T) (d : Int) (s : Int × Int), cntOut s → 0 ≤ d → d ≤ s.2 + 1 → cntOut (cnts l d s) ∧ s.2 ≤ (cnts l d s).2
  | [], d, s, h, _, _ => by simp [cnts, h]
  | x :: r, d, s, h, hd, hd2 => by
    simp only [cnts]
    split
    · exact ⟨h, Int.le_refl _⟩
    · rename_i hn
      obtain ⟨h1, h2, h3, h4⟩ := h
      have hx := cntT_out x d s ⟨h1, by omega, h3, by omega, hd, by omega⟩
      have hr := cnts_out r d (cntT x d s) hx.1 hd (by omega)
      have := cntT_mono x d s
      exact ⟨hr.1, by omega⟩
theorem cntT_mono : ∀ (x : T) (d : Int) (s : Int × Int), s.2 ≤ (cntT x d s).2
  | .mk k n l, d, s => by
    simp only [cntT]
    have := cnts_mono l (d + 1) (s.1 + 1, max s.2 d)
    simp only at this
    omega
theorem cnts_mono : ∀ (l : List T) (d : Int) (s : Int × Int), s.2 ≤ (cnts l d s).2
  | [], d, s => by simp [cnts]
  | x :: r, d, s => by
    simp only [cnts]
    split
    · omega
    · have h1 := cntT_mono x d s
      have h2 := cnts_mono r d (cntT x d s)
      omega
end
theorem cnts_drop {l : List T} {i : Nat} {d : Int} {s : Int × Int} (h : i < l.length) : cnts (l.drop i) d s = if 2000 < s.1 ∨ 200 < s.2 then s else cnts (l.drop (i + 1)) d (cntT (l.getD i default) d s) := by
  rw [List.drop_eq_getElem_cons h]
  simp [cnts, h]
def cntObj (s : Int × Int) : List AObj := [.cells [.int .i64 s.1, .int .i64 s.2]]
theorem c80 (H : List AObj) (x : T) (d : Int) (s : Int × Int) (hs : cntOk d s) :
    ACalls Try.prog 80 [.ptr H.length 0, x.av, .int .i64 d] (H ++ cntObj s) fun r H' => r = .tuple [] ∧ H' = H ++ cntObj (cntT x d s) := by
  have ih : ∀ y ∈ x.l, ∀ (d : Int) (s : Int × Int), cntOk d s → ACalls Try.prog 80 [.ptr H.length 0, y.av, .int .i64 d] (H ++ cntObj s) fun r H' => r = .tuple [] ∧ H' = H ++ cntObj (cntT y d s) :=
    fun y hy d s hs => c80 H y d s hs
  have e : cntT x d s = cnts x.l (d + 1) (s.1 + 1, max s.2 d) := by cases x; simp only [cntT, T.l]
  obtain ⟨h1, h2, h3, h4, h5, h6⟩ := hs
  have w1 : IntKind.i64.wrap (s.1 + 1) = s.1 + 1 := wrap_in _ (by omega)
  have w2 : IntKind.i64.wrap (d + 1) = d + 1 := wrap_in _ (by omega)
  refine ok80.calls (by simp [fi80]) ?_
  simp only [fi80, ir80]
  simp only [w1, cntObj, stepsS, stepsT, stepsN, if_true, forall_const, ne_eq, implies_true, List.nil_append, List.append_nil, List.cons_append, List.length_cons, List.length_nil, Nat.reduceEqDiff, Nat.reduceAdd, Nat.reduceLT, Nat.reduceLeDiff, ↓reduceIte, reduceCtorEq, Int.reduceEq, Int.reduceLT]
  intro hl
  have hout : cntOut (s.1 + 1, max s.2 d) := by unfold cntOut; simp only; omega
  have hmd : d ≤ max s.2 d := by omega
  generalize max s.2 d = m at *
  refine swp_loop_st x.l.length (fun i (t : Int × Int) => cntOut t ∧ d ≤ t.2 ∧ cnts (x.l.drop i) (d + 1) t = cntT x d s)
      (fun i t => [(0, .ptr H.length 0), (2, .int .i64 d), (25, .lst 0 (avs x.l)), (26, .int .i64 x.l.length), (27, .int .i64 i)]) (fun i t => H ++ cntObj t) (s.1 + 1, m) ⟨⟨hout, hmd, by rw [e]; rfl⟩, sle_refl _ _ _⟩ fun i t hi hI => ?_
  obtain ⟨⟨k1, k2, k3, k4⟩, k5, hI⟩ := hI
  simp only [w2, cntObj, stepsS, stepsT, stepsN, if_true, forall_const, ne_eq, implies_true, List.nil_append, List.append_nil, List.cons_append, List.length_cons, List.length_nil, Nat.reduceEqDiff, Nat.reduceAdd, Nat.reduceLT, Nat.reduceLeDiff, ↓reduceIte, reduceCtorEq, Int.reduceEq, Int.reduceLT]
  refine ⟨fun hlt => ⟨len_lt hlt, ?_⟩, fun hge => ?_⟩
  · have hlt := len_lt hlt
    rw [cnts_drop hlt] at hI
    refine ⟨fun hn1 => ⟨fun hn2 => ?_, fun hn2 => ?_⟩, fun hn1 => ?_⟩
    · rw [if_pos (.inr hn2)] at hI; rw [← hI]; exact ret_none (by simp [cntObj]) rfl
    · rw [if_neg (by omega)] at hI
      have ho : cntOk (d + 1) t := ⟨k1, by omega, k3, by omega, by omega, by omega⟩
      have hx := cntT_out (x.l.getD i default) (d + 1) t ho
      refine scall_to (ih _ (mem_getD hlt) (d + 1) t ho) ?_
      rintro r H' ⟨rfl, rfl⟩
      simp only [cntObj, stepsS, stepsT, stepsN, if_true, forall_const, ne_eq, implies_true, List.nil_append, List.append_nil, List.cons_append, List.length_cons, List.length_nil, Nat.reduceEqDiff, Nat.reduceAdd, Nat.reduceLT, Nat.reduceLeDiff, ↓reduceIte, reduceCtorEq, Int.reduceEq, Int.reduceLT]
      exact ⟨i + 1, cntT (x.l.getD i default) (d + 1) t, ⟨hlt, hx.1, by omega, hI⟩, by omega, sle_eq (by rw [wrap_nat i (by omega)]) rfl⟩
    · rw [if_pos (.inl hn1)] at hI; rw [← hI]; exact ret_none (by simp [cntObj]) rfl
  · rw [List.drop_of_length_le (len_nlt hge)] at hI
    rw [← hI]
    exact ret_none (by simp [cntObj]) rfl
termination_by SizeOf.sizeOf x
decreasing_by exact T.lt hy

def overB (s : Int × Int) : Bool := decide (2000 < s.1) || decide (200 < s.2)
theorem c81 (H : List AObj) (s : Int × Int) : ACalls Try.prog 81 [.ptr H.length 0] (H ++ cntObj s) fun r H' => r = .bool (overB s) ∧ H' = H ++ cntObj s := by
  refine ok81.calls (by simp [fi81]) ?_
  simp only [fi81, ir81]
  simp only [cntObj, stepsS, stepsT, stepsN, if_true, forall_const, ne_eq, implies_true, List.nil_append, List.append_nil, List.cons_append, List.length_cons, List.length_nil, Nat.reduceEqDiff, Nat.reduceAdd, Nat.reduceLT, Nat.reduceLeDiff, ↓reduceIte, reduceCtorEq, Int.reduceEq, Int.reduceLT]
  refine ⟨fun h => ?_, fun h => ?_⟩
  · exact ret2 (by simp [cntObj]) rfl (by simp [overB, Int.not_lt.2 h]) rfl
  · exact ret2 (by simp [cntObj]) rfl (by simp [overB, h]) rfl

/-! ### ContainsFunc -/
def idxT (p : T → Bool) : List T → Int → Int
  | [], _ => -1
  | x :: r, k => if p x = true then k else idxT p r (k + 1)
theorem idxT_any (p : T → Bool) : ∀ (l : List T) (k : Int), 0 ≤ k → (decide (0 ≤ idxT p l k) = l.any p)
  | [], k, _ => by simp [idxT]
  | x :: r, k, h => by
    simp only [idxT, List.any_cons]
    split
    · rename_i hp; simp [hp, h]
    · rename_i hp; simp [hp, idxT_any p r (k + 1) (by omega)]
theorem idxT_drop {p : T → Bool} {l : List T} {i : Nat} {k : Int} (h : i < l.length) : idxT p (l.drop i) k = if p (l.getD i default) = true then k else idxT p (l.drop (i + 1)) (k + 1) := by
  rw [List.drop_eq_getElem_cons h]
  simp [idxT, h]
theorem c108 (g : Nat) (p : T → Bool) (l : List T) (hf : ∀ x ∈ l, Pure Try.prog g [x.av] (.bool (p x))) :
    Pure Try.prog 108 [.lst 0 (avs l), .fn (.func g) [] []] (.int .i64 (idxT p l 0)) := by
  refine fun H => ok108.calls (by simp [fi108]) ?_
  simp only [fi108, ir108]
  simp only [stepsS, stepsT, stepsN, if_true, forall_const, ne_eq, implies_true, List.nil_append, List.append_nil, List.cons_append, List.length_cons, List.length_nil, Nat.reduceEqDiff, Nat.reduceAdd, Nat.reduceLT, Nat.reduceLeDiff, ↓reduceIte, reduceCtorEq, Int.reduceEq, Int.reduceLT]
  intro hl
  refine swp_loop_nat l.length (fun i => idxT p (l.drop i) i = idxT p l 0) (fun i => [(0, .lst 0 (avs l)), (1, .fn (.func g) [] []), (7, .int .i64 l.length), (8, .int .i64 i)]) (fun _ => H) ⟨rfl, sle_refl _ _ _⟩ fun i hi hI => ?_
  simp only [stepsS, stepsT, stepsN, if_true, forall_const, ne_eq, implies_true, List.nil_append, List.append_nil, List.cons_append, List.length_cons, List.length_nil, Nat.reduceEqDiff, Nat.reduceAdd, Nat.reduceLT, Nat.reduceLeDiff, ↓reduceIte, reduceCtorEq, Int.reduceEq, Int.reduceLT]
  refine ⟨fun hlt => ?_, fun hge => ?_⟩
  · have hlt := len_lt hlt
    rw [idxT_drop hlt] at hI
    refine ⟨hlt, scall_pure (hf _ (mem_getD hlt)) ?_⟩
    simp only [stepsS, stepsT, stepsN, if_true, forall_const, ne_eq, implies_true, List.nil_append, List.append_nil, List.cons_append, List.length_cons, List.length_nil, Nat.reduceEqDiff, Nat.reduceAdd, Nat.reduceLT, Nat.reduceLeDiff, ↓reduceIte, reduceCtorEq, Int.reduceEq, Int.reduceLT]
    refine scond_b (fun hb => ?_) (fun hb => ?_) <;> simp only [stepsS, stepsT, stepsN, if_true, forall_const, ne_eq, implies_true, List.nil_append, List.append_nil, List.cons_append, List.length_cons, List.length_nil, Nat.reduceEqDiff, Nat.reduceAdd, Nat.reduceLT, Nat.reduceLeDiff, ↓reduceIte, reduceCtorEq, Int.reduceEq, Int.reduceLT]
    · rw [if_pos hb] at hI
      exact ret0 rfl (by rw [← hI])
    · rw [if_neg (by rw [hb]; simp)] at hI
      exact ⟨i + 1, ⟨hlt, hI⟩, by omega, sle_eq (by rw [wrap_nat i (by omega)]) rfl⟩
  · rw [List.drop_of_length_le (len_nlt hge)] at hI
    exact ret0 rfl (by rw [← hI]; rfl)
theorem c92 (g : Nat) (p : T → Bool) (l : List T) (hf : ∀ x ∈ l, Pure Try.prog g [x.av] (.bool (p x))) :
    Pure Try.prog 92 [.lst 0 (avs l), .fn (.func g) [] []] (.bool (l.any p)) := by
  refine fun H => ok92.calls (by simp [fi92]) ?_
  simp only [fi92, ir92]
  simp only [stepsS, stepsT, stepsN, if_true, forall_const, ne_eq, implies_true, List.nil_append, List.append_nil, List.cons_append, List.length_cons, List.length_nil, Nat.reduceEqDiff, Nat.reduceAdd, Nat.reduceLT, Nat.reduceLeDiff, ↓reduceIte, reduceCtorEq, Int.reduceEq, Int.reduceLT]
  refine scall_pure (c108 g p l hf) ?_
  simp only [stepsS, stepsT, stepsN, if_true, forall_const, ne_eq, implies_true, List.nil_append, List.append_nil, List.cons_append, List.length_cons, List.length_nil, Nat.reduceEqDiff, Nat.reduceAdd, Nat.reduceLT, Nat.reduceLeDiff, ↓reduceIte, reduceCtorEq, Int.reduceEq, Int.reduceLT]
  exact ret0 rfl (by rw [idxT_any p l 0 (by omega)])

/-! ### shaped -/
mutual
def T.shaped : T → Bool
  | .mk k n l => !(decide (n < 0) || (decide (k = 1) && decide (0 < l.length)) || (decide (k ≠ 1) && decide (k ≠ 2)) || decide (8 < l.length)) && shapeds l
def shapeds : List T → Bool
  | [] => true
  | x :: r => x.shaped && shapeds r
end
theorem shapeds_all : ∀ l, shapeds l = l.all T.shaped
  | [] => rfl
  | x :: r => by simp only [shapeds, List.all_cons, shapeds_all r]
theorem shapeds_any (l : List T) : (!(l.any fun x => !x.shaped)) = shapeds l := by
  rw [shapeds_all]
  induction l with
  | nil => rfl
  | cons x r ih => simp only [List.any_cons, List.all_cons, Bool.not_or, Bool.not_not, ih]
theorem T.shaped_eq (x : T) : x.shaped = (!(decide (x.n < 0) || (decide (x.k = 1) && decide (0 < x.l.length)) || (decide (x.k ≠ 1) && decide (x.k ≠ 2)) || decide (8 < x.l.length)) && shapeds x.l) := by
  cases x; simp only [T.shaped, T.k, T.n, T.l]; rfl
theorem shapeds_drop {l : List T} {i : Nat} (h : i < l.length) : shapeds (l.drop i) = ((l.getD i default).shaped && shapeds (l.drop (i + 1))) := by
  rw [List.drop_eq_getElem_cons h]
  simp [shapeds, h]
theorem T.shaped_go {x : T} (hh : ¬ (x.n < 0 ∨ (x.k = 1 ∧ 0 < x.l.length) ∨ (x.k ≠ 1 ∧ x.k ≠ 2) ∨ 8 < x.l.length)) : x.shaped = shapeds x.l := by
  rw [x.shaped_eq]
  have h1 : decide (x.n < 0) = false := Bool.eq_false_iff.2 (by simp only [ne_eq, Bool.and_eq_true, decide_eq_true_eq]; omega)
  have h2 : (decide (x.k = 1) && decide (0 < x.l.length)) = false := Bool.eq_false_iff.2 (by simp only [ne_eq, Bool.and_eq_true, decide_eq_true_eq]; omega)
  have h3 : (decide (x.k ≠ 1) && decide (x.k ≠ 2)) = false := Bool.eq_false_iff.2 (by simp only [ne_eq, Bool.and_eq_true, decide_eq_true_eq]; omega)
  have h4 : decide (8 < x.l.length) = false := Bool.eq_false_iff.2 (by simp only [ne_eq, Bool.and_eq_true, decide_eq_true_eq]; omega)
  rw [h1, h2, h3, h4]; rfl
theorem c109 (x : T) (h : Pure Try.prog 96 [x.av] (.bool x.shaped)) : Pure Try.prog 109 [x.av] (.bool (!x.shaped)) := by
  refine fun H => ok109.calls (by simp [fi109]) ?_
  simp only [fi109, ir109]
  simp only [stepsS, stepsT, stepsN, if_true, forall_const, ne_eq, implies_true, List.nil_append, List.append_nil, List.cons_append, List.length_cons, List.length_nil, Nat.reduceEqDiff, Nat.reduceAdd, Nat.reduceLT, Nat.reduceLeDiff, ↓reduceIte, reduceCtorEq, Int.reduceEq, Int.reduceLT]
  refine scall_pure h ?_
  simp only [stepsS, stepsT, stepsN, if_true, forall_const, ne_eq, implies_true, List.nil_append, List.append_nil, List.cons_append, List.length_cons, List.length_nil, Nat.reduceEqDiff, Nat.reduceAdd, Nat.reduceLT, Nat.reduceLeDiff, ↓reduceIte, reduceCtorEq, Int.reduceEq, Int.reduceLT]
  exact ret0 rfl rfl
theorem c96 (x : T) : Pure Try.prog 96 [x.av] (.bool x.shaped) := by
  have ih : ∀ y ∈ x.l, Pure Try.prog 109 [y.av] (.bool (!y.shaped)) := fun y hy => c109 y (c96 y)
  refine fun H => ok96.calls (by simp [fi96]) ?_
  simp only [fi96, ir96]
  simp (contextual := true) (maxSteps := 1000000) only [stepsS, stepsT, stepsN, if_true, forall_const, ne_eq, implies_true, List.nil_append, List.append_nil, List.cons_append, List.length_cons, List.length_nil, Nat.reduceEqDiff, Nat.reduceAdd, Nat.reduceLT, Nat.reduceLeDiff, ↓reduceIte, reduceCtorEq, Int.reduceEq, Int.reduceLT]
  have fin : ∀ (H' : List AObj), H' = H → (x.n < 0 ∨ (x.k = 1 ∧ 0 < x.l.length) ∨ (x.k ≠ 1 ∧ x.k ≠ 2) ∨ 8 < x.l.length) → aret H.length [RX.t 2] [(2, AV.bool false)] H' fun r H' => r = AV.bool x.shaped ∧ H' = H := by
    rintro H' rfl hh
    refine ret0 rfl ?_
    rw [x.shaped_eq]
    rcases hh with h | h | h | h <;> simp [h]
  have go : ¬ (x.n < 0 ∨ (x.k = 1 ∧ 0 < x.l.length) ∨ (x.k ≠ 1 ∧ x.k ≠ 2) ∨ 8 < x.l.length) → x.shaped = shapeds x.l := by
    intro hh
    rw [x.shaped_eq]
    have h1 : decide (x.n < 0) = false := Bool.eq_false_iff.2 (by simp only [ne_eq, Bool.and_eq_true, decide_eq_true_eq]; omega)
    have h2 : (decide (x.k = 1) && decide (0 < x.l.length)) = false := Bool.eq_false_iff.2 (by simp only [ne_eq, Bool.and_eq_true, decide_eq_true_eq]; omega)
    have h3 : (decide (x.k ≠ 1) && decide (x.k ≠ 2)) = false := Bool.eq_false_iff.2 (by simp only [ne_eq, Bool.and_eq_true, decide_eq_true_eq]; omega)
    have h4 : decide (8 < x.l.length) = false := Bool.eq_false_iff.2 (by simp only [ne_eq, Bool.and_eq_true, decide_eq_true_eq]; omega)
    rw [h1, h2, h3, h4]; rfl
  refine ⟨fun h => fin _ rfl (.inl h), fun h => ⟨fun h1 hl => ⟨fun h2 => fin _ rfl (by omega), fun h2 => ⟨fun h3 => fin _ rfl (by omega), fun h3 => scall_pure (c92 109 _ _ ih) ?_⟩⟩,
    fun h1 => ⟨fun h2 => fin _ rfl (by omega), fun h2 hl => ⟨fun h3 => fin _ rfl (by omega), fun h3 => scall_pure (c92 109 _ _ ih) ?_⟩⟩⟩⟩ <;>
  · simp only [stepsS, stepsT, stepsN, if_true, forall_const, ne_eq, implies_true, List.nil_append, List.append_nil, List.cons_append, List.length_cons, List.length_nil, Nat.reduceEqDiff, Nat.reduceAdd, Nat.reduceLT, Nat.reduceLeDiff, ↓reduceIte, reduceCtorEq, Int.reduceEq, Int.reduceLT]
    exact ret0 rfl (by rw [go (by omega), shapeds_any])
termination_by SizeOf.sizeOf x
decreasing_by exact T.lt hy

/-! ### isTree -/
def T.tree (x : T) : Bool := !overB (cntT x 1 (0, 0)) && x.shaped
theorem c57 (x : T) : Pure Try.prog 57 [x.av] (.bool x.tree) := by
  refine fun H => ok57.calls (by simp [fi57]) ?_
  simp only [fi57, ir57]
  simp only [stepsS, stepsT, stepsN, if_true, forall_const, ne_eq, implies_true, List.nil_append, List.append_nil, List.cons_append, List.length_cons, List.length_nil, Nat.reduceEqDiff, Nat.reduceAdd, Nat.reduceLT, Nat.reduceLeDiff, ↓reduceIte, reduceCtorEq, Int.reduceEq, Int.reduceLT]
  refine scall_to (c80 H x 1 (0, 0) (by unfold cntOk; simp)) ?_
  rintro r H' ⟨rfl, rfl⟩
  simp only [stepsS, stepsT, stepsN, if_true, forall_const, ne_eq, implies_true, List.nil_append, List.append_nil, List.cons_append, List.length_cons, List.length_nil, Nat.reduceEqDiff, Nat.reduceAdd, Nat.reduceLT, Nat.reduceLeDiff, ↓reduceIte, reduceCtorEq, Int.reduceEq, Int.reduceLT]
  refine scall_to (c81 H (cntT x 1 (0, 0))) ?_
  rintro r H' ⟨rfl, rfl⟩
  cases hb : overB (cntT x 1 (0, 0)) <;> simp (contextual := true) (maxSteps := 1000000) only [stepsS, stepsT, stepsN, if_true, forall_const, ne_eq, implies_true, List.nil_append, List.append_nil, List.cons_append, List.length_cons, List.length_nil, Nat.reduceEqDiff, Nat.reduceAdd, Nat.reduceLT, Nat.reduceLeDiff, ↓reduceIte, reduceCtorEq, Int.reduceEq, Int.reduceLT]
  · refine scall_pure (c96 x) ?_
    simp only [stepsS, stepsT, stepsN, if_true, forall_const, ne_eq, implies_true, List.nil_append, List.append_nil, List.cons_append, List.length_cons, List.length_nil, Nat.reduceEqDiff, Nat.reduceAdd, Nat.reduceLT, Nat.reduceLeDiff, ↓reduceIte, reduceCtorEq, Int.reduceEq, Int.reduceLT]
    exact ret1 rfl (by simp [T.tree, hb])
  · exact ret1 rfl (by simp [T.tree, hb])
theorem c93 (x : T) : Pure Try.prog 93 [x.av] (.bool (!x.tree)) := by
  refine fun H => ok93.calls (by simp [fi93]) ?_
  simp only [fi93, ir93]
  simp only [stepsS, stepsT, stepsN, if_true, forall_const, ne_eq, implies_true, List.nil_append, List.append_nil, List.cons_append, List.length_cons, List.length_nil, Nat.reduceEqDiff, Nat.reduceAdd, Nat.reduceLT, Nat.reduceLeDiff, ↓reduceIte, reduceCtorEq, Int.reduceEq, Int.reduceLT]
  refine scall_pure (c57 x) ?_
  simp only [stepsS, stepsT, stepsN, if_true, forall_const, ne_eq, implies_true, List.nil_append, List.append_nil, List.cons_append, List.length_cons, List.length_nil, Nat.reduceEqDiff, Nat.reduceAdd, Nat.reduceLT, Nat.reduceLeDiff, ↓reduceIte, reduceCtorEq, Int.reduceEq, Int.reduceLT]
  exact ret0 rfl rfl
def treesB (l : List T) : Bool := l.all T.tree
theorem c53 (l : List T) : Pure Try.prog 53 [.lst 0 (avs l)] (.int .i64 (if treesB l = true then 0 else 4)) := by
  refine fun H => ok53.calls (by simp [fi53]) ?_
  simp only [fi53, ir53]
  simp only [stepsS, stepsT, stepsN, if_true, forall_const, ne_eq, implies_true, List.nil_append, List.append_nil, List.cons_append, List.length_cons, List.length_nil, Nat.reduceEqDiff, Nat.reduceAdd, Nat.reduceLT, Nat.reduceLeDiff, ↓reduceIte, reduceCtorEq, Int.reduceEq, Int.reduceLT]
  refine scall_pure (c92 93 _ l fun x _ => c93 x) ?_
  have e : (l.any fun x => !x.tree) = !treesB l := by
    unfold treesB
    induction l with
    | nil => rfl
    | cons x r ih => simp only [List.any_cons, List.all_cons, ih, Bool.not_and]
  rw [e]
  cases treesB l <;> simp (contextual := true) (maxSteps := 1000000) only [stepsS, stepsT, stepsN, if_true, forall_const, ne_eq, implies_true, List.nil_append, List.append_nil, List.cons_append, List.length_cons, List.length_nil, Nat.reduceEqDiff, Nat.reduceAdd, Nat.reduceLT, Nat.reduceLeDiff, ↓reduceIte, reduceCtorEq, Int.reduceEq, Int.reduceLT]
  · exact ret0 rfl rfl
  · exact ret0 rfl rfl

/-! ### The document's way -/
mutual
def ctdT : T → Int → Int → Int × Bool
  | .mk _ _ l, left, deep => if left - 1 < 0 ∨ 200 < deep then (left - 1, false) else ctds l (left - 1) (deep + 1)
def ctds : List T → Int → Int → Int × Bool
  | [], left, _ => (left, true)
  | x :: r, left, deep => if (ctdT x left deep).2 = true then ctds r (ctdT x left deep).1 deep else ((ctdT x left deep).1, false)
end
mutual
theorem ctdT_le : ∀ (x : T) (left deep : Int), (ctdT x left deep).1 ≤ left ∧ (0 ≤ left → -1 ≤ (ctdT x left deep).1 ∧ ((ctdT x left deep).2 = true → 0 ≤ (ctdT x left deep).1))
  | .mk k n l, left, deep => by
    simp only [ctdT]
    split
    · simp; omega
    · rename_i hn
      have := ctds_le l (left - 1) (deep + 1)
      exact ⟨by omega, fun _ => this.2 (by omega)⟩
theorem ctds_le : ∀ (l : List T) (left deep : Int), (ctds l left deep).1 ≤ left ∧ (0 ≤ left → -1 ≤ (ctds l left deep).1 ∧ ((ctds l left deep).2 = true → 0 ≤ (ctds l left deep).1))
  | [], left, deep => by simp [ctds]; omega
  | x :: r, left, deep => by
    have h1 := ctdT_le x left deep
    simp only [ctds]
    split
    · rename_i hb
      have h2 := ctds_le r (ctdT x left deep).1 deep
      exact ⟨by omega, fun h0 => h2.2 ((h1.2 h0).2 hb)⟩
    · exact ⟨h1.1, fun h0 => ⟨(h1.2 h0).1, fun e => by cases e⟩⟩
end
theorem ctds_drop {l : List T} {i : Nat} {left d : Int} (h : i < l.length) : ctds (l.drop i) left d = if (ctdT (l.getD i default) left d).2 = true then ctds (l.drop (i + 1)) (ctdT (l.getD i default) left d).1 d else ((ctdT (l.getD i default) left d).1, false) := by
  rw [List.drop_eq_getElem_cons h]
  simp [ctds, h]
theorem c50 (x : T) (left deep : Int) (h0 : 0 ≤ left) (h1 : left ≤ 100000) (h2 : 0 ≤ deep) (h3 : deep ≤ 201) :
    Pure Try.prog 50 [x.av, .int .i64 left, .int .i64 deep] (.tuple [.int .i64 (ctdT x left deep).1, .bool (ctdT x left deep).2]) := by
  have ih : ∀ y ∈ x.l, ∀ (left deep : Int), 0 ≤ left → left ≤ 100000 → 0 ≤ deep → deep ≤ 201 →
    Pure Try.prog 50 [y.av, .int .i64 left, .int .i64 deep] (.tuple [.int .i64 (ctdT y left deep).1, .bool (ctdT y left deep).2]) := fun y hy left deep h0 h1 h2 h3 => c50 y left deep h0 h1 h2 h3
  have e : ctdT x left deep = if left - 1 < 0 ∨ 200 < deep then (left - 1, false) else ctds x.l (left - 1) (deep + 1) := by cases x; simp only [ctdT, T.l]
  have w1 : IntKind.i64.wrap (left - 1) = left - 1 := wrap_in _ (by omega)
  have w2 : IntKind.i64.wrap (deep + 1) = deep + 1 := wrap_in _ (by omega)
  refine fun H => ok50.calls (by simp [fi50]) ?_
  simp only [fi50, ir50]
  simp (contextual := true) (maxSteps := 1000000) only [w1, stepsS, stepsT, stepsN, if_true, forall_const, ne_eq, implies_true, List.nil_append, List.append_nil, List.cons_append, List.length_cons, List.length_nil, Nat.reduceEqDiff, Nat.reduceAdd, Nat.reduceLT, Nat.reduceLeDiff, ↓reduceIte, reduceCtorEq, Int.reduceEq, Int.reduceLT]
  refine ⟨fun h4 => ⟨fun h5 => ret20 (by decide) rfl rfl (by rw [e, if_pos (.inr h5)]; rfl) (by rw [e, if_pos (.inr h5)]; rfl), fun h5 => ?_⟩, fun h4 => ret20 (by decide) rfl rfl (by rw [e, if_pos (.inl h4)]; rfl) (by rw [e, if_pos (.inl h4)]; rfl)⟩
  have e2 : ctdT x left deep = ctds x.l (left - 1) (deep + 1) := by rw [e, if_neg (by omega)]
  refine swp_loop_st x.l.length (fun i (s : Int) => 0 ≤ s ∧ s ≤ 100000 ∧ ctds (x.l.drop i) s (deep + 1) = ctdT x left deep)
      (fun i s => [(1, .int .i64 s), (2, .int .i64 deep), (3, x.av.iptr), (8, .int .i64 i)]) (fun i s => H) (left - 1) ⟨⟨by omega, by omega, by rw [e2]; rfl⟩, sle_refl _ _ _⟩ fun i s hi hI => ?_
  obtain ⟨k0, k1, hI⟩ := hI
  simp (contextual := true) (maxSteps := 1000000) only [w2, stepsS, stepsT, stepsN, if_true, forall_const, ne_eq, implies_true, List.nil_append, List.append_nil, List.cons_append, List.length_cons, List.length_nil, Nat.reduceEqDiff, Nat.reduceAdd, Nat.reduceLT, Nat.reduceLeDiff, ↓reduceIte, reduceCtorEq, Int.reduceEq, Int.reduceLT]
  intro hl
  refine ⟨fun hlt => ⟨len_lt hlt, ?_⟩, fun hge => ?_⟩
  · have hlt := len_lt hlt
    rw [ctds_drop hlt] at hI
    have hle := ctdT_le (x.l.getD i default) s (deep + 1)
    refine scall_pure (ih _ (mem_getD hlt) s (deep + 1) k0 k1 (by omega) (by omega)) ?_
    simp (contextual := true) (maxSteps := 1000000) only [stepsS, stepsT, stepsN, if_true, forall_const, ne_eq, implies_true, List.nil_append, List.append_nil, List.cons_append, List.length_cons, List.length_nil, Nat.reduceEqDiff, Nat.reduceAdd, Nat.reduceLT, Nat.reduceLeDiff, ↓reduceIte, reduceCtorEq, Int.reduceEq, Int.reduceLT]
    refine scond_b (fun hb => ?_) (fun hb => ?_) <;> simp (contextual := true) (maxSteps := 1000000) only [stepsS, stepsT, stepsN, if_true, forall_const, ne_eq, implies_true, List.nil_append, List.append_nil, List.cons_append, List.length_cons, List.length_nil, Nat.reduceEqDiff, Nat.reduceAdd, Nat.reduceLT, Nat.reduceLeDiff, ↓reduceIte, reduceCtorEq, Int.reduceEq, Int.reduceLT]
    · rw [if_pos hb] at hI
      exact ⟨i + 1, _, ⟨hlt, (hle.2 k0).2 hb, by omega, hI⟩, by omega, sle_eq (by rw [wrap_nat i (by omega)]) rfl⟩
    · rw [if_neg (by rw [hb]; simp)] at hI
      exact ret20 (by decide) rfl rfl (by rw [← hI]; rfl) (by rw [← hI]; rfl)
  · rw [List.drop_of_length_le (len_nlt hge)] at hI
    exact ret20 (by decide) rfl rfl (by rw [← hI]; rfl) (by rw [← hI]; rfl)
termination_by SizeOf.sizeOf x
decreasing_by exact T.lt hy
theorem c51 (x : T) : Pure Try.prog 51 [x.av] (.bool x.shaped) := by
  have ih : ∀ y ∈ x.l, Pure Try.prog 51 [y.av] (.bool y.shaped) := fun y hy => c51 y
  refine fun H => ok51.calls (by simp [fi51]) ?_
  simp only [fi51, ir51]
  simp (contextual := true) (maxSteps := 1000000) only [stepsS, stepsT, stepsN, if_true, forall_const, ne_eq, implies_true, List.nil_append, List.append_nil, List.cons_append, List.length_cons, List.length_nil, Nat.reduceEqDiff, Nat.reduceAdd, Nat.reduceLT, Nat.reduceLeDiff, ↓reduceIte, reduceCtorEq, Int.reduceEq, Int.reduceLT]
  have fin : ∀ (H' : List AObj), H' = H → (x.n < 0 ∨ (x.k = 1 ∧ 0 < x.l.length) ∨ (x.k ≠ 1 ∧ x.k ≠ 2) ∨ 8 < x.l.length) → aret H.length [RX.t 2] [(2, AV.bool false)] H' fun r H' => r = AV.bool x.shaped ∧ H' = H := by
    rintro H' rfl hh
    refine ret0 rfl ?_
    rw [x.shaped_eq]
    rcases hh with h | h | h | h <;> simp [h]
  refine ⟨fun h => ⟨fun h1 => ⟨fun h2 hl => ⟨fun h3 => fin _ rfl (by omega), fun h3 => ?_⟩, fun h2 => fin _ rfl (by omega)⟩, fun h1 hl => ⟨fun h2 => ⟨fun h3 => fin _ rfl (by omega), fun h3 => ?_⟩, fun h2 => fin _ rfl (by omega)⟩⟩, fun h => fin _ rfl (by omega)⟩
  all_goals
    have go : x.shaped = shapeds x.l := T.shaped_go (by omega)
    refine swp_loop_nat x.l.length (fun i => shapeds (x.l.drop i) = x.shaped) (fun i => [(1, x.av.iptr), (3, .int .i64 i)]) (fun i => H) ⟨by rw [go]; rfl, sle_refl _ _ _⟩ fun i hi hI => ?_
    simp (contextual := true) (maxSteps := 1000000) only [stepsS, stepsT, stepsN, if_true, forall_const, ne_eq, implies_true, List.nil_append, List.append_nil, List.cons_append, List.length_cons, List.length_nil, Nat.reduceEqDiff, Nat.reduceAdd, Nat.reduceLT, Nat.reduceLeDiff, ↓reduceIte, reduceCtorEq, Int.reduceEq, Int.reduceLT]
    intro _
    refine ⟨fun hlt => ⟨len_lt hlt, ?_⟩, fun hge => ?_⟩
    · have hlt := len_lt hlt
      rw [shapeds_drop hlt] at hI
      refine scall_pure (ih _ (mem_getD hlt)) ?_
      simp (contextual := true) (maxSteps := 1000000) only [stepsS, stepsT, stepsN, if_true, forall_const, ne_eq, implies_true, List.nil_append, List.append_nil, List.cons_append, List.length_cons, List.length_nil, Nat.reduceEqDiff, Nat.reduceAdd, Nat.reduceLT, Nat.reduceLeDiff, ↓reduceIte, reduceCtorEq, Int.reduceEq, Int.reduceLT]
      refine scond_b (fun hb => ?_) (fun hb => ?_) <;> simp (contextual := true) (maxSteps := 1000000) only [stepsS, stepsT, stepsN, if_true, forall_const, ne_eq, implies_true, List.nil_append, List.append_nil, List.cons_append, List.length_cons, List.length_nil, Nat.reduceEqDiff, Nat.reduceAdd, Nat.reduceLT, Nat.reduceLeDiff, ↓reduceIte, reduceCtorEq, Int.reduceEq, Int.reduceLT]
      · exact ⟨i + 1, ⟨hlt, by rw [hb] at hI; simpa using hI⟩, by omega, sle_eq (by rw [wrap_nat i (by omega)]) rfl⟩
      · exact ret0 rfl (by rw [← hI, hb]; rfl)
    · rw [List.drop_of_length_le (len_nlt hge)] at hI
      exact ret0 rfl (by rw [← hI]; rfl)
termination_by SizeOf.sizeOf x
decreasing_by exact T.lt hy
theorem c15 (x : T) : Pure Try.prog 15 [x.av] (.bool ((ctdT x 2000 1).2 && x.shaped)) := by
  refine fun H => ok15.calls (by simp [fi15]) ?_
  simp only [fi15, ir15]
  simp (contextual := true) (maxSteps := 1000000) only [stepsS, stepsT, stepsN, if_true, forall_const, ne_eq, implies_true, List.nil_append, List.append_nil, List.cons_append, List.length_cons, List.length_nil, Nat.reduceEqDiff, Nat.reduceAdd, Nat.reduceLT, Nat.reduceLeDiff, ↓reduceIte, reduceCtorEq, Int.reduceEq, Int.reduceLT]
  refine scall_pure (c50 x 2000 1 (by omega) (by omega) (by omega) (by omega)) ?_
  cases hb : (ctdT x 2000 1).2 <;> simp (contextual := true) (maxSteps := 1000000) only [stepsS, stepsT, stepsN, if_true, forall_const, ne_eq, implies_true, List.nil_append, List.append_nil, List.cons_append, List.length_cons, List.length_nil, Nat.reduceEqDiff, Nat.reduceAdd, Nat.reduceLT, Nat.reduceLeDiff, ↓reduceIte, reduceCtorEq, Int.reduceEq, Int.reduceLT]
  · exact ret0 rfl rfl
  · refine scall_pure (c51 x) ?_
    simp (contextual := true) (maxSteps := 1000000) only [stepsS, stepsT, stepsN, if_true, forall_const, ne_eq, implies_true, List.nil_append, List.append_nil, List.cons_append, List.length_cons, List.length_nil, Nat.reduceEqDiff, Nat.reduceAdd, Nat.reduceLT, Nat.reduceLeDiff, ↓reduceIte, reduceCtorEq, Int.reduceEq, Int.reduceLT]
    exact ret0 rfl rfl
end Go.Abs
end
section
/- Sizes; the variables of trees. -/
set_option maxRecDepth 100000
set_option linter.unusedSimpArgs false
namespace Go.Abs
open Go Go.Proofs

mutual
def T.sz : T → Int
  | .mk _ _ l => 1 + szs l
def szs : List T → Int
  | [] => 0
  | x :: r => x.sz + szs r
end
mutual
def T.dp : T → Int
  | .mk _ _ l => 1 + dps l
def dps : List T → Int
  | [] => 0
  | x :: r => max x.dp (dps r)
end
mutual
theorem T.sz_pos : ∀ x : T, 1 ≤ x.sz
  | .mk k n l => by simp only [T.sz]; have := szs_pos l; omega
theorem szs_pos : ∀ l : List T, 0 ≤ szs l
  | [] => by simp [szs]
  | x :: r => by simp only [szs]; have := T.sz_pos x; have := szs_pos r; omega
end
mutual
theorem T.dp_pos : ∀ x : T, 1 ≤ x.dp
  | .mk k n l => by simp only [T.dp]; have := dps_pos l; omega
theorem dps_pos : ∀ l : List T, 0 ≤ dps l
  | [] => by simp [dps]
  | x :: r => by simp only [dps]; have := T.dp_pos x; have := dps_pos r; omega
end
def over (s : Int × Int) : Prop := 2000 < s.1 ∨ 200 < s.2
mutual
theorem cntT_spec : ∀ (x : T) (d : Int) (s : Int × Int), cntOk d s → (¬ over (cntT x d s) ↔ s.1 + x.sz ≤ 2000 ∧ d + x.dp - 1 ≤ 200) ∧ (¬ over (cntT x d s) → (cntT x d s).1 = s.1 + x.sz ∧ (cntT x d s).2 = max s.2 (d + x.dp - 1))
  | .mk k n l, d, s, h => by
    obtain ⟨h1, h2, h3, h4, h5, h6⟩ := h
    simp only [cntT, T.sz, T.dp]
    have hp := dps_pos l
    have ih := cnts_spec l (d + 1) (s.1 + 1, max s.2 d) (by unfold cntOut; simp only; omega) (by omega) (by simp only; omega)
    simp only at ih
    refine ⟨ih.1.trans ⟨fun k => ⟨by omega, by omega⟩, fun k => ⟨by omega, by omega, by omega⟩⟩, fun k => ?_⟩
    have k1 := ih.2 k
    have k2 := ih.1.1 k
    exact ⟨by omega, by omega⟩
theorem cnts_spec : ∀ (l : List T) (d : Int) (s : Int × Int), cntOut s → 0 ≤ d → d ≤ s.2 + 1 → (¬ over (cnts l d s) ↔ s.1 + szs l ≤ 2000 ∧ s.2 ≤ 200 ∧ d + dps l - 1 ≤ 200) ∧ (¬ over (cnts l d s) → (cnts l d s).1 = s.1 + szs l ∧ (cnts l d s).2 = max s.2 (d + dps l - 1))
  | [], d, s, h, h5, h6 => by
    simp only [cnts, szs, dps, over]
    exact ⟨⟨fun k => ⟨by omega, by omega, by omega⟩, fun k => by omega⟩, fun k => ⟨by omega, by omega⟩⟩
  | x :: r, d, s, h, h5, h6 => by
    obtain ⟨h1, h2, h3, h4⟩ := h
    simp only [cnts]
    have hx0 := x.sz_pos
    have hd0 := x.dp_pos
    have hr0 := szs_pos r
    have he0 := dps_pos r
    simp only [szs, dps]
    by_cases ho : 2000 < s.1 ∨ 200 < s.2
    · rw [if_pos ho]
      refine ⟨⟨fun k => absurd ho k, fun k => ?_⟩, fun k => absurd ho k⟩
      omega
    · rw [if_neg ho]
      have hok : cntOk d s := ⟨h1, by omega, h3, by omega, h5, by omega⟩
      have hx := cntT_spec x d s hok
      have ho2 := cntT_out x d s hok
      have hmn := cntT_mono x d s
      have ih := cnts_spec r d (cntT x d s) ho2.1 h5 (by omega)
      generalize cntT x d s = t at *
      by_cases hot : over t
      · have hn : over (cnts r d t) := by
          refine Classical.byContradiction fun hc => ?_
          have := ih.1.1 hc
          unfold over at hot
          omega
        refine ⟨⟨fun k => absurd hn k, fun k => ?_⟩, fun k => absurd hn k⟩
        have := hx.1.2 (by omega)
        exact absurd hot this
      · have k1 := hx.2 hot
        have k2 := hx.1.1 hot
        refine ⟨ih.1.trans ⟨fun k => ⟨by omega, by omega, by omega⟩, fun k => ⟨by omega, by omega, by omega⟩⟩, fun k => ?_⟩
        have k3 := ih.2 k
        exact ⟨by omega, by omega⟩
end
theorem overB_iff (s : Int × Int) : overB s = true ↔ over s := by simp [overB, over]
mutual
theorem ctdT_spec : ∀ (x : T) (left d : Int), 0 ≤ left → d ≤ 201 → ((ctdT x left d).2 = true ↔ x.sz ≤ left ∧ d + x.dp - 1 ≤ 200) ∧ ((ctdT x left d).2 = true → (ctdT x left d).1 = left - x.sz)
  | .mk k n l, left, d, h0, hd => by
    simp only [ctdT, T.sz, T.dp]
    have hp := dps_pos l
    have hs := szs_pos l
    by_cases ho : left - 1 < 0 ∨ 200 < d
    · rw [if_pos ho]
      refine ⟨⟨fun k => (by cases k), fun k => ?_⟩, fun k => (by cases k)⟩
      omega
    · rw [if_neg ho]
      have ih := ctds_spec l (left - 1) (d + 1) (by omega) (by omega)
      exact ⟨ih.1.trans ⟨fun k => ⟨by omega, by omega⟩, fun k => ⟨by omega, by omega⟩⟩, fun k => by have := ih.2 k; omega⟩
theorem ctds_spec : ∀ (l : List T) (left d : Int), 0 ≤ left → d ≤ 201 → ((ctds l left d).2 = true ↔ szs l ≤ left ∧ d + dps l - 1 ≤ 200) ∧ ((ctds l left d).2 = true → (ctds l left d).1 = left - szs l)
  | [], left, d, h0, hd => by simp only [ctds, szs, dps]; exact ⟨⟨fun _ => ⟨by omega, by omega⟩, fun _ => trivial⟩, fun _ => by omega⟩
  | x :: r, left, d, h0, hd => by
    simp only [ctds, szs, dps]
    have hx0 := x.sz_pos
    have hd0 := x.dp_pos
    have hr0 := szs_pos r
    have he0 := dps_pos r
    have hx := ctdT_spec x left d h0 hd
    have hle := ctdT_le x left d
    cases hb : (ctdT x left d).2 with
    | false =>
      rw [if_neg (by simp)]
      refine ⟨⟨fun k => (by cases k), fun k => ?_⟩, fun k => (by cases k)⟩
      have := hx.1.2 (by omega)
      rw [hb] at this; cases this
    | true =>
      rw [if_pos rfl]
      have k1 := hx.2 hb
      have k2 := hx.1.1 hb
      have ih := ctds_spec r (ctdT x left d).1 d ((hle.2 h0).2 hb) hd
      exact ⟨ih.1.trans ⟨fun k => ⟨by omega, by omega⟩, fun k => ⟨by omega, by omega⟩⟩, fun k => by have := ih.2 k; omega⟩
end
theorem T.tree_iff (x : T) : x.tree = true ↔ x.sz ≤ 2000 ∧ x.dp ≤ 200 ∧ x.shaped = true := by
  have h := (cntT_spec x 1 (0, 0) (by unfold cntOk; simp)).1
  unfold T.tree
  rw [Bool.and_eq_true, Bool.not_eq_true', ← Bool.not_eq_true, overB_iff]
  constructor
  · rintro ⟨h1, h2⟩
    have := h.1 h1
    simp only at this
    exact ⟨by omega, by omega, h2⟩
  · rintro ⟨h1, h2, h3⟩
    exact ⟨h.2 (by simp only; omega), h3⟩
theorem ref_is (x : T) : ((ctdT x 2000 1).2 && x.shaped) = x.tree := by
  have h := (ctdT_spec x 2000 1 (by omega) (by omega)).1
  rw [Bool.eq_iff_iff, Bool.and_eq_true, h, T.tree_iff]
  constructor
  · rintro ⟨⟨h1, h2⟩, h3⟩; exact ⟨h1, by omega, h3⟩
  · rintro ⟨h1, h2, h3⟩; exact ⟨⟨h1, by omega⟩, h3⟩
theorem c15' (x : T) : Pure Try.prog 15 [x.av] (.bool x.tree) := by rw [← ref_is]; exact c15 x
/-! ### vars -/
def ents (vs : List Int) : List (AV × AV) := vs.map fun v => (.int .i64 v, .bool true)
/-! ### The document's way -/
/-! ### Same -/
theorem c20 (a b : T) : Pure Try.prog 20 [a.av, b.av] (.bool (a.same b)) := by
  have ih : ∀ x ∈ a.l, ∀ y, Pure Try.prog 20 [x.av, y.av] (.bool (x.same y)) := fun x hx y => c20 x y
  have e : a.same b = (decide (a.k = b.k) && decide (a.n = b.n) && sames a.l b.l) := by
    cases a; cases b; simp only [T.same, T.k, T.n, T.l]; rfl
  refine fun H => ok20.calls (by simp [fi20]) ?_
  simp only [fi20, ir20]
  simp (contextual := true) (maxSteps := 1000000) only [stepsS, stepsT, stepsN, if_true, forall_const, ne_eq, implies_true, List.nil_append, List.append_nil, List.cons_append, List.length_cons, List.length_nil, Nat.reduceEqDiff, Nat.reduceAdd, Nat.reduceLT, Nat.reduceLeDiff, ↓reduceIte, reduceCtorEq, Int.reduceEq, Int.reduceLT]
  have fin : ∀ (H' : List AObj), H' = H → (a.k = b.k → a.n = b.n → a.l.length = b.l.length → False) → aret H.length [RX.t 4] [(4, AV.bool false)] H' fun r H' => r = AV.bool (a.same b) ∧ H' = H := by
    rintro H' rfl hh
    refine ret0 rfl ?_
    cases hs : a.same b with
    | false => rfl
    | true =>
      rw [e] at hs
      simp only [Bool.and_eq_true, decide_eq_true_eq] at hs
      exact (hh hs.1.1 hs.1.2 (sames_len hs.2)).elim
  refine ⟨fun hk => ⟨fun hn _ _ => ⟨fun hl => fin _ rfl (by omega), fun hl => ?_⟩, fun hn => fin _ rfl (by omega)⟩, fun hk => fin _ rfl (by omega)⟩
  have hl : a.l.length = b.l.length := by omega
  refine swp_loop_nat a.l.length (fun i => sames (a.l.drop i) (b.l.drop i) = a.same b) (fun i => [(2, .iptr a.av), (3, .iptr b.av), (5, .int .i64 i)]) (fun i => H) ⟨by rw [e, decide_eq_true hk, decide_eq_true hn]; rfl, sle_refl _ _ _⟩ fun i hi hI => ?_
  simp (contextual := true) (maxSteps := 1000000) only [stepsS, stepsT, stepsN, if_true, forall_const, ne_eq, implies_true, List.nil_append, List.append_nil, List.cons_append, List.length_cons, List.length_nil, Nat.reduceEqDiff, Nat.reduceAdd, Nat.reduceLT, Nat.reduceLeDiff, ↓reduceIte, reduceCtorEq, Int.reduceEq, Int.reduceLT]
  intro _
  refine ⟨fun hlt => ⟨len_lt hlt, ?_⟩, fun hge => ?_⟩
  · have hlt := len_lt hlt
    have hlt2 : i < b.l.length := by omega
    rw [sames_drop hlt hlt2] at hI
    refine ⟨hlt2, dcall_pure (ih _ (mem_getD hlt) _) ?_⟩
    simp (contextual := true) (maxSteps := 1000000) only [stepsS, stepsT, stepsN, if_true, forall_const, ne_eq, implies_true, List.nil_append, List.append_nil, List.cons_append, List.length_cons, List.length_nil, Nat.reduceEqDiff, Nat.reduceAdd, Nat.reduceLT, Nat.reduceLeDiff, ↓reduceIte, reduceCtorEq, Int.reduceEq, Int.reduceLT]
    refine scond_b (fun hb => ?_) (fun hb => ?_) <;> simp (contextual := true) (maxSteps := 1000000) only [stepsS, stepsT, stepsN, if_true, forall_const, ne_eq, implies_true, List.nil_append, List.append_nil, List.cons_append, List.length_cons, List.length_nil, Nat.reduceEqDiff, Nat.reduceAdd, Nat.reduceLT, Nat.reduceLeDiff, ↓reduceIte, reduceCtorEq, Int.reduceEq, Int.reduceLT]
    · exact ⟨i + 1, ⟨hlt, by rw [hb] at hI; simpa using hI⟩, by omega, sle_eq (by rw [wrap_nat i (by omega)]) rfl⟩
    · exact ret0 rfl (by rw [← hI, hb]; rfl)
  · have hge := len_nlt hge
    rw [List.drop_of_length_le hge, List.drop_of_length_le (by omega)] at hI
    exact ret0 rfl (by rw [← hI]; rfl)
termination_by SizeOf.sizeOf a
decreasing_by exact T.lt hx
end Go.Abs
end
section
/- mapped, Shift. -/
set_option maxRecDepth 100000
set_option linter.unusedSimpArgs false
namespace Go.Abs
open Go Go.Proofs
mutual
def mapT (f : Int → T) : T → T
  | .mk k n l => if k = 1 then f n else .mk k n (mapTs f l)
def mapTs (f : Int → T) : List T → List T
  | [] => []
  | x :: r => mapT f x :: mapTs f r
end
theorem mapTs_map (f : Int → T) : ∀ l, mapTs f l = l.map (mapT f)
  | [] => rfl
  | x :: r => by simp [mapTs, mapTs_map f r]
theorem mapT_eq (f : Int → T) (x : T) : mapT f x = if x.k = 1 then f x.n else .mk x.k x.n (mapTs f x.l) := by cases x; simp only [mapT, T.k, T.n, T.l]; rfl
def outT : List T → AV
  | [] => .nils
  | v :: r => .lst 3 (avs (v :: r))
theorem avs_snoc (l : List T) (x : T) : avs l ++ [x.av] = avs (l ++ [x]) := by simp [avs_map]
theorem outT_snoc (vs : List T) (n : T) : AV.lst 3 (avs (vs ++ [n])) = outT (vs ++ [n]) := by
  cases vs <;> rfl
theorem outT_one (vs : List T) : (outT vs).one = true := by cases vs <;> rfl
theorem outT_blw (k : Nat) (vs : List T) : (outT vs).blw k = true := by
  cases vs with
  | nil => rfl
  | cons v r => simp only [outT, bw_lst, avs_blw]
theorem ap_outT (b : Nat) (vs : List T) (n : T) (o : Nat) (ψ : List AV → Prop) : aappend 3 b (outT vs) (.lst o [n.av]) ψ = ((vs.length + 1) * b ≤ 140737488355328 ∧ ψ (avs (vs ++ [n]))) := by
  cases vs with
  | nil => simp [outT, ap_nils, ok_T, avs]
  | cons v r =>
    show aappend 3 b (.lst 3 (avs (v :: r))) _ ψ = _
    rw [ap_lst, ok_T, avs_len, avs_snoc]
    simp
theorem outT_drop (vs : List T) : (outT vs).drop = .lst 0 (avs vs) := by cases vs <;> rfl
theorem shaped_kids {x : T} (h : x.shaped = true) : x.l.length ≤ 8 ∧ ∀ y ∈ x.l, y.shaped = true := by
  rw [x.shaped_eq, Bool.and_eq_true, Bool.not_eq_true', Bool.or_eq_false_iff] at h
  have h1 := h.1.2
  have h2 := h.2
  rw [shapeds_all] at h2
  exact ⟨by simpa using h1, fun y hy => List.all_eq_true.1 h2 y hy⟩
theorem mapTs_take (f : Int → T) {l : List T} {i : Nat} (h : i < l.length) : mapTs f (l.take (i + 1)) = mapTs f (l.take i) ++ [mapT f (l.getD i default)] := by
  rw [mapTs_map, mapTs_map, List.take_add_one, List.map_append]
  simp [h]
theorem c77 (g : Nat) (cap : List AV) (f : Int → T) (x : T) (hcap : cap.map AV.unown = cap) (hb : belowL 0 cap = true) (hf : ∀ n, Pure Try.prog g ([.int .i64 n] ++ cap) (f n).av) (hs : x.shaped = true) :
    Pure Try.prog 77 [x.av, .fn (.func g) [] cap] (mapT f x).av := by
  have ih : ∀ y ∈ x.l, Pure Try.prog 77 [y.av, .fn (.func g) [] cap] (mapT f y).av := fun y hy => c77 g cap f y hcap hb hf ((shaped_kids hs).2 y hy)
  refine fun H => ok77.calls (by simp [fi77]) ?_
  simp only [fi77, ir77]
  have hl8 := (shaped_kids hs).1
  simp (contextual := true) (maxSteps := 1000000) only [hcap, stepsS, stepsT, stepsN, if_true, forall_const, ne_eq, implies_true, List.nil_append, List.append_nil, List.cons_append, List.length_cons, List.length_nil, Nat.reduceEqDiff, Nat.reduceAdd, Nat.reduceLT, Nat.reduceLeDiff, ↓reduceIte, reduceCtorEq, Int.reduceEq, Int.reduceLT]
  refine ⟨fun hk => scall_pure (hf x.n) ?_, fun hk _ => ?_⟩
  · simp (contextual := true) (maxSteps := 1000000) only [stepsS, stepsT, stepsN, if_true, forall_const, ne_eq, implies_true, List.nil_append, List.append_nil, List.cons_append, List.length_cons, List.length_nil, Nat.reduceEqDiff, Nat.reduceAdd, Nat.reduceLT, Nat.reduceLeDiff, ↓reduceIte, reduceCtorEq, Int.reduceEq, Int.reduceLT]
    exact ret1v (T.av_blw _ _) (by rw [mapT_eq, if_pos hk])
  · refine swp_loop_nat x.l.length (fun _ => True) (fun i => [(1, .fn (.func g) [] cap), (4, .ptr H.length 0), (5, .ptr (H.length + 1) 0), (21, .lst 0 (avs x.l)), (22, .int .i64 x.l.length), (23, .int .i64 i)])
      (fun i => H ++ [.cells [.int .i64 0, .int .i64 0, .nils], .cells [.int .i64 x.k, .int .i64 x.n, outT (mapTs f (x.l.take i))]]) ⟨trivial, sle_refl _ _ _⟩ fun i hi hI => ?_
    simp (contextual := true) (maxSteps := 1000000) only [outT_one, outT_blw, outT_drop, stepsS, stepsT, stepsN, if_true, forall_const, ne_eq, implies_true, List.nil_append, List.append_nil, List.cons_append, List.length_cons, List.length_nil, Nat.reduceEqDiff, Nat.reduceAdd, Nat.reduceLT, Nat.reduceLeDiff, ↓reduceIte, reduceCtorEq, Int.reduceEq, Int.reduceLT]
    refine ⟨fun hlt => ⟨len_lt hlt, ?_, ?_⟩, fun hge => ?_⟩
    · have hlt := len_lt hlt
      refine scall_pure (ih _ (mem_getD hlt)) ?_
      simp (contextual := true) (maxSteps := 1000000) only [ap_outT, outT_snoc, outT_one, outT_blw, stepsS, stepsT, stepsN, if_true, forall_const, ne_eq, implies_true, List.nil_append, List.append_nil, List.cons_append, List.length_cons, List.length_nil, Nat.reduceEqDiff, Nat.reduceAdd, Nat.reduceLT, Nat.reduceLeDiff, ↓reduceIte, reduceCtorEq, Int.reduceEq, Int.reduceLT]
      refine ⟨by rw [mapTs_map]; simp; omega, i + 1, hlt, by omega, sle_eq (by rw [wrap_nat i (by omega)]) ?_⟩
      rw [mapTs_take f hlt]
    · have hlt := len_lt hlt
      refine scall_pure (ih _ (mem_getD hlt)) ?_
      simp (contextual := true) (maxSteps := 1000000) only [ap_outT, outT_snoc, outT_one, outT_blw, stepsS, stepsT, stepsN, if_true, forall_const, ne_eq, implies_true, List.nil_append, List.append_nil, List.cons_append, List.length_cons, List.length_nil, Nat.reduceEqDiff, Nat.reduceAdd, Nat.reduceLT, Nat.reduceLeDiff, ↓reduceIte, reduceCtorEq, Int.reduceEq, Int.reduceLT]
      refine ⟨by rw [mapTs_map]; simp; omega, i + 1, hlt, by omega, sle_eq (by rw [wrap_nat i (by omega)]) ?_⟩
      rw [mapTs_take f hlt]
    · rw [List.take_of_length_le (len_nlt hge)]
      refine ret1v (by simp only [bw_agg, bl_cons, bw_int, bw_lst, avs_blw, bl_nil, Bool.and_self]) ?_
      rw [mapT_eq, if_neg hk]; rfl
termination_by SizeOf.sizeOf x
decreasing_by exact T.lt hy

/-! ### Shift -/
def T0 : T := .mk 0 0 []
end Go.Abs
end
section
set_option maxRecDepth 100000
namespace Go.Abs
open Go Go.Proofs
theorem e116 : EntOk Try.prog 116 (.prim indexByteP) := indexByte_ok Try.func116 (by kernel_rfl) (by kernel_rfl) (by kernel_rfl) (by kernel_rfl)
theorem e115 : EntOk Try.prog 115 (.prim countP) := count_ok Try.func115 (by kernel_rfl) (by kernel_rfl) (by kernel_rfl) (by kernel_rfl)
def tab : Tab := [(13, .ir fi13), (14, .ir fi14), (15, .ir fi15), (16, .ir fi16), (17, .ir fi17), (18, .ir fi18), (19, .ir fi19), (20, .ir fi20), (21, .ir fi21), (22, .ir fi22), (23, .ir fi23), (24, .ir fi24), (25, .ir fi25), (26, .ir fi26), (27, .ir fi27), (28, .ir fi28), (29, .ir fi29), (30, .ir fi30), (31, .ir fi31), (32, .ir fi32), (33, .ir fi33), (34, .ir fi34), (35, .ir fi35), (36, .ir fi36), (37, .ir fi37), (38, .ir fi38), (39, .ir fi39), (40, .ir fi40), (41, .ir fi41), (42, .ir fi42), (43, .ir fi43), (44, .ir fi44), (45, .ir fi45), (46, .ir fi46), (47, .ir fi47), (48, .ir fi48), (49, .ir fi49), (50, .ir fi50), (51, .ir fi51), (52, .ir fi52), (53, .ir fi53), (54, .ir fi54), (55, .ir fi55), (56, .ir fi56), (57, .ir fi57), (58, .ir fi58), (59, .ir fi59), (60, .ir fi60), (61, .ir fi61), (62, .ir fi62), (63, .ir fi63), (64, .ir fi64), (65, .ir fi65), (66, .ir fi66), (67, .ir fi67), (68, .ir fi68), (69, .ir fi69), (70, .ir fi70), (71, .ir fi71), (72, .ir fi72), (73, .ir fi73), (74, .ir fi74), (75, .ir fi75), (76, .ir fi76), (77, .ir fi77), (78, .ir fi78), (79, .ir fi79), (80, .ir fi80), (81, .ir fi81), (82, .ir fi82), (83, .ir fi83), (84, .ir fi84), (86, .ir fi86), (87, .ir fi87), (88, .ir fi88), (89, .ir fi89), (90, .ir fi90), (91, .ir fi91), (92, .ir fi92), (93, .ir fi93), (94, .ir fi94), (95, .ir fi95), (96, .ir fi96), (97, .ir fi97), (98, .ir fi98), (99, .ir fi99), (100, .ir fi100), (101, .ir fi101), (102, .ir fi102), (103, .ir fi103), (104, .ir fi104), (105, .ir fi105), (106, .ir fi106), (107, .ir fi107), (108, .ir fi108), (109, .ir fi109), (110, .ir fi110), (111, .ir fi111), (112, .ir fi112), (113, .ir fi113), (114, .ir fi114), (118, .ir fi118), (119, .ir fi119), (120, .ir fi120), (116, .prim indexByteP), (115, .prim countP), (85, .prim clone1P)]
theorem tab_ok : TabOk Try.prog tab := ⟨ok13, ok14, ok15, ok16, ok17, ok18, ok19, ok20, ok21, ok22, ok23, ok24, ok25, ok26, ok27, ok28, ok29, ok30, ok31, ok32, ok33, ok34, ok35, ok36, ok37, ok38, ok39, ok40, ok41, ok42, ok43, ok44, ok45, ok46, ok47, ok48, ok49, ok50, ok51, ok52, ok53, ok54, ok55, ok56, ok57, ok58, ok59, ok60, ok61, ok62, ok63, ok64, ok65, ok66, ok67, ok68, ok69, ok70, ok71, ok72, ok73, ok74, ok75, ok76, ok77, ok78, ok79, ok80, ok81, ok82, ok83, ok84, ok86, ok87, ok88, ok89, ok90, ok91, ok92, ok93, ok94, ok95, ok96, ok97, ok98, ok99, ok100, ok101, ok102, ok103, ok104, ok105, ok106, ok107, ok108, ok109, ok110, ok111, ok112, ok113, ok114, ok118, ok119, ok120, e116, e115, clone85_ok, trivial⟩
end Go.Abs
end
section
set_option maxRecDepth 1000000
namespace Go.Abs
open Go Go.Proofs
theorem sane_run : callE tab (execE tab 100000) 13 [] [] = some (.bool true, []) := by kernel_rfl
end Go.Abs
end
section
/- SigOrder. -/
set_option maxRecDepth 100000
set_option linter.unusedSimpArgs false
namespace Go.Abs
open Go Go.Proofs

mutual
theorem T.same_iff : ∀ a b : T, a.same b = true ↔ a = b
  | .mk k n l, .mk k' n' l' => by
    simp only [T.same, Bool.and_eq_true, beq_iff_eq, T.mk.injEq, sames_iff l l', and_assoc]
theorem sames_iff : ∀ l m : List T, sames l m = true ↔ l = m
  | [], [] => by simp [sames]
  | [], _ :: _ => by simp [sames]
  | _ :: _, [] => by simp [sames]
  | x :: r, y :: s => by simp only [sames, Bool.and_eq_true, T.same_iff x y, sames_iff r s, List.cons.injEq]
end
theorem c13 : Pure Try.prog 13 [] (.bool true) := Pure.mk rfl (callE_s tab_ok (execE_s tab_ok 100000) _ _ _ _ _ sane_run)
end Go.Abs
end
