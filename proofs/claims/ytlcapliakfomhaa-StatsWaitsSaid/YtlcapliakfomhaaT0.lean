/- T0: functions of the program in the typed form, printed by a program of our own (wip/laws/Print.lean.txt). -/
import Derived.Test.YtlcapliakfomhaaAb27
import Derived.Test.YtlcapliakfomhaaProg
import Derived.KernelRfl
set_option linter.all false
set_option maxRecDepth 100000
set_option autoImplicit false
namespace Go.Proofs.Ytlcapliakfomhaa
open Go Go.Ab
theorem sane : Sane Try.prog := Sane.of (by kernel_rfl)
abbrev n_main_main : Nat := 0
abbrev n_gosem_cut : Nat := 1
abbrev n_gosem_cut_init : Nat := 2
abbrev n_twainlaw47_StatsRanks : Nat := 3
abbrev n_twainlaw47_StatsWaits : Nat := 4
abbrev n_twainlaw47_lives : Nat := 5
abbrev n_stats_Rank : Nat := 6
abbrev n_twainref47_Rank : Nat := 7
abbrev n_stats_Bars : Nat := 8
abbrev n_twainref01_Ints : Nat := 9
abbrev n_twainref47_Bars : Nat := 10
abbrev n_twainlaw36_Few : Nat := 11
abbrev n_twainlaw36_Raw : Nat := 12
abbrev n_stats_Waits : Nat := 13
abbrev n_twainref47_Waits : Nat := 14
abbrev n_stats_Most : Nat := 15
abbrev n_twainref47_Most : Nat := 16
abbrev n_stats_Of : Nat := 17
abbrev n_slices_Sort__intint : Nat := 18
abbrev n_twainref47_sorted : Nat := 19
abbrev n_stats_pairs : Nat := 20
abbrev n_twainref47_end : Nat := 21
abbrev n_stats_Most_1 : Nat := 22
abbrev n_stats_Stats_ask : Nat := 23
abbrev n_slices_pdqsortOrdered_int : Nat := 24
abbrev n_math_bits_Len : Nat := 25
abbrev n_twainref47_in : Nat := 26
abbrev n_twainref36_Open : Nat := 27
abbrev n_slices_insertionSortOrdered_int : Nat := 28
abbrev n_slices_heapSortOrdered_int : Nat := 29
abbrev n_slices_breakPatternsOrdered_int : Nat := 30
abbrev n_slices_choosePivotOrdered_int : Nat := 31
abbrev n_slices_reverseRangeOrdered_int : Nat := 32
abbrev n_slices_partialInsertionSortOrdered_int : Nat := 33
abbrev n_cmp_Less_int : Nat := 34
abbrev n_slices_partitionEqualOrdered_int : Nat := 35
abbrev n_slices_partitionOrdered_int : Nat := 36
abbrev n_math_bits_Len32 : Nat := 37
abbrev n_math_bits_Len64 : Nat := 38
abbrev n_twainref36_ended : Nat := 39
abbrev n_slices_siftDownOrdered_int : Nat := 40
abbrev n_slices_nextPowerOfTwo : Nat := 41
abbrev n_slices_xorshift_Next : Nat := 42
abbrev n_slices_medianAdjacentOrdered_int : Nat := 43
abbrev n_slices_medianOrdered_int : Nat := 44
abbrev n_cmp_isNaN_int : Nat := 45
abbrev n_twainref36_asked : Nat := 46
abbrev n_slices_order2Ordered_int : Nat := 47
abbrev n_runtime_boundsError_Error : Nat := 48
abbrev n_runtime_boundsError_RuntimeError : Nat := 49
abbrev n_runtime_errorString_Error : Nat := 50
abbrev n_runtime_errorString_RuntimeError : Nat := 51
abbrev n_runtime_plainError_Error : Nat := 52
abbrev n_runtime_plainError_RuntimeError : Nat := 53
abbrev n_runtime_errorAddressString_Error : Nat := 54
abbrev n_runtime_errorAddressString_RuntimeError : Nat := 55
abbrev n_runtime_TypeAssertionError_Error : Nat := 56
abbrev n_runtime_TypeAssertionError_RuntimeError : Nat := 57
abbrev n_runtime_PanicNilError_Error : Nat := 58
abbrev n_runtime_PanicNilError_RuntimeError : Nat := 59
abbrev n_internal_abi_Type_Align : Nat := 60
abbrev n_internal_runtime_maps_unhashableTypeError_Error : Nat := 61
abbrev n_internal_runtime_maps_unhashableTypeError_RuntimeError : Nat := 62
abbrev n_internal_abi_Kind_String : Nat := 63
end Go.Proofs.Ytlcapliakfomhaa
