/- For every schedule and results, NextRound of the program answers as NextRound of the reference does, and changes nothing; no condition. -/
import Derived.Test.YtbppeajpjnlobaaKcx25
import Derived.Test.YtbppeajpjnlobaaProg
/- The formulas of functions' texts (printed by this session's own program hl.py out of Lean's print of the loaded functions). -/
set_option linter.unusedVariables false
set_option maxRecDepth 100000
namespace Go.Proofs.Ytbppeajpjnlobaa
open Go.HL
theorem follows : Try.prog.follows .mixedOrders = true := by kernel_rfl
abbrev gosem.cut.init.id : FuncId := 2
abbrev L.FnExactCanBeFirst.id : FuncId := 3
abbrev L.FnExactFirstTeams.id : FuncId := 4
abbrev L.FnExactNextRound.id : FuncId := 5
abbrev L.szSchedule.id : FuncId := 6
abbrev L.szInt64SS.id : FuncId := 7
abbrev S.CanBeFirst.id : FuncId := 8
abbrev L.toSchedule.id : FuncId := 9
abbrev L.toInt64SS.id : FuncId := 10
abbrev I.CanBeFirst.id : FuncId := 11
abbrev L.eqSchedule.id : FuncId := 12
abbrev L.eqInt64SS.id : FuncId := 13
abbrev S.FirstTeams.id : FuncId := 14
abbrev I.FirstTeams.id : FuncId := 15
abbrev L.eqInt64S.id : FuncId := 16
abbrev L.markSchedule.id : FuncId := 17
abbrev L.markInt64SS.id : FuncId := 18
abbrev L.markInt64S.id : FuncId := 19
abbrev L.heldInt64S.id : FuncId := 20
abbrev S.NextRound.id : FuncId := 21
abbrev I.NextRound.id : FuncId := 22
abbrev L.eqRound.id : FuncId := 23
abbrev L.szRoundS.id : FuncId := 24
abbrev L.szInt64S.id : FuncId := 25
abbrev S.l10Code.id : FuncId := 26
abbrev S.l10First.id : FuncId := 27
abbrev L.toRoundS.id : FuncId := 28
abbrev L.toInt64S.id : FuncId := 29
abbrev I.resultsCode.id : FuncId := 30
abbrev I.CanBeFirst.c1.id : FuncId := 31
abbrev I.Schedule.hasTeam.id : FuncId := 32
abbrev I.Schedule.canBeFirst.id : FuncId := 33
abbrev L.eqRoundS.id : FuncId := 34
abbrev I.always.id : FuncId := 35
abbrev L.markRoundS.id : FuncId := 36
abbrev S.l10Next.id : FuncId := 37
abbrev S.l02Met.id : FuncId := 38
abbrev S.l10Ranking.id : FuncId := 39
abbrev S.l01Free.id : FuncId := 40
abbrev I.Schedule.ranking.id : FuncId := 41
abbrev I.Schedule.meetings.id : FuncId := 42
abbrev I.square.id : FuncId := 43
abbrev I.rounds.id : FuncId := 44
abbrev I.NextRound.c1.id : FuncId := 45
abbrev I.Round.renumbered.id : FuncId := 46
abbrev S.l01Is.id : FuncId := 47
abbrev S.l10Is.id : FuncId := 48
abbrev S.l01In.id : FuncId := 49
abbrev S.l10Points.id : FuncId := 50
abbrev S.l01Pairs.id : FuncId := 51
abbrev S.l10Give.id : FuncId := 52
abbrev L.toRound.id : FuncId := 53
abbrev I.scheduleCode.id : FuncId := 54
abbrev I.resultsCode.c1.id : FuncId := 55
abbrev I.Schedule.areResults.id : FuncId := 56
abbrev I.between.id : FuncId := 57
abbrev I.Schedule.points.id : FuncId := 58
abbrev I.Round.pairs.id : FuncId := 59
abbrev I.Schedule.canBeFirst.c1.id : FuncId := 60
abbrev slices.Index_Sint64_int64.id : FuncId := 61
abbrev slices.Delete_Sint64_int64.id : FuncId := 62
abbrev S.l01Meetings.id : FuncId := 63
abbrev S.l10Sums.id : FuncId := 64
abbrev I.Schedule.second.id : FuncId := 65
abbrev I.Schedule.third.id : FuncId := 66
abbrev I.numbersFrom.id : FuncId := 67
abbrev slices.SortStableFunc_Sint64_int64.id : FuncId := 68
abbrev I.Schedule.ranking.c1.id : FuncId := 69
abbrev cmp.Or_int.id : FuncId := 70
abbrev cmp.Compare_int64.id : FuncId := 71
abbrev I.free.id : FuncId := 72
abbrev I.rounds.c1.id : FuncId := 73
abbrev I.Round.meet.id : FuncId := 74
abbrev S.l01Round.id : FuncId := 75
abbrev S.l10Won.id : FuncId := 76
abbrev I.IsSchedule.id : FuncId := 77
abbrev slices.ContainsFunc_Sint64_int64.id : FuncId := 78
abbrev I.Schedule.areResults.c1.id : FuncId := 79
abbrev I.Schedule.summed.id : FuncId := 80
abbrev I.Schedule.points.c1.id : FuncId := 81
abbrev I.Schedule.second.c1.id : FuncId := 82
abbrev I.Schedule.third.c1.id : FuncId := 83
abbrev slices.stableCmpFunc_int64.id : FuncId := 84
abbrev cmp.isNaN_int64.id : FuncId := 85
abbrev slices.ContainsFunc_SI_Round_I_Round.id : FuncId := 86
abbrev I.IsSchedule.c1.id : FuncId := 87
abbrev I.IsRound.id : FuncId := 88
abbrev slices.IndexFunc_Sint64_int64.id : FuncId := 89
abbrev I.Schedule.games.id : FuncId := 90
abbrev I.Schedule.summed.c1.id : FuncId := 91
abbrev slices.insertionSortCmpFunc_int64.id : FuncId := 92
abbrev slices.symMergeCmpFunc_int64.id : FuncId := 93
abbrev slices.IndexFunc_SI_Round_I_Round.id : FuncId := 94
abbrev slices.rotateCmpFunc_int64.id : FuncId := 95
abbrev slices.swapRangeCmpFunc_int64.id : FuncId := 96
end Go.Proofs.Ytbppeajpjnlobaa
