/- Types of plain data that the texts on tasks use. -/
import Derived.Test.YtmclfehlflekhaaRB
namespace Go.Ab
abbrev tU : Ty := .int .u64
abbrev tSp : Ty := .pair tI (.pair tI (.pair tU (.pair tU (.pair tP (.pair tP (.list tI))))))
abbrev tRl : Ty := .pair tI (.pair tI (.pair tI (.pair tI (.pair tI (.pair tI (.pair tI (.list tA)))))))
abbrev tB : Ty := .pair tI (.pair tI tI)
abbrev Sp := Int × Int × Int × Int × Pt × Pt × List Int
abbrev Ru := Int × Int × Int × Int × Int × Int × Int × List Ai
abbrev Bd := Int × Int × Int
abbrev agS (x : Sp) : AV := .agg [.int .i64 x.1, .int .i64 x.2.1, .int .u64 x.2.2.1, .int .u64 x.2.2.2.1, .int .i64 x.2.2.2.2.1.1, .int .i64 x.2.2.2.2.1.2, .int .i64 x.2.2.2.2.2.1.1, .int .i64 x.2.2.2.2.2.1.2, .ro tI x.2.2.2.2.2.2]
abbrev agR (r : Ru) : AV := .agg [.int .i64 r.1, .int .i64 r.2.1, .int .i64 r.2.2.1, .int .i64 r.2.2.2.1, .int .i64 r.2.2.2.2.1, .int .i64 r.2.2.2.2.2.1, .int .i64 r.2.2.2.2.2.2.1, .ro tA r.2.2.2.2.2.2.2]
end Go.Ab
