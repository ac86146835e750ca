/- The program's alt of two facts. -/
import Derived.Test.YtnlaffhkcdfkjaaFacts
import Derived.Deep.DeepCutAuto
import Derived.Deep.CutBlock
namespace Go.Proofs.Ytnlaffhkcdfkjaa
open Go.RowKit
attribute [local go_sem] gives givesUpon

-- def FA := .agg #[.bool a.null, .int .i64 a.least, .int .i64 a.most, .int .u64 a.first.a, .int .u64 a.first.b, .int .u64 a.first.c, .int .u64 a.first.d]
-- def FB := .agg #[.bool b.null, .int .i64 b.least, .int .i64 b.most, .int .u64 b.first.a, .int .u64 b.first.b, .int .u64 b.first.c, .int .u64 b.first.d]
-- def CA := [.bool a.null, .int .i64 a.least, .int .i64 a.most, .int .u64 a.first.a, .int .u64 a.first.b, .int .u64 a.first.c, .int .u64 a.first.d]
-- def CB := [.bool b.null, .int .i64 b.least, .int .i64 b.most, .int .u64 b.first.a, .int .u64 b.first.b, .int .u64 b.first.c, .int .u64 b.first.d]
-- def C0 := [.bool false, .int .i64 0, .int .i64 0, .int .u64 0, .int .u64 0, .int .u64 0, .int .u64 0]

end Go.Proofs.Ytnlaffhkcdfkjaa
