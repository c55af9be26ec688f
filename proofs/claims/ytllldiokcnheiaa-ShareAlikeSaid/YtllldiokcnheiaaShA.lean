/- The share layer's types, and walks of its first functions. -/
import Derived.Test.YtllldiokcnheiaaSy2
import Derived.Test.YtllldiokcnheiaaProg
import Derived.KernelRfl

namespace Go.Proofs.Ytllldiokcnheiaa.Sh
open Go.Proofs Go.Proofs.Ytllldiokcnheiaa.Ab
noncomputable section

theorem sz1 : szA Try.prog 1 = some 1 := by kernel_rfl
theorem sh1 : shapeA Try.prog 1 = some none := by kernel_rfl
def zs1 : List AV := [.nilf]
theorem zero1 : zeroA Try.prog 1 = some (.nilf) := by kernel_rfl
theorem sz2 : szA Try.prog 2 = some 1 := by kernel_rfl
theorem sh2 : shapeA Try.prog 2 = some none := by kernel_rfl
def zs2 : List AV := [.int .i64 0]
theorem zero2 : zeroA Try.prog 2 = some (.int .i64 0) := by kernel_rfl
theorem sz3 : szA Try.prog 3 = some 1 := by kernel_rfl
theorem sh3 : shapeA Try.prog 3 = some none := by kernel_rfl
def zs3 : List AV := [.int .i64 0]
theorem zero3 : zeroA Try.prog 3 = some (.int .i64 0) := by kernel_rfl
theorem sz4 : szA Try.prog 4 = some 1 := by kernel_rfl
theorem sh4 : shapeA Try.prog 4 = some none := by kernel_rfl
def zs4 : List AV := [.bool false]
theorem zero4 : zeroA Try.prog 4 = some (.bool false) := by kernel_rfl
theorem sz5 : szA Try.prog 5 = some 1 := by kernel_rfl
theorem sh5 : shapeA Try.prog 5 = some none := by kernel_rfl
def zs5 : List AV := [.int .u8 0]
theorem zero5 : zeroA Try.prog 5 = some (.int .u8 0) := by kernel_rfl
theorem sz6 : szA Try.prog 6 = some 1 := by kernel_rfl
theorem sh6 : shapeA Try.prog 6 = some none := by kernel_rfl
def zs6 : List AV := [.int .u8 0]
theorem zero6 : zeroA Try.prog 6 = some (.int .u8 0) := by kernel_rfl
theorem sz7 : szA Try.prog 7 = some 4 := by kernel_rfl
theorem sh7 : shapeA Try.prog 7 = some (some 4) := by kernel_rfl
def zs7 : List AV := [.int .i64 0, .int .i64 0, .bool false, .int .u8 0]
theorem zero7 : zeroA Try.prog 7 = some (.agg zs7) := by kernel_rfl
theorem sz8 : szA Try.prog 8 = some 4 := by kernel_rfl
theorem sh8 : shapeA Try.prog 8 = some (some 4) := by kernel_rfl
def zs8 : List AV := [.int .i64 0, .int .i64 0, .bool false, .int .u8 0]
theorem zero8 : zeroA Try.prog 8 = some (.agg zs8) := by kernel_rfl
theorem sz12 : szA Try.prog 12 = some 1 := by kernel_rfl
theorem sh12 : shapeA Try.prog 12 = some none := by kernel_rfl
def zs12 : List AV := [.int .u64 0]
theorem zero12 : zeroA Try.prog 12 = some (.int .u64 0) := by kernel_rfl
theorem sz13 : szA Try.prog 13 = some 2 := by kernel_rfl
theorem sh13 : shapeA Try.prog 13 = some (some 2) := by kernel_rfl
theorem sz14 : szA Try.prog 14 = some 2 := by kernel_rfl
theorem sh14 : shapeA Try.prog 14 = some (some 2) := by kernel_rfl
theorem sz15 : szA Try.prog 15 = some 1 := by kernel_rfl
theorem sh15 : shapeA Try.prog 15 = some none := by kernel_rfl
def zs15 : List AV := [.nilp]
theorem zero15 : zeroA Try.prog 15 = some (.nilp) := by kernel_rfl
theorem sz16 : szA Try.prog 16 = some 1 := by kernel_rfl
theorem sh16 : shapeA Try.prog 16 = some none := by kernel_rfl
def zs16 : List AV := [.nilp]
theorem zero16 : zeroA Try.prog 16 = some (.nilp) := by kernel_rfl
theorem sz17 : szA Try.prog 17 = some 1 := by kernel_rfl
theorem sh17 : shapeA Try.prog 17 = some none := by kernel_rfl
def zs17 : List AV := [.nilp]
theorem zero17 : zeroA Try.prog 17 = some (.nilp) := by kernel_rfl
theorem sz18 : szA Try.prog 18 = some 1 := by kernel_rfl
theorem sh18 : shapeA Try.prog 18 = some (some 1) := by kernel_rfl
def zs18 : List AV := [.nilp]
theorem zero18 : zeroA Try.prog 18 = some (.agg zs18) := by kernel_rfl
theorem sz19 : szA Try.prog 19 = some 1 := by kernel_rfl
theorem sh19 : shapeA Try.prog 19 = some (some 1) := by kernel_rfl
def zs19 : List AV := [.nilp]
theorem zero19 : zeroA Try.prog 19 = some (.agg zs19) := by kernel_rfl
theorem sz21 : szA Try.prog 21 = some 1 := by kernel_rfl
theorem sh21 : shapeA Try.prog 21 = some none := by kernel_rfl
def zs21 : List AV := [.int .i32 0]
theorem zero21 : zeroA Try.prog 21 = some (.int .i32 0) := by kernel_rfl
theorem u22 : Try.prog.underlying 22 = some (.array 6 5) := by kernel_rfl
theorem sz22 : szA Try.prog 22 = some 6 := by kernel_rfl
theorem sh22 : shapeA Try.prog 22 = some (some 6) := by kernel_rfl
def zs22 : List AV := [.int .u8 0, .int .u8 0, .int .u8 0, .int .u8 0, .int .u8 0, .int .u8 0]
theorem zero22 : zeroA Try.prog 22 = some (.agg zs22) := by kernel_rfl
theorem u23 : Try.prog.underlying 23 = some (.array 4 22) := by kernel_rfl
theorem sz23 : szA Try.prog 23 = some 24 := by kernel_rfl
theorem sh23 : shapeA Try.prog 23 = some (some 24) := by kernel_rfl
def zs23 : List AV := [.int .u8 0, .int .u8 0, .int .u8 0, .int .u8 0, .int .u8 0, .int .u8 0, .int .u8 0, .int .u8 0, .int .u8 0, .int .u8 0, .int .u8 0, .int .u8 0, .int .u8 0, .int .u8 0, .int .u8 0, .int .u8 0, .int .u8 0, .int .u8 0, .int .u8 0, .int .u8 0, .int .u8 0, .int .u8 0, .int .u8 0, .int .u8 0]
theorem zero23 : zeroA Try.prog 23 = some (.agg zs23) := by kernel_rfl
theorem sz24 : szA Try.prog 24 = some 26 := by kernel_rfl
theorem sh24 : shapeA Try.prog 24 = some (some 26) := by kernel_rfl
def zs24 : List AV := [.int .u8 0, .int .u8 0, .int .u8 0, .int .u8 0, .int .u8 0, .int .u8 0, .int .u8 0, .int .u8 0, .int .u8 0, .int .u8 0, .int .u8 0, .int .u8 0, .int .u8 0, .int .u8 0, .int .u8 0, .int .u8 0, .int .u8 0, .int .u8 0, .int .u8 0, .int .u8 0, .int .u8 0, .int .u8 0, .int .u8 0, .int .u8 0, .int .u8 0, .int .u8 0]
theorem zero24 : zeroA Try.prog 24 = some (.agg zs24) := by kernel_rfl
theorem sz25 : szA Try.prog 25 = some 26 := by kernel_rfl
theorem sh25 : shapeA Try.prog 25 = some (some 26) := by kernel_rfl
def zs25 : List AV := [.int .u8 0, .int .u8 0, .int .u8 0, .int .u8 0, .int .u8 0, .int .u8 0, .int .u8 0, .int .u8 0, .int .u8 0, .int .u8 0, .int .u8 0, .int .u8 0, .int .u8 0, .int .u8 0, .int .u8 0, .int .u8 0, .int .u8 0, .int .u8 0, .int .u8 0, .int .u8 0, .int .u8 0, .int .u8 0, .int .u8 0, .int .u8 0, .int .u8 0, .int .u8 0]
theorem zero25 : zeroA Try.prog 25 = some (.agg zs25) := by kernel_rfl
theorem u26 : Try.prog.underlying 26 = some (.slice 28) := by kernel_rfl
theorem sz26 : szA Try.prog 26 = some 1 := by kernel_rfl
theorem sh26 : shapeA Try.prog 26 = some none := by kernel_rfl
def zs26 : List AV := [.nils]
theorem zero26 : zeroA Try.prog 26 = some (.nils) := by kernel_rfl
theorem sz27 : szA Try.prog 27 = some 1 := by kernel_rfl
theorem sh27 : shapeA Try.prog 27 = some none := by kernel_rfl
def zs27 : List AV := [.nilf]
theorem zero27 : zeroA Try.prog 27 = some (.nilf) := by kernel_rfl
theorem u28 : Try.prog.underlying 28 = some (.slice 3) := by kernel_rfl
theorem sz28 : szA Try.prog 28 = some 1 := by kernel_rfl
theorem sh28 : shapeA Try.prog 28 = some none := by kernel_rfl
def zs28 : List AV := [.nils]
theorem zero28 : zeroA Try.prog 28 = some (.nils) := by kernel_rfl
theorem sz29 : szA Try.prog 29 = some 1 := by kernel_rfl
theorem sh29 : shapeA Try.prog 29 = some none := by kernel_rfl
def zs29 : List AV := [.int .i64 0]
theorem zero29 : zeroA Try.prog 29 = some (.int .i64 0) := by kernel_rfl
theorem sz31 : szA Try.prog 31 = some 1 := by kernel_rfl
theorem sh31 : shapeA Try.prog 31 = some none := by kernel_rfl
def zs31 : List AV := [.nilf]
theorem zero31 : zeroA Try.prog 31 = some (.nilf) := by kernel_rfl
theorem sz32 : szA Try.prog 32 = some 1 := by kernel_rfl
theorem sh32 : shapeA Try.prog 32 = some none := by kernel_rfl
def zs32 : List AV := [.nilf]
theorem zero32 : zeroA Try.prog 32 = some (.nilf) := by kernel_rfl
theorem sz33 : szA Try.prog 33 = some 1 := by kernel_rfl
theorem sh33 : shapeA Try.prog 33 = some none := by kernel_rfl
def zs33 : List AV := [.nilf]
theorem zero33 : zeroA Try.prog 33 = some (.nilf) := by kernel_rfl
theorem sz34 : szA Try.prog 34 = some 1 := by kernel_rfl
theorem sh34 : shapeA Try.prog 34 = some none := by kernel_rfl
def zs34 : List AV := [.nilf]
theorem zero34 : zeroA Try.prog 34 = some (.nilf) := by kernel_rfl
theorem u35 : Try.prog.underlying 35 = some (.slice 64) := by kernel_rfl
theorem sz35 : szA Try.prog 35 = some 1 := by kernel_rfl
theorem sh35 : shapeA Try.prog 35 = some none := by kernel_rfl
def zs35 : List AV := [.nils]
theorem zero35 : zeroA Try.prog 35 = some (.nils) := by kernel_rfl
theorem sz37 : szA Try.prog 37 = some 1 := by kernel_rfl
theorem sh37 : shapeA Try.prog 37 = some none := by kernel_rfl
def zs37 : List AV := [.nilf]
theorem zero37 : zeroA Try.prog 37 = some (.nilf) := by kernel_rfl
theorem sz38 : szA Try.prog 38 = some 1 := by kernel_rfl
theorem sh38 : shapeA Try.prog 38 = some none := by kernel_rfl
def zs38 : List AV := [.nilf]
theorem zero38 : zeroA Try.prog 38 = some (.nilf) := by kernel_rfl
theorem sz40 : szA Try.prog 40 = some 1 := by kernel_rfl
theorem sh40 : shapeA Try.prog 40 = some none := by kernel_rfl
def zs40 : List AV := [.nilf]
theorem zero40 : zeroA Try.prog 40 = some (.nilf) := by kernel_rfl
theorem sz41 : szA Try.prog 41 = some 1 := by kernel_rfl
theorem sh41 : shapeA Try.prog 41 = some none := by kernel_rfl
def zs41 : List AV := [.nilf]
theorem zero41 : zeroA Try.prog 41 = some (.nilf) := by kernel_rfl
theorem sz42 : szA Try.prog 42 = some 1 := by kernel_rfl
theorem sh42 : shapeA Try.prog 42 = some none := by kernel_rfl
def zs42 : List AV := [.nilf]
theorem zero42 : zeroA Try.prog 42 = some (.nilf) := by kernel_rfl
theorem sz43 : szA Try.prog 43 = some 1 := by kernel_rfl
theorem sh43 : shapeA Try.prog 43 = some none := by kernel_rfl
def zs43 : List AV := [.nilf]
theorem zero43 : zeroA Try.prog 43 = some (.nilf) := by kernel_rfl
theorem sz44 : szA Try.prog 44 = some 1 := by kernel_rfl
theorem sh44 : shapeA Try.prog 44 = some none := by kernel_rfl
def zs44 : List AV := [.nilf]
theorem zero44 : zeroA Try.prog 44 = some (.nilf) := by kernel_rfl
theorem sz45 : szA Try.prog 45 = some 1 := by kernel_rfl
theorem sh45 : shapeA Try.prog 45 = some none := by kernel_rfl
def zs45 : List AV := [.nilf]
theorem zero45 : zeroA Try.prog 45 = some (.nilf) := by kernel_rfl
theorem sz46 : szA Try.prog 46 = some 1 := by kernel_rfl
theorem sh46 : shapeA Try.prog 46 = some none := by kernel_rfl
def zs46 : List AV := [.nilf]
theorem zero46 : zeroA Try.prog 46 = some (.nilf) := by kernel_rfl
theorem sz47 : szA Try.prog 47 = some 1 := by kernel_rfl
theorem sh47 : shapeA Try.prog 47 = some none := by kernel_rfl
def zs47 : List AV := [.nilf]
theorem zero47 : zeroA Try.prog 47 = some (.nilf) := by kernel_rfl
theorem sz48 : szA Try.prog 48 = some 1 := by kernel_rfl
theorem sh48 : shapeA Try.prog 48 = some none := by kernel_rfl
def zs48 : List AV := [.nilf]
theorem zero48 : zeroA Try.prog 48 = some (.nilf) := by kernel_rfl
theorem u49 : Try.prog.underlying 49 = some (.slice 22) := by kernel_rfl
theorem sz49 : szA Try.prog 49 = some 1 := by kernel_rfl
theorem sh49 : shapeA Try.prog 49 = some none := by kernel_rfl
def zs49 : List AV := [.nils]
theorem zero49 : zeroA Try.prog 49 = some (.nils) := by kernel_rfl
theorem u50 : Try.prog.underlying 50 = some (.slice 5) := by kernel_rfl
theorem sz50 : szA Try.prog 50 = some 1 := by kernel_rfl
theorem sh50 : shapeA Try.prog 50 = some none := by kernel_rfl
def zs50 : List AV := [.nils]
theorem zero50 : zeroA Try.prog 50 = some (.nils) := by kernel_rfl
theorem sz51 : szA Try.prog 51 = some 2 := by kernel_rfl
theorem sh51 : shapeA Try.prog 51 = some (some 2) := by kernel_rfl
def zs51 : List AV := [.nils, .nils]
theorem zero51 : zeroA Try.prog 51 = some (.agg zs51) := by kernel_rfl
theorem sz52 : szA Try.prog 52 = some 2 := by kernel_rfl
theorem sh52 : shapeA Try.prog 52 = some (some 2) := by kernel_rfl
def zs52 : List AV := [.nils, .nils]
theorem zero52 : zeroA Try.prog 52 = some (.agg zs52) := by kernel_rfl
theorem sz54 : szA Try.prog 54 = some 1 := by kernel_rfl
theorem sh54 : shapeA Try.prog 54 = some none := by kernel_rfl
def zs54 : List AV := [.nilf]
theorem zero54 : zeroA Try.prog 54 = some (.nilf) := by kernel_rfl
theorem sz56 : szA Try.prog 56 = some 1 := by kernel_rfl
theorem sh56 : shapeA Try.prog 56 = some none := by kernel_rfl
def zs56 : List AV := [.nilf]
theorem zero56 : zeroA Try.prog 56 = some (.nilf) := by kernel_rfl
theorem sz58 : szA Try.prog 58 = some 1 := by kernel_rfl
theorem sh58 : shapeA Try.prog 58 = some none := by kernel_rfl
def zs58 : List AV := [.nilf]
theorem zero58 : zeroA Try.prog 58 = some (.nilf) := by kernel_rfl
theorem sz59 : szA Try.prog 59 = some 1 := by kernel_rfl
theorem sh59 : shapeA Try.prog 59 = some none := by kernel_rfl
def zs59 : List AV := [.nilf]
theorem zero59 : zeroA Try.prog 59 = some (.nilf) := by kernel_rfl
theorem sz60 : szA Try.prog 60 = some 1 := by kernel_rfl
theorem sh60 : shapeA Try.prog 60 = some none := by kernel_rfl
def zs60 : List AV := [.nilf]
theorem zero60 : zeroA Try.prog 60 = some (.nilf) := by kernel_rfl
theorem sz62 : szA Try.prog 62 = some 1 := by kernel_rfl
theorem sh62 : shapeA Try.prog 62 = some none := by kernel_rfl
def zs62 : List AV := [.nilf]
theorem zero62 : zeroA Try.prog 62 = some (.nilf) := by kernel_rfl
theorem sz63 : szA Try.prog 63 = some 1 := by kernel_rfl
theorem sh63 : shapeA Try.prog 63 = some none := by kernel_rfl
def zs63 : List AV := [.nilf]
theorem zero63 : zeroA Try.prog 63 = some (.nilf) := by kernel_rfl
theorem u64 : Try.prog.underlying 64 = some (.array 2 3) := by kernel_rfl
theorem sz64 : szA Try.prog 64 = some 2 := by kernel_rfl
theorem sh64 : shapeA Try.prog 64 = some (some 2) := by kernel_rfl
def zs64 : List AV := [.int .i64 0, .int .i64 0]
theorem zero64 : zeroA Try.prog 64 = some (.agg zs64) := by kernel_rfl
theorem sz65 : szA Try.prog 65 = some 1 := by kernel_rfl
theorem sh65 : shapeA Try.prog 65 = some none := by kernel_rfl
def zs65 : List AV := [.nilf]
theorem zero65 : zeroA Try.prog 65 = some (.nilf) := by kernel_rfl
theorem sz66 : szA Try.prog 66 = some 1 := by kernel_rfl
theorem sh66 : shapeA Try.prog 66 = some none := by kernel_rfl
def zs66 : List AV := [.nilf]
theorem zero66 : zeroA Try.prog 66 = some (.nilf) := by kernel_rfl
theorem sz67 : szA Try.prog 67 = some 1 := by kernel_rfl
theorem sh67 : shapeA Try.prog 67 = some none := by kernel_rfl
def zs67 : List AV := [.nilf]
theorem zero67 : zeroA Try.prog 67 = some (.nilf) := by kernel_rfl
theorem sz68 : szA Try.prog 68 = some 1 := by kernel_rfl
theorem sh68 : shapeA Try.prog 68 = some none := by kernel_rfl
def zs68 : List AV := [.nilf]
theorem zero68 : zeroA Try.prog 68 = some (.nilf) := by kernel_rfl
theorem sz69 : szA Try.prog 69 = some 1 := by kernel_rfl
theorem sh69 : shapeA Try.prog 69 = some none := by kernel_rfl
def zs69 : List AV := [.nilf]
theorem zero69 : zeroA Try.prog 69 = some (.nilf) := by kernel_rfl
theorem sz70 : szA Try.prog 70 = some 1 := by kernel_rfl
theorem sh70 : shapeA Try.prog 70 = some none := by kernel_rfl
def zs70 : List AV := [.nilf]
theorem zero70 : zeroA Try.prog 70 = some (.nilf) := by kernel_rfl
theorem sz71 : szA Try.prog 71 = some 1 := by kernel_rfl
theorem sh71 : shapeA Try.prog 71 = some none := by kernel_rfl
def zs71 : List AV := [.nilf]
theorem zero71 : zeroA Try.prog 71 = some (.nilf) := by kernel_rfl
theorem sz72 : szA Try.prog 72 = some 1 := by kernel_rfl
theorem sh72 : shapeA Try.prog 72 = some none := by kernel_rfl
def zs72 : List AV := [.nilf]
theorem zero72 : zeroA Try.prog 72 = some (.nilf) := by kernel_rfl
theorem sz73 : szA Try.prog 73 = some 1 := by kernel_rfl
theorem sh73 : shapeA Try.prog 73 = some none := by kernel_rfl
def zs73 : List AV := [.nilf]
theorem zero73 : zeroA Try.prog 73 = some (.nilf) := by kernel_rfl
theorem sz74 : szA Try.prog 74 = some 1 := by kernel_rfl
theorem sh74 : shapeA Try.prog 74 = some none := by kernel_rfl
def zs74 : List AV := [.nilf]
theorem zero74 : zeroA Try.prog 74 = some (.nilf) := by kernel_rfl
theorem sz75 : szA Try.prog 75 = some 1 := by kernel_rfl
theorem sh75 : shapeA Try.prog 75 = some none := by kernel_rfl
def zs75 : List AV := [.nilf]
theorem zero75 : zeroA Try.prog 75 = some (.nilf) := by kernel_rfl
theorem sz76 : szA Try.prog 76 = some 1 := by kernel_rfl
theorem sh76 : shapeA Try.prog 76 = some none := by kernel_rfl
def zs76 : List AV := [.nilf]
theorem zero76 : zeroA Try.prog 76 = some (.nilf) := by kernel_rfl
theorem sz78 : szA Try.prog 78 = some 1 := by kernel_rfl
theorem sh78 : shapeA Try.prog 78 = some none := by kernel_rfl
def zs78 : List AV := [.nilf]
theorem zero78 : zeroA Try.prog 78 = some (.nilf) := by kernel_rfl
theorem sz79 : szA Try.prog 79 = some 1 := by kernel_rfl
theorem sh79 : shapeA Try.prog 79 = some none := by kernel_rfl
def zs79 : List AV := [.nilf]
theorem zero79 : zeroA Try.prog 79 = some (.nilf) := by kernel_rfl
theorem sz80 : szA Try.prog 80 = some 1 := by kernel_rfl
theorem sh80 : shapeA Try.prog 80 = some none := by kernel_rfl
def zs80 : List AV := [.nilf]
theorem zero80 : zeroA Try.prog 80 = some (.nilf) := by kernel_rfl
theorem sz81 : szA Try.prog 81 = some 1 := by kernel_rfl
theorem sh81 : shapeA Try.prog 81 = some none := by kernel_rfl
def zs81 : List AV := [.nilf]
theorem zero81 : zeroA Try.prog 81 = some (.nilf) := by kernel_rfl
theorem sz82 : szA Try.prog 82 = some 1 := by kernel_rfl
theorem sh82 : shapeA Try.prog 82 = some none := by kernel_rfl
def zs82 : List AV := [.nilf]
theorem zero82 : zeroA Try.prog 82 = some (.nilf) := by kernel_rfl
theorem sz83 : szA Try.prog 83 = some 1 := by kernel_rfl
theorem sh83 : shapeA Try.prog 83 = some none := by kernel_rfl
def zs83 : List AV := [.int .u64 0]
theorem zero83 : zeroA Try.prog 83 = some (.int .u64 0) := by kernel_rfl
theorem sz85 : szA Try.prog 85 = some 1 := by kernel_rfl
theorem sh85 : shapeA Try.prog 85 = some none := by kernel_rfl
def zs85 : List AV := [.nilf]
theorem zero85 : zeroA Try.prog 85 = some (.nilf) := by kernel_rfl
theorem sz86 : szA Try.prog 86 = some 1 := by kernel_rfl
theorem sh86 : shapeA Try.prog 86 = some none := by kernel_rfl
def zs86 : List AV := [.int .u32 0]
theorem zero86 : zeroA Try.prog 86 = some (.int .u32 0) := by kernel_rfl
theorem sz88 : szA Try.prog 88 = some 1 := by kernel_rfl
theorem sh88 : shapeA Try.prog 88 = some none := by kernel_rfl
def zs88 : List AV := [.nilf]
theorem zero88 : zeroA Try.prog 88 = some (.nilf) := by kernel_rfl
theorem sz89 : szA Try.prog 89 = some 1 := by kernel_rfl
theorem sh89 : shapeA Try.prog 89 = some none := by kernel_rfl
def zs89 : List AV := [.int .u64 0]
theorem zero89 : zeroA Try.prog 89 = some (.int .u64 0) := by kernel_rfl
theorem sz91 : szA Try.prog 91 = some 1 := by kernel_rfl
theorem sh91 : shapeA Try.prog 91 = some none := by kernel_rfl
def zs91 : List AV := [.nilf]
theorem zero91 : zeroA Try.prog 91 = some (.nilf) := by kernel_rfl
theorem sz92 : szA Try.prog 92 = some 1 := by kernel_rfl
theorem sh92 : shapeA Try.prog 92 = some none := by kernel_rfl
def zs92 : List AV := [.nilf]
theorem zero92 : zeroA Try.prog 92 = some (.nilf) := by kernel_rfl
theorem sz93 : szA Try.prog 93 = some 4 := by kernel_rfl
theorem sh93 : shapeA Try.prog 93 = some (some 4) := by kernel_rfl
theorem sz94 : szA Try.prog 94 = some 4 := by kernel_rfl
theorem sh94 : shapeA Try.prog 94 = some (some 4) := by kernel_rfl
theorem u95 : Try.prog.underlying 95 = some (.array 0 16) := by kernel_rfl
theorem sz95 : szA Try.prog 95 = some 0 := by kernel_rfl
theorem sh95 : shapeA Try.prog 95 = some (some 0) := by kernel_rfl
def zs95 : List AV := []
theorem zero95 : zeroA Try.prog 95 = some (.agg zs95) := by kernel_rfl
theorem sz96 : szA Try.prog 96 = some 0 := by kernel_rfl
theorem sh96 : shapeA Try.prog 96 = some (some 0) := by kernel_rfl
def zs96 : List AV := []
theorem zero96 : zeroA Try.prog 96 = some (.agg zs96) := by kernel_rfl
theorem sz97 : szA Try.prog 97 = some 0 := by kernel_rfl
theorem sh97 : shapeA Try.prog 97 = some (some 0) := by kernel_rfl
def zs97 : List AV := []
theorem zero97 : zeroA Try.prog 97 = some (.agg zs97) := by kernel_rfl
theorem sz98 : szA Try.prog 98 = some 1 := by kernel_rfl
theorem sh98 : shapeA Try.prog 98 = some none := by kernel_rfl
def zs98 : List AV := [.int .u8 0]
theorem zero98 : zeroA Try.prog 98 = some (.int .u8 0) := by kernel_rfl
theorem sz99 : szA Try.prog 99 = some 1 := by kernel_rfl
theorem sh99 : shapeA Try.prog 99 = some none := by kernel_rfl
def zs99 : List AV := [.int .u8 0]
theorem zero99 : zeroA Try.prog 99 = some (.int .u8 0) := by kernel_rfl
theorem sz100 : szA Try.prog 100 = some 1 := by kernel_rfl
theorem sh100 : shapeA Try.prog 100 = some none := by kernel_rfl
def zs100 : List AV := [.nilf]
theorem zero100 : zeroA Try.prog 100 = some (.nilf) := by kernel_rfl
theorem sz101 : szA Try.prog 101 = some 1 := by kernel_rfl
theorem sh101 : shapeA Try.prog 101 = some none := by kernel_rfl
def zs101 : List AV := [.nilp]
theorem zero101 : zeroA Try.prog 101 = some (.nilp) := by kernel_rfl
theorem sz102 : szA Try.prog 102 = some 1 := by kernel_rfl
theorem sh102 : shapeA Try.prog 102 = some none := by kernel_rfl
def zs102 : List AV := [.int .i32 0]
theorem zero102 : zeroA Try.prog 102 = some (.int .i32 0) := by kernel_rfl
theorem sz103 : szA Try.prog 103 = some 1 := by kernel_rfl
theorem sh103 : shapeA Try.prog 103 = some none := by kernel_rfl
def zs103 : List AV := [.int .i32 0]
theorem zero103 : zeroA Try.prog 103 = some (.int .i32 0) := by kernel_rfl
theorem sz104 : szA Try.prog 104 = some 11 := by kernel_rfl
theorem sh104 : shapeA Try.prog 104 = some (some 11) := by kernel_rfl
def zs104 : List AV := [.int .u64 0, .int .u64 0, .int .u32 0, .int .u8 0, .int .u8 0, .int .u8 0, .int .u8 0, .nilf, .nilp, .int .i32 0, .int .i32 0]
theorem zero104 : zeroA Try.prog 104 = some (.agg zs104) := by kernel_rfl
theorem sz105 : szA Try.prog 105 = some 11 := by kernel_rfl
theorem sh105 : shapeA Try.prog 105 = some (some 11) := by kernel_rfl
def zs105 : List AV := [.int .u64 0, .int .u64 0, .int .u32 0, .int .u8 0, .int .u8 0, .int .u8 0, .int .u8 0, .nilf, .nilp, .int .i32 0, .int .i32 0]
theorem zero105 : zeroA Try.prog 105 = some (.agg zs105) := by kernel_rfl
theorem ap26 : AppT Try.prog 26 26 1 := ⟨⟨28, 24, (.nils), by kernel_rfl, by kernel_rfl, by kernel_rfl, by kernel_rfl, zero28, by kernel_rfl, by kernel_rfl⟩, by kernel_rfl, rfl⟩
theorem ap28 : AppT Try.prog 28 28 1 := ⟨⟨3, 8, (.int .i64 0), by kernel_rfl, by kernel_rfl, by kernel_rfl, by kernel_rfl, zero3, by kernel_rfl, by kernel_rfl⟩, by kernel_rfl, rfl⟩
theorem ap35 : AppT Try.prog 35 35 2 := ⟨⟨64, 16, (.agg zs64), by kernel_rfl, by kernel_rfl, by kernel_rfl, by kernel_rfl, zero64, by kernel_rfl, by kernel_rfl⟩, by kernel_rfl, rfl⟩
theorem ap49 : AppT Try.prog 49 49 6 := ⟨⟨22, 6, (.agg zs22), by kernel_rfl, by kernel_rfl, by kernel_rfl, by kernel_rfl, zero22, by kernel_rfl, by kernel_rfl⟩, by kernel_rfl, rfl⟩
theorem ap50 : AppT Try.prog 50 50 1 := ⟨⟨5, 1, (.int .u8 0), by kernel_rfl, by kernel_rfl, by kernel_rfl, by kernel_rfl, zero5, by kernel_rfl, by kernel_rfl⟩, by kernel_rfl, rfl⟩
end
end Go.Proofs.Ytllldiokcnheiaa.Sh

namespace Go.Proofs.Ytllldiokcnheiaa.Sh
open Go.Proofs Go.Proofs.Ytllldiokcnheiaa.Ab
set_option linter.unusedVariables false
set_option linter.unusedSimpArgs false
set_option maxHeartbeats 2000000
set_option maxRecDepth 100000
noncomputable section
/-- Nothing is known beforehand but of one function. -/
def OK (O : CallF) : Prop := ∀ f args h, f ≠ 8 → O f args h = none

/-- What a share is worth, and the greatest thing in it: over the first things. -/
def wS (row own : List Int) (of_ : Int) : Nat → Int
  | 0 => 0
  | k + 1 => wS row own of_ k + if own.getD k (-1) = of_ then row.getD k 0 else 0
def gS (row own : List Int) (of_ : Int) : Nat → Int
  | 0 => 0
  | k + 1 => if own.getD k (-1) = of_ then max (gS row own of_ k) (row.getD k 0) else gS row own of_ k

def Small (rows : List (List Int)) : Prop := ∀ r ∈ rows, ∀ x ∈ r, 0 ≤ x ∧ x ≤ 1000

theorem getD_mem {l : List Int} {k : Nat} {d : Int} (hk : k < l.length) : l.getD k d = l[k] := by
  rw [List.getD_eq_getElem?_getD, List.getElem?_eq_getElem hk]; rfl

theorem wS_le {row own : List Int} {of_ : Int} (hr : ∀ x ∈ row, 0 ≤ x ∧ x ≤ 1000) : ∀ k, 0 ≤ wS row own of_ k ∧ wS row own of_ k ≤ 1000 * k
  | 0 => ⟨Int.le_refl _, Int.le_refl _⟩
  | k + 1 => by
    have ih := wS_le (own := own) (of_ := of_) hr k
    have hx : 0 ≤ row.getD k 0 ∧ row.getD k 0 ≤ 1000 := by
      by_cases hk : k < row.length
      · rw [getD_mem hk]; exact hr _ (List.getElem_mem hk)
      · rw [List.getD_eq_getElem?_getD, List.getElem?_eq_none (by omega)]; simp
    unfold wS
    split <;> omega
theorem gS_le {row own : List Int} {of_ : Int} (hr : ∀ x ∈ row, 0 ≤ x ∧ x ≤ 1000) : ∀ k, 0 ≤ gS row own of_ k ∧ gS row own of_ k ≤ 1000
  | 0 => ⟨Int.le_refl _, by show (0:Int) ≤ 1000; omega⟩
  | k + 1 => by
    have ih := gS_le (own := own) (of_ := of_) hr k
    have hx : 0 ≤ row.getD k 0 ∧ row.getD k 0 ≤ 1000 := by
      by_cases hk : k < row.length
      · rw [getD_mem hk]; exact hr _ (List.getElem_mem hk)
      · rw [List.getD_eq_getElem?_getD, List.getElem?_eq_none (by omega)]; simp
    unfold gS
    split <;> omega

theorem flat2 {h : AH} {v o : AV} {sz n sz' n' : Nat} {cs cs' : List AV} (hv : Sl h v sz n cs) (ho : Sl h o sz' n' cs') : allFlat [v, o] = true := by
  rcases hv with ⟨rfl, _, _⟩ | ⟨_, _, _, _, _, _, rfl, _⟩ <;> rcases ho with ⟨rfl, _, _⟩ | ⟨_, _, _, _, _, _, rfl, _⟩ <;> rfl

/-- A division in memory. -/
structure Dv (h : AH) (v o : AV) (vs : List AV) (rows : List (List Int)) (own : List Int) : Prop where
  m : Mat h v vs rows
  o : Ints h o own
theorem Dv.keep {h h' : AH} {v o : AV} {vs : List AV} {rows : List (List Int)} {own : List Int} (d : Dv h v o vs rows own) (k : Keeps h h') : Dv h' v o vs rows own := ⟨d.m.keep k, d.o.keep k⟩
theorem Dv.flat {h : AH} {v o : AV} {vs : List AV} {rows : List (List Int)} {own : List Int} (d : Dv h v o vs rows own) : allFlat [v, o] = true := flat2 d.m.sl d.o

/-- What is asked of a division: rows of as many things, and owners who are finders. -/
structure Fit (rows : List (List Int)) (own : List Int) : Prop where
  n0 : 1 ≤ rows.length
  n4 : rows.length ≤ 4
  len : ∀ r ∈ rows, r.length = own.length
  o6 : own.length ≤ 6
  val : ∀ r ∈ rows, ∀ x ∈ r, 0 ≤ x ∧ x ≤ 20
  who : ∀ x ∈ own, 0 ≤ x ∧ x < rows.length

section
variable {O : CallF} {h : AH}

theorem within_cl (hO : OK O) (n a b : Int) : Cl Try.prog O 0 33 [I n, I a, I b] h (fun v h' => v = .bool (decide (a ≤ n ∧ n ≤ b)) ∧ h = h') := by
  refine Cl.intro (N := 15) (K := 71) (hO _ _ _ (by decide)) Try.func33 rfl rfl (k := 3) rfl rfl rfl (by kernel_rfl) (.cons 0 _ (.cons 1 _ (.cons 2 _ .nil))) ⟨⟨rfl, rfl⟩, ⟨rfl, rfl⟩, ⟨rfl, rfl⟩, trivial⟩ ?_
  refine EvL.seq ?_
  refine EvL.region ?_
  refine Rn.val (St.assign rfl) rfl ?_
  refine Rn.done (.cons 0 _ (.cons 1 _ (.cons 2 _ .nil))) ⟨⟨rfl, rfl⟩, ⟨rfl, rfl⟩, ⟨rfl, rfl⟩, trivial⟩ ?_
  refine thenL_normal ?_
  refine EvL.seq ?_
  refine EvL.region ?_
  refine Rn.val (St.move rfl) rfl ?_
  refine Rn.val (St.move rfl) rfl ?_
  refine Rn.val (St.leq rfl rfl) rfl ?_
  refine Rn.val (St.move rfl) rfl ?_
  refine Rn.split (tg := 10) rfl (fun g10 => ?_) (fun g10 => ?_)
  · try simp only [decide_eq_true_eq, decide_eq_false_iff_not, Bool.not_eq_true', Bool.not_eq_false', Bool.not_true, Bool.not_false] at g10
    refine Rn.guardT (tg := 10) rfl rfl ?_
    refine Rn.val (St.move rfl) rfl ?_
    refine Rn.guardT (tg := 10) rfl rfl ?_
    refine Rn.val (St.move rfl) rfl ?_
    refine Rn.guardT (tg := 10) rfl rfl ?_
    refine Rn.val (St.leq rfl rfl) rfl ?_
    refine Rn.val (St.pickT rfl rfl rfl) rfl ?_
    refine Rn.val (St.assign rfl) rfl ?_
    refine Rn.done (.cons 6 _ .nil) ⟨⟨rfl, rfl⟩, trivial⟩ ?_
    refine thenL_normal ?_
    refine EvL.ret ?_
    refine endL_ret rfl ?_
    exact ⟨by simp [finL, *], rfl⟩
  · try simp only [decide_eq_true_eq, decide_eq_false_iff_not, Bool.not_eq_true', Bool.not_eq_false', Bool.not_true, Bool.not_false] at g10
    refine Rn.guardF (tg := 10) rfl rfl rfl rfl ?_
    refine Rn.guardF (tg := 10) rfl rfl rfl rfl ?_
    refine Rn.guardF (tg := 10) rfl rfl rfl rfl ?_
    refine Rn.val (St.pickF rfl rfl rfl) rfl ?_
    refine Rn.val (St.assign rfl) rfl ?_
    refine Rn.done (.cons 6 _ .nil) ⟨⟨rfl, rfl⟩, trivial⟩ ?_
    refine thenL_normal ?_
    refine EvL.ret ?_
    refine endL_ret rfl ?_
    exact ⟨by simp [finL, *], rfl⟩

theorem check1_cl (hO : OK O) (n : Int) : Cl Try.prog O 0 53 [I n] h (fun v h' => v = .bool (!decide (0 ≤ n ∧ n ≤ 20)) ∧ h = h') := by
  refine Cl.intro (N := 6) (K := 5) (hO _ _ _ (by decide)) Try.func53 rfl rfl (k := 1) rfl rfl rfl (by kernel_rfl) (.cons 0 _ .nil) ⟨⟨rfl, rfl⟩, trivial⟩ ?_
  refine EvL.seq ?_
  refine EvL.region ?_
  refine Rn.val (St.assign rfl) rfl ?_
  refine Rn.done (.cons 0 _ .nil) ⟨⟨rfl, rfl⟩, trivial⟩ ?_
  refine thenL_normal ?_
  refine EvL.seq ?_
  refine EvL.region ?_
  refine Rn.val (St.move rfl) rfl ?_
  refine Rn.call rfl rfl rfl (within_cl hO _ _ _) fun v4 h4 c4 => ?_
  obtain ⟨rfl, rfl⟩ := c4
  refine Rn.val (St.not rfl) rfl ?_
  refine Rn.val (St.assign rfl) rfl ?_
  refine Rn.done (.cons 2 _ .nil) ⟨⟨rfl, rfl⟩, trivial⟩ ?_
  refine thenL_normal ?_
  refine EvL.ret ?_
  refine endL_ret rfl ?_
  exact ⟨rfl, rfl⟩

theorem some_cl (hO : OK O) (hw : WF h) {v : AV} {xs : List Int} (p : Ints h v xs) (hxs : xs.length ≤ 1000) {fid : FuncId} {us ws : List AV} (isL : Int → Bool)
    (his : ∀ i (hi : i < xs.length), Cl Try.prog O 0 fid (us ++ [I xs[i]] ++ ws) h (fun r h' => r = .bool (isL xs[i]) ∧ h = h')) :
    Cl Try.prog O 0 46 [.fn (.func fid) us ws, v] h (fun r h' => r = .bool (xs.any isL) ∧ h = h') := by
  refine Cl.intro (N := 17) (K := 34771) (hO _ _ _ (by decide)) Try.func46 rfl rfl (k := 2) rfl rfl rfl (by kernel_rfl) (.cons 0 _ (.cons 1 _ .nil)) ⟨⟨rfl, rfl⟩, ⟨rfl, rfl⟩, trivial⟩ ?_
  refine EvL.seq ?_
  refine EvL.region ?_
  refine Rn.val (St.assign rfl) rfl ?_
  refine Rn.done (.cons 0 _ (.cons 1 _ .nil)) ⟨⟨rfl, rfl⟩, ⟨rfl, rfl⟩, trivial⟩ ?_
  refine thenL_normal ?_
  refine EvL.seq ?_
  refine EvL.seq ?_
  refine EvL.region ?_
  refine Rn.val (St.move rfl) rfl ?_
  refine Rn.val (St.len rfl (p.len u28)) rfl ?_
  refine Rn.val (St.move rfl) rfl ?_
  refine Rn.done (.cons 0 _ (.cons 7 _ (.cons 8 _ (.cons 9 _ .nil)))) ⟨⟨rfl, rfl⟩, ⟨rfl, rfl⟩, ⟨rfl, rfl⟩, ⟨rfl, rfl⟩, trivial⟩ ?_
  refine thenL_normal ?_
  refine EvL.block ?_
  refine EvL.loop (fun m L h' => ∃ i : Nat, i ≤ xs.length ∧ m = xs.length - i ∧ L = (.cons 0 (.fn (.func fid) us ws) (.cons 7 v (.cons 8 (I xs.length) (.cons 9 (I i) .nil)))) ∧ h = h' ∧ xs.any isL = (xs.drop i).any isL) (m := xs.length) ?_ ?_
  · exact ⟨0, Nat.zero_le _, rfl, rfl, rfl, rfl⟩
  rintro m L hL0 ⟨i, hi, rfl, rfl, rfl, hE⟩
  refine EvL.seq ?_
  refine EvL.region ?_
  refine Rn.val (St.lss rfl rfl) rfl ?_
  refine Rn.done (.cons 0 _ (.cons 7 _ (.cons 8 _ (.cons 9 _ (.cons 10 _ .nil))))) ⟨⟨rfl, rfl⟩, ⟨rfl, rfl⟩, ⟨rfl, rfl⟩, ⟨rfl, rfl⟩, ⟨rfl, rfl⟩, trivial⟩ ?_
  refine thenL_normal ?_
  refine EvL.seq ?_
  refine EvL.cond rfl (fun b10 => ?_) (fun b10 => ?_)
  · try simp only [decide_eq_true_eq, decide_eq_false_iff_not, Bool.not_eq_true', Bool.not_eq_false', Bool.not_true, Bool.not_false] at b10
    have hlt : i < xs.length := by omega
    rw [List.drop_eq_getElem_cons hlt, List.any_cons] at hE
    refine EvL.skip ?_
    refine thenL_normal ?_
    refine EvL.seq ?_
    refine EvL.block ?_
    refine EvL.seq ?_
    refine EvL.region ?_
    refine Rn.val (St.indexAddr rfl rfl (p.addr u28 sz3 hlt)) rfl ?_
    refine Rn.val (St.load rfl (p.at sh3 hlt)) rfl ?_
    refine Rn.val (St.assign rfl) rfl ?_
    refine Rn.done (.cons 0 _ (.cons 6 _ (.cons 7 _ (.cons 8 _ (.cons 9 _ .nil))))) ⟨⟨rfl, rfl⟩, ⟨rfl, rfl⟩, ⟨rfl, rfl⟩, ⟨rfl, rfl⟩, ⟨rfl, rfl⟩, trivial⟩ ?_
    refine thenL_normal ?_
    refine EvL.seq ?_
    refine EvL.region ?_
    refine Rn.val (St.move rfl) rfl ?_
    refine Rn.val (St.move rfl) rfl ?_
    refine Rn.call rfl rfl rfl (his i hlt) fun v15 h15 c15 => ?_
    obtain ⟨rfl, rfl⟩ := c15
    refine Rn.done (.cons 0 _ (.cons 7 _ (.cons 8 _ (.cons 9 _ (.cons 15 _ .nil))))) ⟨⟨rfl, rfl⟩, ⟨rfl, rfl⟩, ⟨rfl, rfl⟩, ⟨rfl, rfl⟩, ⟨rfl, rfl⟩, trivial⟩ ?_
    refine thenL_normal ?_
    refine EvL.cond rfl (fun b15 => ?_) (fun b15 => ?_)
    · try simp only [decide_eq_true_eq, decide_eq_false_iff_not, Bool.not_eq_true', Bool.not_eq_false', Bool.not_true, Bool.not_false] at b15
      rw [b15] at hE
      refine EvL.seq ?_
      refine EvL.region ?_
      refine Rn.val (St.assign rfl) rfl ?_
      refine Rn.done (.cons 4 _ .nil) ⟨⟨rfl, rfl⟩, trivial⟩ ?_
      refine thenL_normal ?_
      refine EvL.ret ?_
      refine blockL_ret ?_
      refine thenL_ret ?_
      refine thenL_ret ?_
      refine blockL_ret ?_
      refine thenL_ret ?_
      refine endL_ret rfl ?_
      exact ⟨by rw [hE]; rfl, rfl⟩
    · try simp only [decide_eq_true_eq, decide_eq_false_iff_not, Bool.not_eq_true', Bool.not_eq_false', Bool.not_true, Bool.not_false] at b15
      rw [b15, Bool.false_or] at hE
      refine EvL.skip ?_
      refine blockL_normal ?_
      refine thenL_normal ?_
      refine EvL.region ?_
      refine Rn.val (St.add rfl rfl (by omega) (by omega)) rfl ?_
      refine Rn.val (St.move rfl) rfl ?_
      refine Rn.done (.cons 0 _ (.cons 7 _ (.cons 8 _ (.cons 9 _ .nil)))) ⟨⟨rfl, rfl⟩, ⟨rfl, rfl⟩, ⟨rfl, rfl⟩, ⟨rfl, rfl⟩, trivial⟩ ?_
      exact ⟨xs.length - (i + 1), by omega, i + 1, hlt, rfl, rfl, rfl, hE⟩
  · try simp only [decide_eq_true_eq, decide_eq_false_iff_not, Bool.not_eq_true', Bool.not_eq_false', Bool.not_true, Bool.not_false] at b10
    have he : i = xs.length := by omega
    subst he
    rw [List.drop_length] at hE
    refine EvL.exit ?_
    refine thenL_exit ?_
    refine thenL_exit ?_
    refine blockL_exit ?_
    refine thenL_normal ?_
    refine EvL.seq ?_
    refine EvL.region ?_
    refine Rn.val (St.assign rfl) rfl ?_
    refine Rn.done (.cons 4 _ .nil) ⟨⟨rfl, rfl⟩, trivial⟩ ?_
    refine thenL_normal ?_
    refine EvL.ret ?_
    refine endL_ret rfl ?_
    exact ⟨by rw [hE]; rfl, rfl⟩

theorem check_cl (hO : OK O) (hw : WF h) {v : AV} {vs : List AV} {rows : List (List Int)} (mt : Mat h v vs rows) {n : Nat} (h0 : 1 ≤ rows.length) (h4 : rows.length ≤ 4) (hn : n ≤ 6) (hr : ∀ r ∈ rows, r.length = n) (hv : ∀ r ∈ rows, ∀ x ∈ r, 0 ≤ x ∧ x ≤ 20) :
    Cl Try.prog O 0 32 [v] h (fun r h' => r = .int .i64 0 ∧ h = h') := by
  obtain ⟨a0, ha0, i0⟩ := mt.rows.get (i := 0) h0
  have hl0 := hr rows[0] (List.getElem_mem h0)
  refine Cl.intro (N := 38) (K := 17262707253) (hO _ _ _ (by decide)) Try.func32 rfl rfl (k := 1) rfl rfl rfl (by kernel_rfl) (.cons 0 _ .nil) ⟨⟨rfl, rfl⟩, trivial⟩ ?_
  refine EvL.seq ?_
  refine EvL.region ?_
  refine Rn.val (St.assign rfl) rfl ?_
  refine Rn.done (.cons 0 _ .nil) ⟨⟨rfl, rfl⟩, trivial⟩ ?_
  refine thenL_normal ?_
  refine EvL.seq ?_
  refine EvL.block ?_
  refine EvL.seq ?_
  refine EvL.region ?_
  refine Rn.val (St.move rfl) rfl ?_
  refine Rn.val (St.len rfl (mt.sl.len u26)) rfl ?_
  refine Rn.val (St.eql rfl rfl) rfl ?_
  refine Rn.val (St.assign rfl) rfl ?_
  refine Rn.done (.cons 0 _ (.cons 5 _ .nil)) ⟨⟨rfl, rfl⟩, ⟨rfl, rfl⟩, trivial⟩ ?_
  refine thenL_normal ?_
  refine EvL.cond rfl (fun b5 => ?_) (fun b5 => ?_)
  · try simp only [decide_eq_true_eq, decide_eq_false_iff_not, Bool.not_eq_true', Bool.not_eq_false', Bool.not_true, Bool.not_false] at b5
    omega
  · try simp only [decide_eq_true_eq, decide_eq_false_iff_not, Bool.not_eq_true', Bool.not_eq_false', Bool.not_true, Bool.not_false] at b5
    refine EvL.seq ?_
    refine EvL.region ?_
    refine Rn.val (St.move rfl) rfl ?_
    refine Rn.val (St.len rfl (mt.sl.len u26)) rfl ?_
    refine Rn.val (St.gtr rfl rfl) rfl ?_
    refine Rn.val (St.move rfl) rfl ?_
    refine Rn.split (tg := 13) rfl (fun g13 => ?_) (fun g13 => ?_)
    · try simp only [decide_eq_true_eq, decide_eq_false_iff_not, Bool.not_eq_true', Bool.not_eq_false', Bool.not_true, Bool.not_false] at g13
      omega
    · try simp only [decide_eq_true_eq, decide_eq_false_iff_not, Bool.not_eq_true', Bool.not_eq_false', Bool.not_true, Bool.not_false] at g13
      refine Rn.guardT (tg := 13) rfl rfl ?_
      refine Rn.val (St.move rfl) rfl ?_
      refine Rn.guardT (tg := 13) rfl rfl ?_
      refine Rn.val (St.indexAddr rfl rfl (mt.sl.addr (i := 0) u26 sz28 h0)) rfl ?_
      refine Rn.guardT (tg := 13) rfl rfl ?_
      refine Rn.val (St.load rfl (mt.sl.cell sh28 ha0)) rfl ?_
      refine Rn.guardT (tg := 13) rfl rfl ?_
      refine Rn.val (St.len rfl (i0.len u28)) rfl ?_
      refine Rn.guardT (tg := 13) rfl rfl ?_
      refine Rn.val (St.gtr rfl rfl) rfl ?_
      refine Rn.val (St.pickF rfl rfl rfl) rfl ?_
      refine Rn.val (St.assign rfl) rfl ?_
      refine Rn.done (.cons 0 _ (.cons 9 _ .nil)) ⟨⟨rfl, rfl⟩, ⟨rfl, rfl⟩, trivial⟩ ?_
      refine thenL_normal ?_
      refine EvL.cond rfl (fun b9 => ?_) (fun b9 => ?_)
      · try simp only [decide_eq_true_eq, decide_eq_false_iff_not, Bool.not_eq_true', Bool.not_eq_false', Bool.not_true, Bool.not_false] at b9
        omega
      · try simp only [decide_eq_true_eq, decide_eq_false_iff_not, Bool.not_eq_true', Bool.not_eq_false', Bool.not_true, Bool.not_false] at b9
        refine EvL.skip ?_
        refine blockL_normal ?_
        refine thenL_normal ?_
        refine EvL.seq ?_
        refine EvL.seq ?_
        refine EvL.region ?_
        refine Rn.val (St.move rfl) rfl ?_
        refine Rn.val (St.len rfl (mt.sl.len u26)) rfl ?_
        refine Rn.val (St.move rfl) rfl ?_
        refine Rn.done (.cons 0 _ (.cons 20 _ (.cons 21 _ (.cons 22 _ .nil)))) ⟨⟨rfl, rfl⟩, ⟨rfl, rfl⟩, ⟨rfl, rfl⟩, ⟨rfl, rfl⟩, trivial⟩ ?_
        refine thenL_normal ?_
        refine EvL.block ?_
        refine EvL.loop (fun m L h' => ∃ i : Nat, i ≤ rows.length ∧ m = rows.length - i ∧ L = (.cons 0 v (.cons 20 v (.cons 21 (I rows.length) (.cons 22 (I i) .nil)))) ∧ h = h') (m := rows.length) ?_ ?_
        · exact ⟨0, Nat.zero_le _, rfl, rfl, rfl⟩
        rintro m L hL0 ⟨i, hi, rfl, rfl, rfl⟩
        refine EvL.seq ?_
        refine EvL.region ?_
        refine Rn.val (St.lss rfl rfl) rfl ?_
        refine Rn.done (.cons 0 _ (.cons 20 _ (.cons 21 _ (.cons 22 _ (.cons 23 _ .nil))))) ⟨⟨rfl, rfl⟩, ⟨rfl, rfl⟩, ⟨rfl, rfl⟩, ⟨rfl, rfl⟩, ⟨rfl, rfl⟩, trivial⟩ ?_
        refine thenL_normal ?_
        refine EvL.seq ?_
        refine EvL.cond rfl (fun b23 => ?_) (fun b23 => ?_)
        · try simp only [decide_eq_true_eq, decide_eq_false_iff_not, Bool.not_eq_true', Bool.not_eq_false', Bool.not_true, Bool.not_false] at b23
          have hlt : i < rows.length := by omega
          obtain ⟨a, ha, ia⟩ := mt.rows.get hlt
          have hli := hr rows[i] (List.getElem_mem hlt)
          have hvi := hv rows[i] (List.getElem_mem hlt)
          refine EvL.skip ?_
          refine thenL_normal ?_
          refine EvL.seq ?_
          refine EvL.block ?_
          refine EvL.seq ?_
          refine EvL.region ?_
          refine Rn.val (St.indexAddr rfl rfl (mt.sl.addr u26 sz28 hlt)) rfl ?_
          refine Rn.val (St.load rfl (mt.sl.cell sh28 ha)) rfl ?_
          refine Rn.val (St.assign rfl) rfl ?_
          refine Rn.done (.cons 0 _ (.cons 4 _ (.cons 20 _ (.cons 21 _ (.cons 22 _ .nil))))) ⟨⟨rfl, rfl⟩, ⟨rfl, rfl⟩, ⟨rfl, rfl⟩, ⟨rfl, rfl⟩, ⟨rfl, rfl⟩, trivial⟩ ?_
          refine thenL_normal ?_
          refine EvL.block ?_
          refine EvL.seq ?_
          refine EvL.region ?_
          refine Rn.val (St.move rfl) rfl ?_
          refine Rn.val (St.len rfl (ia.len u28)) rfl ?_
          refine Rn.val (St.move rfl) rfl ?_
          refine Rn.val (St.indexAddr rfl rfl (mt.sl.addr (i := 0) u26 sz28 h0)) rfl ?_
          refine Rn.val (St.load rfl (mt.sl.cell sh28 ha0)) rfl ?_
          refine Rn.val (St.len rfl (i0.len u28)) rfl ?_
          refine Rn.val (St.neq rfl rfl) rfl ?_
          refine Rn.val (St.assign rfl) rfl ?_
          refine Rn.done (.cons 0 _ (.cons 4 _ (.cons 20 _ (.cons 21 _ (.cons 22 _ (.cons 26 _ .nil)))))) ⟨⟨rfl, rfl⟩, ⟨rfl, rfl⟩, ⟨rfl, rfl⟩, ⟨rfl, rfl⟩, ⟨rfl, rfl⟩, ⟨rfl, rfl⟩, trivial⟩ ?_
          refine thenL_normal ?_
          refine EvL.cond rfl (fun b26 => ?_) (fun b26 => ?_)
          · try simp only [decide_eq_true_eq, decide_eq_false_iff_not, Bool.not_eq_true', Bool.not_eq_false', Bool.not_true, Bool.not_false] at b26
            omega
          · try simp only [decide_eq_true_eq, decide_eq_false_iff_not, Bool.not_eq_true', Bool.not_eq_false', Bool.not_true, Bool.not_false] at b26
            refine EvL.seq ?_
            refine EvL.region ?_
            refine Rn.val (St.move rfl) rfl ?_
            refine Rn.call rfl rfl rfl (some_cl hO hw ia (by omega) (fun x => !decide (0 ≤ x ∧ x ≤ 20)) (fun j hj => check1_cl hO _)) fun v36 h36 c36 => ?_
            obtain ⟨rfl, rfl⟩ := c36
            refine Rn.val (St.assign rfl) rfl ?_
            refine Rn.done (.cons 0 _ (.cons 20 _ (.cons 21 _ (.cons 22 _ (.cons 34 _ .nil))))) ⟨⟨rfl, rfl⟩, ⟨rfl, rfl⟩, ⟨rfl, rfl⟩, ⟨rfl, rfl⟩, ⟨rfl, rfl⟩, trivial⟩ ?_
            refine thenL_normal ?_
            refine EvL.cond rfl (fun b34 => ?_) (fun b34 => ?_)
            · try simp only [decide_eq_true_eq, decide_eq_false_iff_not, Bool.not_eq_true', Bool.not_eq_false', Bool.not_true, Bool.not_false] at b34
              
              exfalso
              obtain ⟨x, hx, hb⟩ := List.any_eq_true.1 b34
              have := hvi x hx
              simp at hb; omega
            · try simp only [decide_eq_true_eq, decide_eq_false_iff_not, Bool.not_eq_true', Bool.not_eq_false', Bool.not_true, Bool.not_false] at b34
              refine EvL.skip ?_
              refine blockL_normal ?_
              refine blockL_normal ?_
              refine thenL_normal ?_
              refine EvL.region ?_
              refine Rn.val (St.add rfl rfl (by omega) (by omega)) rfl ?_
              refine Rn.val (St.move rfl) rfl ?_
              refine Rn.done (.cons 0 _ (.cons 20 _ (.cons 21 _ (.cons 22 _ .nil)))) ⟨⟨rfl, rfl⟩, ⟨rfl, rfl⟩, ⟨rfl, rfl⟩, ⟨rfl, rfl⟩, trivial⟩ ?_
              exact ⟨rows.length - (i + 1), by omega, i + 1, hlt, rfl, rfl, rfl⟩
        · try simp only [decide_eq_true_eq, decide_eq_false_iff_not, Bool.not_eq_true', Bool.not_eq_false', Bool.not_true, Bool.not_false] at b23
          refine EvL.exit ?_
          refine thenL_exit ?_
          refine thenL_exit ?_
          refine blockL_exit ?_
          refine thenL_normal ?_
          refine EvL.seq ?_
          refine EvL.region ?_
          refine Rn.val (St.assign rfl) rfl ?_
          refine Rn.done (.cons 2 _ .nil) ⟨⟨rfl, rfl⟩, trivial⟩ ?_
          refine thenL_normal ?_
          refine EvL.ret ?_
          refine endL_ret rfl ?_
          exact ⟨rfl, rfl⟩

theorem share_cl (hO : OK O) (hw : WF h) {v o : AV} {vs : List AV} {rows : List (List Int)} {own : List Int} (d : Dv h v o vs rows own) {to : Nat} (hto : to < rows.length) (ho : own.length ≤ rows[to].length) (h6 : own.length ≤ 6) (hs : Small rows) (of_ : Int) :
    Cl Try.prog O 0 49 [.agg [v, o], I to, I of_] h (fun r h' => r = .tup [I (wS rows[to] own of_ own.length), I (gS rows[to] own of_ own.length)] ∧ Kept h h') := by
  have k3 := Kept.new hw [v, o]
  have x3 : OBx h.next (h.new [v, o]) h.next [v, o] := OBx.new (Nat.le_refl _) _
  have d := d.keep k3.keep
  obtain ⟨a, ha, ia⟩ := d.m.rows.get hto
  have hrow := hs rows[to] (List.getElem_mem hto)
  refine Cl.intro (N := 44) (K := 1080271) (hO _ _ _ (by decide)) Try.func49 rfl rfl (k := 3) rfl rfl rfl (by kernel_rfl) (.cons 0 _ (.cons 1 _ (.cons 2 _ .nil))) ⟨⟨rfl, rfl⟩, ⟨rfl, rfl⟩, ⟨rfl, rfl⟩, trivial⟩ ?_
  refine EvL.seq ?_
  refine EvL.region ?_
  refine Rn.val (St.box rfl) rfl ?_
  refine Rn.val (St.assign rfl) rfl ?_
  refine Rn.val (St.assign rfl) rfl ?_
  refine Rn.done (.cons 1 _ (.cons 2 _ (.cons 3 _ (.cons 6 _ (.cons 7 _ .nil))))) ⟨⟨rfl, rfl⟩, ⟨rfl, rfl⟩, ⟨rfl, rfl⟩, ⟨rfl, rfl⟩, ⟨rfl, rfl⟩, trivial⟩ ?_
  refine thenL_normal ?_
  refine EvL.seq ?_
  refine EvL.seq ?_
  refine EvL.region ?_
  refine Rn.val (St.fieldAddr rfl (by rfl)) rfl ?_
  refine Rn.val (St.load rfl (x3.load1 sh28 rfl)) rfl ?_
  refine Rn.val (St.len rfl (d.o.len u28)) rfl ?_
  refine Rn.val (St.move rfl) rfl ?_
  refine Rn.done (.cons 1 _ (.cons 2 _ (.cons 3 _ (.cons 6 _ (.cons 7 _ (.cons 11 _ (.cons 12 _ (.cons 13 _ .nil)))))))) ⟨⟨rfl, rfl⟩, ⟨rfl, rfl⟩, ⟨rfl, rfl⟩, ⟨rfl, rfl⟩, ⟨rfl, rfl⟩, ⟨rfl, rfl⟩, ⟨rfl, rfl⟩, ⟨rfl, rfl⟩, trivial⟩ ?_
  refine thenL_normal ?_
  refine EvL.block ?_
  refine EvL.loop (fun m L h' => ∃ k : Nat, k ≤ own.length ∧ m = own.length - k ∧ L = (.cons 1 (I to) (.cons 2 (I of_) (.cons 3 (.ptr h.next 0) (.cons 6 (I (wS rows[to] own of_ k)) (.cons 7 (I (gS rows[to] own of_ k)) (.cons 11 o (.cons 12 (I own.length) (.cons 13 (I k) .nil)))))))) ∧ h.new [v, o] = h') (m := own.length) ?_ ?_
  · exact ⟨0, Nat.zero_le _, rfl, rfl, rfl⟩
  rintro m L hL0 ⟨k, hk, rfl, rfl, rfl⟩
  refine EvL.seq ?_
  refine EvL.region ?_
  refine Rn.val (St.lss rfl rfl) rfl ?_
  refine Rn.done (.cons 1 _ (.cons 2 _ (.cons 3 _ (.cons 6 _ (.cons 7 _ (.cons 11 _ (.cons 12 _ (.cons 13 _ (.cons 14 _ .nil))))))))) ⟨⟨rfl, rfl⟩, ⟨rfl, rfl⟩, ⟨rfl, rfl⟩, ⟨rfl, rfl⟩, ⟨rfl, rfl⟩, ⟨rfl, rfl⟩, ⟨rfl, rfl⟩, ⟨rfl, rfl⟩, ⟨rfl, rfl⟩, trivial⟩ ?_
  refine thenL_normal ?_
  refine EvL.seq ?_
  refine EvL.cond rfl (fun b14 => ?_) (fun b14 => ?_)
  · try simp only [decide_eq_true_eq, decide_eq_false_iff_not, Bool.not_eq_true', Bool.not_eq_false', Bool.not_true, Bool.not_false] at b14
    have hlt : k < own.length := by omega
    have hltr : k < rows[to].length := by omega
    have hw1 := wS_le (own := own) (of_ := of_) hrow k
    have hg1 := gS_le (own := own) (of_ := of_) hrow k
    have hx1 := hrow _ (List.getElem_mem hltr)
    refine EvL.skip ?_
    refine thenL_normal ?_
    refine EvL.seq ?_
    refine EvL.block ?_
    refine EvL.seq ?_
    refine EvL.region ?_
    refine Rn.val (St.move rfl) rfl ?_
    refine Rn.val (St.indexAddr rfl rfl (d.o.addr u28 sz3 hlt)) rfl ?_
    refine Rn.val (St.load rfl (d.o.at sh3 hlt)) rfl ?_
    refine Rn.val (St.assign rfl) rfl ?_
    refine Rn.val (St.assign rfl) rfl ?_
    refine Rn.done (.cons 1 _ (.cons 2 _ (.cons 3 _ (.cons 6 _ (.cons 7 _ (.cons 8 _ (.cons 9 _ (.cons 11 _ (.cons 12 _ (.cons 13 _ .nil)))))))))) ⟨⟨rfl, rfl⟩, ⟨rfl, rfl⟩, ⟨rfl, rfl⟩, ⟨rfl, rfl⟩, ⟨rfl, rfl⟩, ⟨rfl, rfl⟩, ⟨rfl, rfl⟩, ⟨rfl, rfl⟩, ⟨rfl, rfl⟩, ⟨rfl, rfl⟩, trivial⟩ ?_
    refine thenL_normal ?_
    refine EvL.seq ?_
    refine EvL.region ?_
    refine Rn.val (St.move rfl) rfl ?_
    refine Rn.val (St.move rfl) rfl ?_
    refine Rn.val (St.eql rfl rfl) rfl ?_
    refine Rn.done (.cons 1 _ (.cons 2 _ (.cons 3 _ (.cons 6 _ (.cons 7 _ (.cons 8 _ (.cons 11 _ (.cons 12 _ (.cons 13 _ (.cons 20 _ .nil)))))))))) ⟨⟨rfl, rfl⟩, ⟨rfl, rfl⟩, ⟨rfl, rfl⟩, ⟨rfl, rfl⟩, ⟨rfl, rfl⟩, ⟨rfl, rfl⟩, ⟨rfl, rfl⟩, ⟨rfl, rfl⟩, ⟨rfl, rfl⟩, ⟨rfl, rfl⟩, trivial⟩ ?_
    refine thenL_normal ?_
    refine EvL.cond rfl (fun b20 => ?_) (fun b20 => ?_)
    · try simp only [decide_eq_true_eq, decide_eq_false_iff_not, Bool.not_eq_true', Bool.not_eq_false', Bool.not_true, Bool.not_false] at b20
      have ew : wS rows[to] own of_ (k + 1) = wS rows[to] own of_ k + rows[to][k] := by rw [wS, getD_mem hlt, if_pos b20, getD_mem hltr]
      have eg : gS rows[to] own of_ (k + 1) = max (gS rows[to] own of_ k) rows[to][k] := by rw [gS, getD_mem hlt, if_pos b20, getD_mem hltr]
      refine EvL.seq ?_
      refine EvL.region ?_
      refine Rn.val (St.move rfl) rfl ?_
      refine Rn.val (St.fieldAddr rfl (by rfl)) rfl ?_
      refine Rn.val (St.load rfl (x3.load1 sh26 rfl)) rfl ?_
      refine Rn.val (St.move rfl) rfl ?_
      refine Rn.val (St.indexAddr rfl rfl (d.m.sl.addr u26 sz28 hto)) rfl ?_
      refine Rn.val (St.load rfl (d.m.sl.cell sh28 ha)) rfl ?_
      refine Rn.val (St.move rfl) rfl ?_
      refine Rn.val (St.indexAddr rfl rfl (ia.addr u28 sz3 hltr)) rfl ?_
      refine Rn.val (St.load rfl (ia.at sh3 hltr)) rfl ?_
      refine Rn.val (St.add rfl rfl (by omega) (by omega)) rfl ?_
      refine Rn.val (St.assign rfl) rfl ?_
      refine Rn.done (.cons 1 _ (.cons 2 _ (.cons 3 _ (.cons 6 _ (.cons 7 _ (.cons 8 _ (.cons 11 _ (.cons 12 _ (.cons 13 _ .nil))))))))) ⟨⟨rfl, rfl⟩, ⟨rfl, rfl⟩, ⟨rfl, rfl⟩, ⟨rfl, rfl⟩, ⟨rfl, rfl⟩, ⟨rfl, rfl⟩, ⟨rfl, rfl⟩, ⟨rfl, rfl⟩, ⟨rfl, rfl⟩, trivial⟩ ?_
      refine thenL_normal ?_
      refine EvL.region ?_
      refine Rn.val (St.move rfl) rfl ?_
      refine Rn.val (St.fieldAddr rfl (by rfl)) rfl ?_
      refine Rn.val (St.load rfl (x3.load1 sh26 rfl)) rfl ?_
      refine Rn.val (St.move rfl) rfl ?_
      refine Rn.val (St.indexAddr rfl rfl (d.m.sl.addr u26 sz28 hto)) rfl ?_
      refine Rn.val (St.load rfl (d.m.sl.cell sh28 ha)) rfl ?_
      refine Rn.val (St.move rfl) rfl ?_
      refine Rn.val (St.indexAddr rfl rfl (ia.addr u28 sz3 hltr)) rfl ?_
      refine Rn.val (St.load rfl (ia.at sh3 hltr)) rfl ?_
      refine Rn.val (St.max2 rfl rfl) rfl ?_
      refine Rn.val (St.assign rfl) rfl ?_
      refine Rn.done (.cons 1 _ (.cons 2 _ (.cons 3 _ (.cons 6 _ (.cons 7 _ (.cons 11 _ (.cons 12 _ (.cons 13 _ .nil)))))))) ⟨⟨rfl, rfl⟩, ⟨rfl, rfl⟩, ⟨rfl, rfl⟩, ⟨rfl, rfl⟩, ⟨rfl, rfl⟩, ⟨rfl, rfl⟩, ⟨rfl, rfl⟩, ⟨rfl, rfl⟩, trivial⟩ ?_
      refine blockL_normal ?_
      refine thenL_normal ?_
      refine EvL.region ?_
      refine Rn.val (St.add rfl rfl (by omega) (by omega)) rfl ?_
      refine Rn.val (St.move rfl) rfl ?_
      refine Rn.done (.cons 1 _ (.cons 2 _ (.cons 3 _ (.cons 6 _ (.cons 7 _ (.cons 11 _ (.cons 12 _ (.cons 13 _ .nil)))))))) ⟨⟨rfl, rfl⟩, ⟨rfl, rfl⟩, ⟨rfl, rfl⟩, ⟨rfl, rfl⟩, ⟨rfl, rfl⟩, ⟨rfl, rfl⟩, ⟨rfl, rfl⟩, ⟨rfl, rfl⟩, trivial⟩ ?_
      exact ⟨own.length - (k + 1), by omega, k + 1, hlt, rfl, by rw [ew, eg]; rfl, rfl⟩
    · try simp only [decide_eq_true_eq, decide_eq_false_iff_not, Bool.not_eq_true', Bool.not_eq_false', Bool.not_true, Bool.not_false] at b20
      have ew : wS rows[to] own of_ (k + 1) = wS rows[to] own of_ k := by rw [wS, getD_mem hlt, if_neg b20]; simp
      have eg : gS rows[to] own of_ (k + 1) = gS rows[to] own of_ k := by rw [gS, getD_mem hlt, if_neg b20]
      refine EvL.skip ?_
      refine blockL_normal ?_
      refine thenL_normal ?_
      refine EvL.region ?_
      refine Rn.val (St.add rfl rfl (by omega) (by omega)) rfl ?_
      refine Rn.val (St.move rfl) rfl ?_
      refine Rn.done (.cons 1 _ (.cons 2 _ (.cons 3 _ (.cons 6 _ (.cons 7 _ (.cons 11 _ (.cons 12 _ (.cons 13 _ .nil)))))))) ⟨⟨rfl, rfl⟩, ⟨rfl, rfl⟩, ⟨rfl, rfl⟩, ⟨rfl, rfl⟩, ⟨rfl, rfl⟩, ⟨rfl, rfl⟩, ⟨rfl, rfl⟩, ⟨rfl, rfl⟩, trivial⟩ ?_
      exact ⟨own.length - (k + 1), by omega, k + 1, hlt, rfl, by rw [ew, eg]; rfl, rfl⟩
  · try simp only [decide_eq_true_eq, decide_eq_false_iff_not, Bool.not_eq_true', Bool.not_eq_false', Bool.not_true, Bool.not_false] at b14
    have he : k = own.length := by omega
    subst he
    refine EvL.exit ?_
    refine thenL_exit ?_
    refine thenL_exit ?_
    refine blockL_exit ?_
    refine thenL_normal ?_
    refine EvL.seq ?_
    refine EvL.region ?_
    refine Rn.val (St.move rfl) rfl ?_
    refine Rn.val (St.move rfl) rfl ?_
    refine Rn.val (St.assign rfl) rfl ?_
    refine Rn.val (St.assign rfl) rfl ?_
    refine Rn.done (.cons 6 _ (.cons 7 _ .nil)) ⟨⟨rfl, rfl⟩, ⟨rfl, rfl⟩, trivial⟩ ?_
    refine thenL_normal ?_
    refine EvL.ret ?_
    refine endL_ret rfl ?_
    exact ⟨rfl, k3⟩

theorem envy_cl (hO : OK O) (hw : WF h) {v o : AV} {vs : List AV} {rows : List (List Int)} {own : List Int} (d : Dv h v o vs rows own) {i j : Nat} (hi : i < rows.length) (ho : own.length ≤ rows[i].length) (h6 : own.length ≤ 6) (hs : Small rows) :
    Cl Try.prog O 0 48 [.agg [v, o], I i, I j] h (fun r h' => r = .tup [I (wS rows[i] own j own.length - wS rows[i] own i own.length), I (wS rows[i] own j own.length - gS rows[i] own j own.length - wS rows[i] own i own.length)] ∧ Kept h h') := by
  have k3 := Kept.new hw [v, o]
  have x3 : OBx h.next (h.new [v, o]) h.next [v, o] := OBx.new (Nat.le_refl _) _
  have d := d.keep k3.keep
  have hrow := hs rows[i] (List.getElem_mem hi)
  have q1 := wS_le (own := own) (of_ := (i : Int)) hrow own.length
  have q2 := wS_le (own := own) (of_ := (j : Int)) hrow own.length
  have q3 := gS_le (own := own) (of_ := (j : Int)) hrow own.length
  refine Cl.intro (N := 34) (K := 3535) (hO _ _ _ (by decide)) Try.func48 rfl rfl (k := 3) rfl rfl rfl (by kernel_rfl) (.cons 0 _ (.cons 1 _ (.cons 2 _ .nil))) ⟨⟨rfl, rfl⟩, ⟨rfl, rfl⟩, ⟨rfl, rfl⟩, trivial⟩ ?_
  refine EvL.seq ?_
  refine EvL.region ?_
  refine Rn.val (St.box rfl) rfl ?_
  refine Rn.val (St.assign rfl) rfl ?_
  refine Rn.val (St.assign rfl) rfl ?_
  refine Rn.done (.cons 1 _ (.cons 2 _ (.cons 3 _ .nil))) ⟨⟨rfl, rfl⟩, ⟨rfl, rfl⟩, ⟨rfl, rfl⟩, trivial⟩ ?_
  refine thenL_normal ?_
  refine EvL.seq ?_
  refine EvL.region ?_
  refine Rn.val (St.load rfl (x3.loadN sh52 (Nat.le_refl 2))) rfl ?_
  refine Rn.val (St.move rfl) rfl ?_
  refine Rn.val (St.move rfl) rfl ?_
  refine Rn.call rfl rfl rfl (share_cl hO k3.wf d hi ho h6 hs _) fun v16 h16 c16 => ?_
  obtain ⟨rfl, k16⟩ := c16
  have x3 := x3.keep k16.keep
  have d := d.keep k16.keep
  refine Rn.val (St.move rfl) rfl ?_
  refine Rn.val (St.extract rfl rfl) rfl ?_
  refine Rn.val (St.extract rfl rfl) rfl ?_
  refine Rn.val (St.assign rfl) rfl ?_
  refine Rn.val (St.assign rfl) rfl ?_
  refine Rn.done (.cons 1 _ (.cons 2 _ (.cons 3 _ (.cons 8 _ .nil)))) ⟨⟨rfl, rfl⟩, ⟨rfl, rfl⟩, ⟨rfl, rfl⟩, ⟨rfl, rfl⟩, trivial⟩ ?_
  refine thenL_normal ?_
  refine EvL.seq ?_
  refine EvL.region ?_
  refine Rn.val (St.load rfl (x3.loadN sh52 (Nat.le_refl 2))) rfl ?_
  refine Rn.val (St.move rfl) rfl ?_
  refine Rn.val (St.move rfl) rfl ?_
  refine Rn.call rfl rfl rfl (share_cl hO k16.wf d hi ho h6 hs _) fun v23 h23 c23 => ?_
  obtain ⟨rfl, k23⟩ := c23
  refine Rn.val (St.move rfl) rfl ?_
  refine Rn.val (St.extract rfl rfl) rfl ?_
  refine Rn.val (St.extract rfl rfl) rfl ?_
  refine Rn.val (St.assign rfl) rfl ?_
  refine Rn.val (St.assign rfl) rfl ?_
  refine Rn.done (.cons 8 _ (.cons 10 _ (.cons 11 _ .nil))) ⟨⟨rfl, rfl⟩, ⟨rfl, rfl⟩, ⟨rfl, rfl⟩, trivial⟩ ?_
  refine thenL_normal ?_
  refine EvL.seq ?_
  refine EvL.region ?_
  refine Rn.val (St.move rfl) rfl ?_
  refine Rn.val (St.move rfl) rfl ?_
  refine Rn.val (St.sub rfl rfl (by omega) (by omega)) rfl ?_
  refine Rn.val (St.move rfl) rfl ?_
  refine Rn.val (St.move rfl) rfl ?_
  refine Rn.val (St.sub rfl rfl (by omega) (by omega)) rfl ?_
  refine Rn.val (St.move rfl) rfl ?_
  refine Rn.val (St.sub rfl rfl (by omega) (by omega)) rfl ?_
  refine Rn.val (St.assign rfl) rfl ?_
  refine Rn.val (St.assign rfl) rfl ?_
  refine Rn.done (.cons 6 _ (.cons 7 _ .nil)) ⟨⟨rfl, rfl⟩, ⟨rfl, rfl⟩, trivial⟩ ?_
  refine thenL_normal ?_
  refine EvL.ret ?_
  refine endL_ret rfl ?_
  exact ⟨rfl, k3.trans (k16.trans k23)⟩

end
end
end Go.Proofs.Ytllldiokcnheiaa.Sh
