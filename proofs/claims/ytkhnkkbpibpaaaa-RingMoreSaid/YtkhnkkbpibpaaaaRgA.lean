/- The ring layer's types, the plain law of its table, and walks of its first functions. -/
import Derived.Test.YtkhnkkbpibpaaaaSy2
import Derived.Test.YtkhnkkbpibpaaaaProg
import Derived.KernelRfl

namespace Go.Proofs.Ytkhnkkbpibpaaaa.Rg
open Go.Proofs Go.Proofs.Ytkhnkkbpibpaaaa.Ab
noncomputable section

theorem sz1 : szA Try.prog 1 = some 1 := by kernel_rfl
theorem sh1 : shapeA Try.prog 1 = some none := by kernel_rfl
def zs1 : List AV := [.nilf]
theorem zero1 : zeroA Try.prog 1 = some (.nilf) := by kernel_rfl
theorem sz2 : szA Try.prog 2 = some 1 := by kernel_rfl
theorem sh2 : shapeA Try.prog 2 = some none := by kernel_rfl
def zs2 : List AV := [.int .i64 0]
theorem zero2 : zeroA Try.prog 2 = some (.int .i64 0) := by kernel_rfl
theorem sz3 : szA Try.prog 3 = some 1 := by kernel_rfl
theorem sh3 : shapeA Try.prog 3 = some none := by kernel_rfl
def zs3 : List AV := [.int .i64 0]
theorem zero3 : zeroA Try.prog 3 = some (.int .i64 0) := by kernel_rfl
theorem sz4 : szA Try.prog 4 = some 1 := by kernel_rfl
theorem sh4 : shapeA Try.prog 4 = some none := by kernel_rfl
def zs4 : List AV := [.bool false]
theorem zero4 : zeroA Try.prog 4 = some (.bool false) := by kernel_rfl
theorem sz5 : szA Try.prog 5 = some 1 := by kernel_rfl
theorem sh5 : shapeA Try.prog 5 = some none := by kernel_rfl
def zs5 : List AV := [.int .u8 0]
theorem zero5 : zeroA Try.prog 5 = some (.int .u8 0) := by kernel_rfl
theorem sz6 : szA Try.prog 6 = some 1 := by kernel_rfl
theorem sh6 : shapeA Try.prog 6 = some none := by kernel_rfl
def zs6 : List AV := [.int .u8 0]
theorem zero6 : zeroA Try.prog 6 = some (.int .u8 0) := by kernel_rfl
theorem sz7 : szA Try.prog 7 = some 4 := by kernel_rfl
theorem sh7 : shapeA Try.prog 7 = some (some 4) := by kernel_rfl
def zs7 : List AV := [.int .i64 0, .int .i64 0, .bool false, .int .u8 0]
theorem zero7 : zeroA Try.prog 7 = some (.agg zs7) := by kernel_rfl
theorem sz8 : szA Try.prog 8 = some 4 := by kernel_rfl
theorem sh8 : shapeA Try.prog 8 = some (some 4) := by kernel_rfl
def zs8 : List AV := [.int .i64 0, .int .i64 0, .bool false, .int .u8 0]
theorem zero8 : zeroA Try.prog 8 = some (.agg zs8) := by kernel_rfl
theorem sz12 : szA Try.prog 12 = some 1 := by kernel_rfl
theorem sh12 : shapeA Try.prog 12 = some none := by kernel_rfl
def zs12 : List AV := [.int .u64 0]
theorem zero12 : zeroA Try.prog 12 = some (.int .u64 0) := by kernel_rfl
theorem sz13 : szA Try.prog 13 = some 2 := by kernel_rfl
theorem sh13 : shapeA Try.prog 13 = some (some 2) := by kernel_rfl
theorem sz14 : szA Try.prog 14 = some 2 := by kernel_rfl
theorem sh14 : shapeA Try.prog 14 = some (some 2) := by kernel_rfl
theorem sz15 : szA Try.prog 15 = some 1 := by kernel_rfl
theorem sh15 : shapeA Try.prog 15 = some none := by kernel_rfl
def zs15 : List AV := [.nilp]
theorem zero15 : zeroA Try.prog 15 = some (.nilp) := by kernel_rfl
theorem sz16 : szA Try.prog 16 = some 1 := by kernel_rfl
theorem sh16 : shapeA Try.prog 16 = some none := by kernel_rfl
def zs16 : List AV := [.nilp]
theorem zero16 : zeroA Try.prog 16 = some (.nilp) := by kernel_rfl
theorem sz17 : szA Try.prog 17 = some 1 := by kernel_rfl
theorem sh17 : shapeA Try.prog 17 = some none := by kernel_rfl
def zs17 : List AV := [.nilp]
theorem zero17 : zeroA Try.prog 17 = some (.nilp) := by kernel_rfl
theorem sz18 : szA Try.prog 18 = some 1 := by kernel_rfl
theorem sh18 : shapeA Try.prog 18 = some (some 1) := by kernel_rfl
def zs18 : List AV := [.nilp]
theorem zero18 : zeroA Try.prog 18 = some (.agg zs18) := by kernel_rfl
theorem sz19 : szA Try.prog 19 = some 1 := by kernel_rfl
theorem sh19 : shapeA Try.prog 19 = some (some 1) := by kernel_rfl
def zs19 : List AV := [.nilp]
theorem zero19 : zeroA Try.prog 19 = some (.agg zs19) := by kernel_rfl
theorem sz21 : szA Try.prog 21 = some 1 := by kernel_rfl
theorem sh21 : shapeA Try.prog 21 = some none := by kernel_rfl
def zs21 : List AV := [.int .i32 0]
theorem zero21 : zeroA Try.prog 21 = some (.int .i32 0) := by kernel_rfl
theorem u22 : Try.prog.underlying 22 = some (.slice 44) := by kernel_rfl
theorem sz22 : szA Try.prog 22 = some 1 := by kernel_rfl
theorem sh22 : shapeA Try.prog 22 = some none := by kernel_rfl
def zs22 : List AV := [.nils]
theorem zero22 : zeroA Try.prog 22 = some (.nils) := by kernel_rfl
theorem u23 : Try.prog.underlying 23 = some (.slice 3) := by kernel_rfl
theorem sz23 : szA Try.prog 23 = some 1 := by kernel_rfl
theorem sh23 : shapeA Try.prog 23 = some none := by kernel_rfl
def zs23 : List AV := [.nils]
theorem zero23 : zeroA Try.prog 23 = some (.nils) := by kernel_rfl
theorem sz24 : szA Try.prog 24 = some 1 := by kernel_rfl
theorem sh24 : shapeA Try.prog 24 = some none := by kernel_rfl
def zs24 : List AV := [.nilf]
theorem zero24 : zeroA Try.prog 24 = some (.nilf) := by kernel_rfl
theorem sz25 : szA Try.prog 25 = some 1 := by kernel_rfl
theorem sh25 : shapeA Try.prog 25 = some none := by kernel_rfl
def zs25 : List AV := [.int .i64 0]
theorem zero25 : zeroA Try.prog 25 = some (.int .i64 0) := by kernel_rfl
theorem sz27 : szA Try.prog 27 = some 1 := by kernel_rfl
theorem sh27 : shapeA Try.prog 27 = some none := by kernel_rfl
def zs27 : List AV := [.nilf]
theorem zero27 : zeroA Try.prog 27 = some (.nilf) := by kernel_rfl
theorem sz28 : szA Try.prog 28 = some 1 := by kernel_rfl
theorem sh28 : shapeA Try.prog 28 = some none := by kernel_rfl
def zs28 : List AV := [.nilf]
theorem zero28 : zeroA Try.prog 28 = some (.nilf) := by kernel_rfl
theorem sz29 : szA Try.prog 29 = some 1 := by kernel_rfl
theorem sh29 : shapeA Try.prog 29 = some none := by kernel_rfl
def zs29 : List AV := [.nilf]
theorem zero29 : zeroA Try.prog 29 = some (.nilf) := by kernel_rfl
theorem sz30 : szA Try.prog 30 = some 1 := by kernel_rfl
theorem sh30 : shapeA Try.prog 30 = some none := by kernel_rfl
def zs30 : List AV := [.nilf]
theorem zero30 : zeroA Try.prog 30 = some (.nilf) := by kernel_rfl
theorem u31 : Try.prog.underlying 31 = some (.slice 23) := by kernel_rfl
theorem sz31 : szA Try.prog 31 = some 1 := by kernel_rfl
theorem sh31 : shapeA Try.prog 31 = some none := by kernel_rfl
def zs31 : List AV := [.nils]
theorem zero31 : zeroA Try.prog 31 = some (.nils) := by kernel_rfl
theorem sz33 : szA Try.prog 33 = some 1 := by kernel_rfl
theorem sh33 : shapeA Try.prog 33 = some none := by kernel_rfl
def zs33 : List AV := [.nilf]
theorem zero33 : zeroA Try.prog 33 = some (.nilf) := by kernel_rfl
theorem sz34 : szA Try.prog 34 = some 1 := by kernel_rfl
theorem sh34 : shapeA Try.prog 34 = some none := by kernel_rfl
def zs34 : List AV := [.nilf]
theorem zero34 : zeroA Try.prog 34 = some (.nilf) := by kernel_rfl
theorem sz35 : szA Try.prog 35 = some 1 := by kernel_rfl
theorem sh35 : shapeA Try.prog 35 = some none := by kernel_rfl
def zs35 : List AV := [.nilf]
theorem zero35 : zeroA Try.prog 35 = some (.nilf) := by kernel_rfl
theorem u36 : Try.prog.underlying 36 = some (.array 2 5) := by kernel_rfl
theorem sz36 : szA Try.prog 36 = some 2 := by kernel_rfl
theorem sh36 : shapeA Try.prog 36 = some (some 2) := by kernel_rfl
def zs36 : List AV := [.int .u8 0, .int .u8 0]
theorem zero36 : zeroA Try.prog 36 = some (.agg zs36) := by kernel_rfl
theorem u37 : Try.prog.underlying 37 = some (.array 12 36) := by kernel_rfl
theorem sz37 : szA Try.prog 37 = some 24 := by kernel_rfl
theorem sh37 : shapeA Try.prog 37 = some (some 24) := by kernel_rfl
def zs37 : List AV := [.int .u8 0, .int .u8 0, .int .u8 0, .int .u8 0, .int .u8 0, .int .u8 0, .int .u8 0, .int .u8 0, .int .u8 0, .int .u8 0, .int .u8 0, .int .u8 0, .int .u8 0, .int .u8 0, .int .u8 0, .int .u8 0, .int .u8 0, .int .u8 0, .int .u8 0, .int .u8 0, .int .u8 0, .int .u8 0, .int .u8 0, .int .u8 0]
theorem zero37 : zeroA Try.prog 37 = some (.agg zs37) := by kernel_rfl
theorem sz38 : szA Try.prog 38 = some 26 := by kernel_rfl
theorem sh38 : shapeA Try.prog 38 = some (some 26) := by kernel_rfl
def zs38 : List AV := [.int .u8 0, .int .u8 0, .int .u8 0, .int .u8 0, .int .u8 0, .int .u8 0, .int .u8 0, .int .u8 0, .int .u8 0, .int .u8 0, .int .u8 0, .int .u8 0, .int .u8 0, .int .u8 0, .int .u8 0, .int .u8 0, .int .u8 0, .int .u8 0, .int .u8 0, .int .u8 0, .int .u8 0, .int .u8 0, .int .u8 0, .int .u8 0, .int .u8 0, .int .u8 0]
theorem zero38 : zeroA Try.prog 38 = some (.agg zs38) := by kernel_rfl
theorem sz39 : szA Try.prog 39 = some 26 := by kernel_rfl
theorem sh39 : shapeA Try.prog 39 = some (some 26) := by kernel_rfl
def zs39 : List AV := [.int .u8 0, .int .u8 0, .int .u8 0, .int .u8 0, .int .u8 0, .int .u8 0, .int .u8 0, .int .u8 0, .int .u8 0, .int .u8 0, .int .u8 0, .int .u8 0, .int .u8 0, .int .u8 0, .int .u8 0, .int .u8 0, .int .u8 0, .int .u8 0, .int .u8 0, .int .u8 0, .int .u8 0, .int .u8 0, .int .u8 0, .int .u8 0, .int .u8 0, .int .u8 0]
theorem zero39 : zeroA Try.prog 39 = some (.agg zs39) := by kernel_rfl
theorem u40 : Try.prog.underlying 40 = some (.array 6 5) := by kernel_rfl
theorem sz40 : szA Try.prog 40 = some 6 := by kernel_rfl
theorem sh40 : shapeA Try.prog 40 = some (some 6) := by kernel_rfl
def zs40 : List AV := [.int .u8 0, .int .u8 0, .int .u8 0, .int .u8 0, .int .u8 0, .int .u8 0]
theorem zero40 : zeroA Try.prog 40 = some (.agg zs40) := by kernel_rfl
theorem sz42 : szA Try.prog 42 = some 1 := by kernel_rfl
theorem sh42 : shapeA Try.prog 42 = some none := by kernel_rfl
def zs42 : List AV := [.nilf]
theorem zero42 : zeroA Try.prog 42 = some (.nilf) := by kernel_rfl
theorem sz43 : szA Try.prog 43 = some 1 := by kernel_rfl
theorem sh43 : shapeA Try.prog 43 = some none := by kernel_rfl
def zs43 : List AV := [.nilf]
theorem zero43 : zeroA Try.prog 43 = some (.nilf) := by kernel_rfl
theorem u44 : Try.prog.underlying 44 = some (.array 2 3) := by kernel_rfl
theorem sz44 : szA Try.prog 44 = some 2 := by kernel_rfl
theorem sh44 : shapeA Try.prog 44 = some (some 2) := by kernel_rfl
def zs44 : List AV := [.int .i64 0, .int .i64 0]
theorem zero44 : zeroA Try.prog 44 = some (.agg zs44) := by kernel_rfl
theorem sz46 : szA Try.prog 46 = some 1 := by kernel_rfl
theorem sh46 : shapeA Try.prog 46 = some none := by kernel_rfl
def zs46 : List AV := [.nilf]
theorem zero46 : zeroA Try.prog 46 = some (.nilf) := by kernel_rfl
theorem sz48 : szA Try.prog 48 = some 1 := by kernel_rfl
theorem sh48 : shapeA Try.prog 48 = some none := by kernel_rfl
def zs48 : List AV := [.nilf]
theorem zero48 : zeroA Try.prog 48 = some (.nilf) := by kernel_rfl
theorem sz49 : szA Try.prog 49 = some 1 := by kernel_rfl
theorem sh49 : shapeA Try.prog 49 = some none := by kernel_rfl
def zs49 : List AV := [.nilf]
theorem zero49 : zeroA Try.prog 49 = some (.nilf) := by kernel_rfl
theorem sz50 : szA Try.prog 50 = some 1 := by kernel_rfl
theorem sh50 : shapeA Try.prog 50 = some none := by kernel_rfl
def zs50 : List AV := [.nilf]
theorem zero50 : zeroA Try.prog 50 = some (.nilf) := by kernel_rfl
theorem sz51 : szA Try.prog 51 = some 1 := by kernel_rfl
theorem sh51 : shapeA Try.prog 51 = some none := by kernel_rfl
def zs51 : List AV := [.nilf]
theorem zero51 : zeroA Try.prog 51 = some (.nilf) := by kernel_rfl
theorem sz52 : szA Try.prog 52 = some 1 := by kernel_rfl
theorem sh52 : shapeA Try.prog 52 = some none := by kernel_rfl
def zs52 : List AV := [.nilf]
theorem zero52 : zeroA Try.prog 52 = some (.nilf) := by kernel_rfl
theorem sz53 : szA Try.prog 53 = some 1 := by kernel_rfl
theorem sh53 : shapeA Try.prog 53 = some none := by kernel_rfl
def zs53 : List AV := [.nilf]
theorem zero53 : zeroA Try.prog 53 = some (.nilf) := by kernel_rfl
theorem sz54 : szA Try.prog 54 = some 1 := by kernel_rfl
theorem sh54 : shapeA Try.prog 54 = some none := by kernel_rfl
def zs54 : List AV := [.nilf]
theorem zero54 : zeroA Try.prog 54 = some (.nilf) := by kernel_rfl
theorem sz55 : szA Try.prog 55 = some 1 := by kernel_rfl
theorem sh55 : shapeA Try.prog 55 = some none := by kernel_rfl
def zs55 : List AV := [.nilf]
theorem zero55 : zeroA Try.prog 55 = some (.nilf) := by kernel_rfl
theorem sz56 : szA Try.prog 56 = some 1 := by kernel_rfl
theorem sh56 : shapeA Try.prog 56 = some none := by kernel_rfl
def zs56 : List AV := [.nilf]
theorem zero56 : zeroA Try.prog 56 = some (.nilf) := by kernel_rfl
theorem sz57 : szA Try.prog 57 = some 1 := by kernel_rfl
theorem sh57 : shapeA Try.prog 57 = some none := by kernel_rfl
def zs57 : List AV := [.nilf]
theorem zero57 : zeroA Try.prog 57 = some (.nilf) := by kernel_rfl
theorem sz58 : szA Try.prog 58 = some 1 := by kernel_rfl
theorem sh58 : shapeA Try.prog 58 = some none := by kernel_rfl
def zs58 : List AV := [.nilf]
theorem zero58 : zeroA Try.prog 58 = some (.nilf) := by kernel_rfl
theorem sz59 : szA Try.prog 59 = some 1 := by kernel_rfl
theorem sh59 : shapeA Try.prog 59 = some none := by kernel_rfl
def zs59 : List AV := [.int .u64 0]
theorem zero59 : zeroA Try.prog 59 = some (.int .u64 0) := by kernel_rfl
theorem sz60 : szA Try.prog 60 = some 1 := by kernel_rfl
theorem sh60 : shapeA Try.prog 60 = some none := by kernel_rfl
def zs60 : List AV := [.nilf]
theorem zero60 : zeroA Try.prog 60 = some (.nilf) := by kernel_rfl
theorem sz61 : szA Try.prog 61 = some 1 := by kernel_rfl
theorem sh61 : shapeA Try.prog 61 = some none := by kernel_rfl
def zs61 : List AV := [.nilf]
theorem zero61 : zeroA Try.prog 61 = some (.nilf) := by kernel_rfl
theorem sz62 : szA Try.prog 62 = some 1 := by kernel_rfl
theorem sh62 : shapeA Try.prog 62 = some none := by kernel_rfl
def zs62 : List AV := [.nilf]
theorem zero62 : zeroA Try.prog 62 = some (.nilf) := by kernel_rfl
theorem sz63 : szA Try.prog 63 = some 1 := by kernel_rfl
theorem sh63 : shapeA Try.prog 63 = some none := by kernel_rfl
def zs63 : List AV := [.nilf]
theorem zero63 : zeroA Try.prog 63 = some (.nilf) := by kernel_rfl
theorem sz64 : szA Try.prog 64 = some 1 := by kernel_rfl
theorem sh64 : shapeA Try.prog 64 = some none := by kernel_rfl
def zs64 : List AV := [.nilf]
theorem zero64 : zeroA Try.prog 64 = some (.nilf) := by kernel_rfl
theorem sz65 : szA Try.prog 65 = some 1 := by kernel_rfl
theorem sh65 : shapeA Try.prog 65 = some none := by kernel_rfl
def zs65 : List AV := [.nilf]
theorem zero65 : zeroA Try.prog 65 = some (.nilf) := by kernel_rfl
theorem sz66 : szA Try.prog 66 = some 1 := by kernel_rfl
theorem sh66 : shapeA Try.prog 66 = some none := by kernel_rfl
def zs66 : List AV := [.nilf]
theorem zero66 : zeroA Try.prog 66 = some (.nilf) := by kernel_rfl
theorem sz67 : szA Try.prog 67 = some 1 := by kernel_rfl
theorem sh67 : shapeA Try.prog 67 = some none := by kernel_rfl
def zs67 : List AV := [.nilf]
theorem zero67 : zeroA Try.prog 67 = some (.nilf) := by kernel_rfl
theorem sz68 : szA Try.prog 68 = some 1 := by kernel_rfl
theorem sh68 : shapeA Try.prog 68 = some none := by kernel_rfl
def zs68 : List AV := [.nilf]
theorem zero68 : zeroA Try.prog 68 = some (.nilf) := by kernel_rfl
theorem sz69 : szA Try.prog 69 = some 1 := by kernel_rfl
theorem sh69 : shapeA Try.prog 69 = some none := by kernel_rfl
def zs69 : List AV := [.nilf]
theorem zero69 : zeroA Try.prog 69 = some (.nilf) := by kernel_rfl
theorem sz70 : szA Try.prog 70 = some 1 := by kernel_rfl
theorem sh70 : shapeA Try.prog 70 = some none := by kernel_rfl
def zs70 : List AV := [.nilf]
theorem zero70 : zeroA Try.prog 70 = some (.nilf) := by kernel_rfl
theorem sz71 : szA Try.prog 71 = some 1 := by kernel_rfl
theorem sh71 : shapeA Try.prog 71 = some none := by kernel_rfl
def zs71 : List AV := [.nilf]
theorem zero71 : zeroA Try.prog 71 = some (.nilf) := by kernel_rfl
theorem sz72 : szA Try.prog 72 = some 1 := by kernel_rfl
theorem sh72 : shapeA Try.prog 72 = some none := by kernel_rfl
def zs72 : List AV := [.nilm]
theorem zero72 : zeroA Try.prog 72 = some (.nilm) := by kernel_rfl
theorem sz73 : szA Try.prog 73 = some 1 := by kernel_rfl
theorem sh73 : shapeA Try.prog 73 = some none := by kernel_rfl
def zs73 : List AV := [.nilf]
theorem zero73 : zeroA Try.prog 73 = some (.nilf) := by kernel_rfl
theorem sz75 : szA Try.prog 75 = some 1 := by kernel_rfl
theorem sh75 : shapeA Try.prog 75 = some none := by kernel_rfl
def zs75 : List AV := [.nilf]
theorem zero75 : zeroA Try.prog 75 = some (.nilf) := by kernel_rfl
theorem u76 : Try.prog.underlying 76 = some (.slice 36) := by kernel_rfl
theorem sz76 : szA Try.prog 76 = some 1 := by kernel_rfl
theorem sh76 : shapeA Try.prog 76 = some none := by kernel_rfl
def zs76 : List AV := [.nils]
theorem zero76 : zeroA Try.prog 76 = some (.nils) := by kernel_rfl
theorem u77 : Try.prog.underlying 77 = some (.array 6 3) := by kernel_rfl
theorem sz77 : szA Try.prog 77 = some 6 := by kernel_rfl
theorem sh77 : shapeA Try.prog 77 = some (some 6) := by kernel_rfl
def zs77 : List AV := [.int .i64 0, .int .i64 0, .int .i64 0, .int .i64 0, .int .i64 0, .int .i64 0]
theorem zero77 : zeroA Try.prog 77 = some (.agg zs77) := by kernel_rfl
theorem u78 : Try.prog.underlying 78 = some (.array 6 77) := by kernel_rfl
theorem sz78 : szA Try.prog 78 = some 36 := by kernel_rfl
theorem sh78 : shapeA Try.prog 78 = some (some 36) := by kernel_rfl
def zs78 : List AV := [.int .i64 0, .int .i64 0, .int .i64 0, .int .i64 0, .int .i64 0, .int .i64 0, .int .i64 0, .int .i64 0, .int .i64 0, .int .i64 0, .int .i64 0, .int .i64 0, .int .i64 0, .int .i64 0, .int .i64 0, .int .i64 0, .int .i64 0, .int .i64 0, .int .i64 0, .int .i64 0, .int .i64 0, .int .i64 0, .int .i64 0, .int .i64 0, .int .i64 0, .int .i64 0, .int .i64 0, .int .i64 0, .int .i64 0, .int .i64 0, .int .i64 0, .int .i64 0, .int .i64 0, .int .i64 0, .int .i64 0, .int .i64 0]
theorem zero78 : zeroA Try.prog 78 = some (.agg zs78) := by kernel_rfl
theorem sz79 : szA Try.prog 79 = some 1 := by kernel_rfl
theorem sh79 : shapeA Try.prog 79 = some none := by kernel_rfl
def zs79 : List AV := [.nilf]
theorem zero79 : zeroA Try.prog 79 = some (.nilf) := by kernel_rfl
theorem sz80 : szA Try.prog 80 = some 40 := by kernel_rfl
theorem sh80 : shapeA Try.prog 80 = some (some 40) := by kernel_rfl
def zs80 : List AV := [.int .i64 0, .int .i64 0, .int .i64 0, .int .i64 0, .int .i64 0, .int .i64 0, .int .i64 0, .int .i64 0, .int .i64 0, .int .i64 0, .int .i64 0, .int .i64 0, .int .i64 0, .int .i64 0, .int .i64 0, .int .i64 0, .int .i64 0, .int .i64 0, .int .i64 0, .int .i64 0, .int .i64 0, .int .i64 0, .int .i64 0, .int .i64 0, .int .i64 0, .int .i64 0, .int .i64 0, .int .i64 0, .int .i64 0, .int .i64 0, .int .i64 0, .int .i64 0, .int .i64 0, .int .i64 0, .int .i64 0, .int .i64 0, .int .i64 0, .nilf, .nils, .nils]
theorem zero80 : zeroA Try.prog 80 = some (.agg zs80) := by kernel_rfl
theorem sz81 : szA Try.prog 81 = some 40 := by kernel_rfl
theorem sh81 : shapeA Try.prog 81 = some (some 40) := by kernel_rfl
def zs81 : List AV := [.int .i64 0, .int .i64 0, .int .i64 0, .int .i64 0, .int .i64 0, .int .i64 0, .int .i64 0, .int .i64 0, .int .i64 0, .int .i64 0, .int .i64 0, .int .i64 0, .int .i64 0, .int .i64 0, .int .i64 0, .int .i64 0, .int .i64 0, .int .i64 0, .int .i64 0, .int .i64 0, .int .i64 0, .int .i64 0, .int .i64 0, .int .i64 0, .int .i64 0, .int .i64 0, .int .i64 0, .int .i64 0, .int .i64 0, .int .i64 0, .int .i64 0, .int .i64 0, .int .i64 0, .int .i64 0, .int .i64 0, .int .i64 0, .int .i64 0, .nilf, .nils, .nils]
theorem zero81 : zeroA Try.prog 81 = some (.agg zs81) := by kernel_rfl
theorem sz82 : szA Try.prog 82 = some 1 := by kernel_rfl
theorem sh82 : shapeA Try.prog 82 = some none := by kernel_rfl
def zs82 : List AV := [.nilp]
theorem zero82 : zeroA Try.prog 82 = some (.nilp) := by kernel_rfl
theorem sz83 : szA Try.prog 83 = some 1 := by kernel_rfl
theorem sh83 : shapeA Try.prog 83 = some none := by kernel_rfl
def zs83 : List AV := [.nilf]
theorem zero83 : zeroA Try.prog 83 = some (.nilf) := by kernel_rfl
theorem sz84 : szA Try.prog 84 = some 1 := by kernel_rfl
theorem sh84 : shapeA Try.prog 84 = some none := by kernel_rfl
def zs84 : List AV := [.nilf]
theorem zero84 : zeroA Try.prog 84 = some (.nilf) := by kernel_rfl
theorem sz85 : szA Try.prog 85 = some 1 := by kernel_rfl
theorem sh85 : shapeA Try.prog 85 = some none := by kernel_rfl
def zs85 : List AV := [.nilf]
theorem zero85 : zeroA Try.prog 85 = some (.nilf) := by kernel_rfl
theorem sz86 : szA Try.prog 86 = some 1 := by kernel_rfl
theorem sh86 : shapeA Try.prog 86 = some none := by kernel_rfl
def zs86 : List AV := [.nilf]
theorem zero86 : zeroA Try.prog 86 = some (.nilf) := by kernel_rfl
theorem sz87 : szA Try.prog 87 = some 1 := by kernel_rfl
theorem sh87 : shapeA Try.prog 87 = some none := by kernel_rfl
def zs87 : List AV := [.nilf]
theorem zero87 : zeroA Try.prog 87 = some (.nilf) := by kernel_rfl
theorem sz88 : szA Try.prog 88 = some 1 := by kernel_rfl
theorem sh88 : shapeA Try.prog 88 = some none := by kernel_rfl
def zs88 : List AV := [.nilm]
theorem zero88 : zeroA Try.prog 88 = some (.nilm) := by kernel_rfl
theorem sz89 : szA Try.prog 89 = some 1 := by kernel_rfl
theorem sh89 : shapeA Try.prog 89 = some none := by kernel_rfl
def zs89 : List AV := [.nilf]
theorem zero89 : zeroA Try.prog 89 = some (.nilf) := by kernel_rfl
theorem sz90 : szA Try.prog 90 = some 1 := by kernel_rfl
theorem sh90 : shapeA Try.prog 90 = some none := by kernel_rfl
def zs90 : List AV := [.nilf]
theorem zero90 : zeroA Try.prog 90 = some (.nilf) := by kernel_rfl
theorem sz92 : szA Try.prog 92 = some 1 := by kernel_rfl
theorem sh92 : shapeA Try.prog 92 = some none := by kernel_rfl
def zs92 : List AV := [.nilf]
theorem zero92 : zeroA Try.prog 92 = some (.nilf) := by kernel_rfl
theorem sz93 : szA Try.prog 93 = some 1 := by kernel_rfl
theorem sh93 : shapeA Try.prog 93 = some none := by kernel_rfl
def zs93 : List AV := [.nilf]
theorem zero93 : zeroA Try.prog 93 = some (.nilf) := by kernel_rfl
theorem sz94 : szA Try.prog 94 = some 1 := by kernel_rfl
theorem sh94 : shapeA Try.prog 94 = some none := by kernel_rfl
def zs94 : List AV := [.int .u32 0]
theorem zero94 : zeroA Try.prog 94 = some (.int .u32 0) := by kernel_rfl
theorem sz96 : szA Try.prog 96 = some 1 := by kernel_rfl
theorem sh96 : shapeA Try.prog 96 = some none := by kernel_rfl
def zs96 : List AV := [.nilf]
theorem zero96 : zeroA Try.prog 96 = some (.nilf) := by kernel_rfl
theorem sz97 : szA Try.prog 97 = some 1 := by kernel_rfl
theorem sh97 : shapeA Try.prog 97 = some none := by kernel_rfl
def zs97 : List AV := [.int .u64 0]
theorem zero97 : zeroA Try.prog 97 = some (.int .u64 0) := by kernel_rfl
theorem sz99 : szA Try.prog 99 = some 1 := by kernel_rfl
theorem sh99 : shapeA Try.prog 99 = some none := by kernel_rfl
def zs99 : List AV := [.nilf]
theorem zero99 : zeroA Try.prog 99 = some (.nilf) := by kernel_rfl
theorem sz100 : szA Try.prog 100 = some 1 := by kernel_rfl
theorem sh100 : shapeA Try.prog 100 = some none := by kernel_rfl
def zs100 : List AV := [.nilf]
theorem zero100 : zeroA Try.prog 100 = some (.nilf) := by kernel_rfl
theorem sz101 : szA Try.prog 101 = some 4 := by kernel_rfl
theorem sh101 : shapeA Try.prog 101 = some (some 4) := by kernel_rfl
theorem sz102 : szA Try.prog 102 = some 4 := by kernel_rfl
theorem sh102 : shapeA Try.prog 102 = some (some 4) := by kernel_rfl
theorem u103 : Try.prog.underlying 103 = some (.array 0 16) := by kernel_rfl
theorem sz103 : szA Try.prog 103 = some 0 := by kernel_rfl
theorem sh103 : shapeA Try.prog 103 = some (some 0) := by kernel_rfl
def zs103 : List AV := []
theorem zero103 : zeroA Try.prog 103 = some (.agg zs103) := by kernel_rfl
theorem sz104 : szA Try.prog 104 = some 0 := by kernel_rfl
theorem sh104 : shapeA Try.prog 104 = some (some 0) := by kernel_rfl
def zs104 : List AV := []
theorem zero104 : zeroA Try.prog 104 = some (.agg zs104) := by kernel_rfl
theorem sz105 : szA Try.prog 105 = some 0 := by kernel_rfl
theorem sh105 : shapeA Try.prog 105 = some (some 0) := by kernel_rfl
def zs105 : List AV := []
theorem zero105 : zeroA Try.prog 105 = some (.agg zs105) := by kernel_rfl
theorem sz106 : szA Try.prog 106 = some 1 := by kernel_rfl
theorem sh106 : shapeA Try.prog 106 = some none := by kernel_rfl
def zs106 : List AV := [.nilf]
theorem zero106 : zeroA Try.prog 106 = some (.nilf) := by kernel_rfl
theorem sz107 : szA Try.prog 107 = some 1 := by kernel_rfl
theorem sh107 : shapeA Try.prog 107 = some none := by kernel_rfl
def zs107 : List AV := [.int .u8 0]
theorem zero107 : zeroA Try.prog 107 = some (.int .u8 0) := by kernel_rfl
theorem sz108 : szA Try.prog 108 = some 1 := by kernel_rfl
theorem sh108 : shapeA Try.prog 108 = some none := by kernel_rfl
def zs108 : List AV := [.int .u8 0]
theorem zero108 : zeroA Try.prog 108 = some (.int .u8 0) := by kernel_rfl
theorem sz109 : szA Try.prog 109 = some 1 := by kernel_rfl
theorem sh109 : shapeA Try.prog 109 = some none := by kernel_rfl
def zs109 : List AV := [.nilf]
theorem zero109 : zeroA Try.prog 109 = some (.nilf) := by kernel_rfl
theorem sz110 : szA Try.prog 110 = some 1 := by kernel_rfl
theorem sh110 : shapeA Try.prog 110 = some none := by kernel_rfl
def zs110 : List AV := [.nilp]
theorem zero110 : zeroA Try.prog 110 = some (.nilp) := by kernel_rfl
theorem sz111 : szA Try.prog 111 = some 1 := by kernel_rfl
theorem sh111 : shapeA Try.prog 111 = some none := by kernel_rfl
def zs111 : List AV := [.int .i32 0]
theorem zero111 : zeroA Try.prog 111 = some (.int .i32 0) := by kernel_rfl
theorem sz112 : szA Try.prog 112 = some 1 := by kernel_rfl
theorem sh112 : shapeA Try.prog 112 = some none := by kernel_rfl
def zs112 : List AV := [.int .i32 0]
theorem zero112 : zeroA Try.prog 112 = some (.int .i32 0) := by kernel_rfl
theorem sz113 : szA Try.prog 113 = some 11 := by kernel_rfl
theorem sh113 : shapeA Try.prog 113 = some (some 11) := by kernel_rfl
def zs113 : List AV := [.int .u64 0, .int .u64 0, .int .u32 0, .int .u8 0, .int .u8 0, .int .u8 0, .int .u8 0, .nilf, .nilp, .int .i32 0, .int .i32 0]
theorem zero113 : zeroA Try.prog 113 = some (.agg zs113) := by kernel_rfl
theorem sz114 : szA Try.prog 114 = some 11 := by kernel_rfl
theorem sh114 : shapeA Try.prog 114 = some (some 11) := by kernel_rfl
def zs114 : List AV := [.int .u64 0, .int .u64 0, .int .u32 0, .int .u8 0, .int .u8 0, .int .u8 0, .int .u8 0, .nilf, .nilp, .int .i32 0, .int .i32 0]
theorem zero114 : zeroA Try.prog 114 = some (.agg zs114) := by kernel_rfl
theorem ap22 : AppT Try.prog 22 22 2 := ⟨⟨44, 16, (.agg zs44), by kernel_rfl, by kernel_rfl, by kernel_rfl, by kernel_rfl, zero44, by kernel_rfl, by kernel_rfl⟩, by kernel_rfl, rfl⟩
theorem ap23 : AppT Try.prog 23 23 1 := ⟨⟨3, 8, (.int .i64 0), by kernel_rfl, by kernel_rfl, by kernel_rfl, by kernel_rfl, zero3, by kernel_rfl, by kernel_rfl⟩, by kernel_rfl, rfl⟩
theorem ap31 : AppT Try.prog 31 31 1 := ⟨⟨23, 24, (.nils), by kernel_rfl, by kernel_rfl, by kernel_rfl, by kernel_rfl, zero23, by kernel_rfl, by kernel_rfl⟩, by kernel_rfl, rfl⟩
theorem ap76 : AppT Try.prog 76 76 2 := ⟨⟨36, 2, (.agg zs36), by kernel_rfl, by kernel_rfl, by kernel_rfl, by kernel_rfl, zero36, by kernel_rfl, by kernel_rfl⟩, by kernel_rfl, rfl⟩
end
end Go.Proofs.Ytkhnkkbpibpaaaa.Rg

namespace Go.Proofs.Ytkhnkkbpibpaaaa.Rg

/-- Forms are numbers below n; a find (a, b) tells that a is earlier than b. -/
abbrev Find := Nat × Nat

/-- How many finds are contradicted if a form comes behind some. -/
def cost (n : Nat) (S : List Find) (f d : Nat) : Nat := S.countP fun x => x.1 == f && d.testBit x.2 && decide (x.2 < n)

/-- One entry of the table, for a cost and a rule, out of those of greater sets. -/
def stepV (n : Nat) (c : Nat → Nat → Nat) (may : Nat → Nat → Bool) (V : Nat → Nat × Nat) (d : Nat) : Nat → Nat × Nat
  | 0 => (13, 0)
  | f + 1 =>
    let acc := stepV n c may V d f
    if d ||| 1 <<< f = d ∨ may f d = false then acc else
      let v := c f d + (V (d ||| 1 <<< f)).1
      let acc1 := if v < acc.1 then (v, 0) else acc
      if v = acc1.1 then (acc1.1, acc1.2 + (V (d ||| 1 <<< f)).2) else acc1

/-- The table: k entries below the last one are made. -/
def tab (n : Nat) (c : Nat → Nat → Nat) (may : Nat → Nat → Bool) (all : Nat) : Nat → Nat → Nat × Nat
  | 0 => fun d => if d = all then (0, 1) else (0, 0)
  | k + 1 => fun d => if d + (k + 1) = all then stepV n c may (tab n c may all k) d n else tab n c may all k d

def tabV (n : Nat) (c : Nat → Nat → Nat) (may : Nat → Nat → Bool) : Nat → Nat × Nat := tab n c may (2 ^ n - 1) (2 ^ n - 1)

theorem stepV_congr {n : Nat} {c : Nat → Nat → Nat} {may : Nat → Nat → Bool} {V W : Nat → Nat × Nat} {d : Nat} : ∀ {m : Nat}, (∀ f, f < m → d ||| 1 <<< f ≠ d → V (d ||| 1 <<< f) = W (d ||| 1 <<< f)) → stepV n c may V d m = stepV n c may W d m
  | 0, _ => rfl
  | f + 1, h => by
    have ih := stepV_congr (n := n) (c := c) (may := may) (V := V) (W := W) (d := d) (m := f) fun g hg => h g (by omega)
    unfold stepV
    rw [ih]
    by_cases hd : d ||| 1 <<< f = d
    · simp [hd]
    · rw [h f (by omega) hd]

theorem or_gt {d f : Nat} (h : d ||| 1 <<< f ≠ d) : d < d ||| 1 <<< f := by
  have : d ≤ d ||| 1 <<< f := Nat.left_le_or
  omega

theorem or_le {n d f : Nat} (hd : d ≤ 2 ^ n - 1) (hf : f < n) : d ||| 1 <<< f ≤ 2 ^ n - 1 := by
  have hp : 0 < 2 ^ n := Nat.two_pow_pos n
  have : d ||| 1 <<< f < 2 ^ n := Nat.or_lt_two_pow (by omega) (by rw [Nat.one_shiftLeft]; exact Nat.pow_lt_pow_right (by omega) hf)
  omega

/-- Entries that are made stay. -/
theorem tab_stay {n : Nat} {c : Nat → Nat → Nat} {may : Nat → Nat → Bool} {all : Nat} {d : Nat} : ∀ {k j : Nat}, k ≤ j → all ≤ d + k → tab n c may all j d = tab n c may all k d
  | k, 0, h, _ => by have : k = 0 := by omega
                     subst this; rfl
  | k, j + 1, h, hd => by
    by_cases e : k = j + 1
    · subst e; rfl
    · have ih := tab_stay (n := n) (c := c) (may := may) (all := all) (d := d) (k := k) (j := j) (by omega) hd
      show (if d + (j + 1) = all then _ else tab n c may all j d) = _
      by_cases e2 : d + (j + 1) = all
      · omega
      · rw [if_neg e2, ih]

theorem tabV_all {n : Nat} {c : Nat → Nat → Nat} {may : Nat → Nat → Bool} : tabV n c may (2 ^ n - 1) = (0, 1) := by
  unfold tabV
  rw [tab_stay (k := 0) (Nat.zero_le _) (by omega)]
  simp [tab]

/-- The table's own equation. -/
theorem tabV_step {n : Nat} {c : Nat → Nat → Nat} {may : Nat → Nat → Bool} {d : Nat} (hd : d < 2 ^ n - 1) : tabV n c may d = stepV n c may (tabV n c may) d n := by
  have h1 : tabV n c may d = tab n c may (2 ^ n - 1) (2 ^ n - 1 - d) d := by
    unfold tabV; exact tab_stay (by omega) (by omega)
  obtain ⟨k, hk⟩ : ∃ k, 2 ^ n - 1 - d = k + 1 := ⟨2 ^ n - 1 - d - 1, by omega⟩
  rw [h1, hk]
  show (if d + (k + 1) = 2 ^ n - 1 then _ else _) = _
  rw [if_pos (by omega)]
  refine stepV_congr fun f hf hne => ?_
  have hgt := or_gt hne
  unfold tabV
  exact (tab_stay (by omega) (by omega)).symm

/-! ### The smallest -/

/-- How few, alone. -/
def few (n : Nat) (c : Nat → Nat → Nat) (may : Nat → Nat → Bool) (d : Nat) : Nat := (tabV n c may d).1

theorem stepV_min {n : Nat} {c : Nat → Nat → Nat} {may : Nat → Nat → Bool} {V : Nat → Nat × Nat} {d : Nat} : ∀ {m : Nat},
    (stepV n c may V d m).1 ≤ 13 ∧ (∀ f, f < m → d ||| 1 <<< f ≠ d → may f d = true → (stepV n c may V d m).1 ≤ c f d + (V (d ||| 1 <<< f)).1) ∧
    ((stepV n c may V d m).1 = 13 ∨ ∃ f, f < m ∧ d ||| 1 <<< f ≠ d ∧ may f d = true ∧ (stepV n c may V d m).1 = c f d + (V (d ||| 1 <<< f)).1)
  | 0 => ⟨Nat.le_refl _, fun f hf => by omega, .inl rfl⟩
  | f + 1 => by
    obtain ⟨h1, h2, h3⟩ := stepV_min (n := n) (c := c) (may := may) (V := V) (d := d) (m := f)
    unfold stepV
    by_cases hs : d ||| 1 <<< f = d ∨ may f d = false
    · simp only [if_pos hs]
      refine ⟨h1, fun g hg hd hm => ?_, ?_⟩
      · by_cases e : g = f
        · subst e; rcases hs with hs | hs
          · exact absurd hs hd
          · rw [hm] at hs; cases hs
        · exact h2 g (by omega) hd hm
      · rcases h3 with h3 | ⟨g, hg, h3⟩
        · exact .inl h3
        · exact .inr ⟨g, by omega, h3⟩
    · simp only [if_neg hs]
      have hd : d ||| 1 <<< f ≠ d := fun e => hs (.inl e)
      have hm : may f d = true := by
        cases hmm : may f d
        · exact absurd (.inr hmm) hs
        · rfl
      generalize hv : c f d + (V (d ||| 1 <<< f)).1 = v
      generalize hacc : stepV n c may V d f = acc at h1 h2 h3
      by_cases hlt : v < acc.1
      · rw [if_pos hlt]
        simp only [if_true]
        refine ⟨by omega, fun g hg hgd hgm => ?_, .inr ⟨f, by omega, hd, hm, hv.symm⟩⟩
        by_cases e : g = f
        · subst e; omega
        · have := h2 g (by omega) hgd hgm; omega
      · rw [if_neg hlt]
        have hfst : (if v = acc.1 then (acc.1, acc.2 + (V (d ||| 1 <<< f)).2) else acc).1 = acc.1 := by split <;> rfl
        rw [hfst]
        refine ⟨h1, fun g hg hgd hgm => ?_, ?_⟩
        · by_cases e : g = f
          · subst e; omega
          · exact h2 g (by omega) hgd hgm
        · rcases h3 with h3 | ⟨g, hg, h3⟩
          · exact .inl h3
          · exact .inr ⟨g, by omega, h3⟩

section
variable {n : Nat} {c c' : Nat → Nat → Nat} {may : Nat → Nat → Bool}

theorem few_all : few n c may (2 ^ n - 1) = 0 := by unfold few; rw [tabV_all]

theorem few_le {d f : Nat} (hd : d < 2 ^ n - 1) (hf : f < n) (hne : d ||| 1 <<< f ≠ d) (hm : may f d = true) : few n c may d ≤ c f d + few n c may (d ||| 1 <<< f) := by
  unfold few
  rw [tabV_step hd]
  exact (stepV_min (m := n)).2.1 f hf hne hm

theorem few_13 {d : Nat} (hd : d ≤ 2 ^ n - 1) : few n c may d ≤ 13 := by
  by_cases e : d = 2 ^ n - 1
  · rw [e, few_all]; omega
  · unfold few; rw [tabV_step (by omega)]; exact (stepV_min (m := n)).1

theorem few_ex {d : Nat} (hd : d < 2 ^ n - 1) : few n c may d = 13 ∨ ∃ f, f < n ∧ d ||| 1 <<< f ≠ d ∧ may f d = true ∧ few n c may d = c f d + few n c may (d ||| 1 <<< f) := by
  unfold few
  rw [tabV_step hd]
  exact (stepV_min (m := n)).2.2

/-- Downwards over the sets. -/
theorem down {p : Nat → Prop} (hall : p (2 ^ n - 1)) (hstep : ∀ d, d < 2 ^ n - 1 → (∀ e, d < e → e ≤ 2 ^ n - 1 → p e) → p d) : ∀ d, d ≤ 2 ^ n - 1 → p d := by
  intro d hd
  obtain ⟨k, hk⟩ : ∃ k, k = 2 ^ n - 1 - d := ⟨_, rfl⟩
  induction k using Nat.strongRecOn generalizing d with
  | _ k ih =>
    by_cases e : d = 2 ^ n - 1
    · rw [e]; exact hall
    · exact hstep d (by omega) fun e he1 he2 => ih (2 ^ n - 1 - e) (by omega) e he2 rfl

/-- A greater cost, no smaller entry. -/
theorem few_mono (hc : ∀ f d, c f d ≤ c' f d) : ∀ d, d ≤ 2 ^ n - 1 → few n c may d ≤ few n c' may d := by
  refine down (by rw [few_all]; omega) fun d hd ih => ?_
  rcases few_ex (c := c') (may := may) hd with h | ⟨f, hf, hne, hm, h⟩
  · rw [h]; exact few_13 (by omega)
  · rw [h]
    have h1 := few_le (c := c) hd hf hne hm
    have h2 := ih _ (or_gt hne) (or_le (by omega) hf)
    have h3 := hc f d
    omega
end

theorem testBit_or_shift (d f a : Nat) : (d ||| 1 <<< f).testBit a = (d.testBit a || decide (a = f)) := by
  rw [Nat.testBit_or]
  congr 1
  rw [Nat.one_shiftLeft, Nat.testBit_two_pow]
  by_cases h : f = a <;> simp [h, eq_comm]

theorem or_ne_iff {d f : Nat} : d ||| 1 <<< f ≠ d ↔ d.testBit f = false := by
  constructor
  · intro h
    cases hb : d.testBit f
    · rfl
    · exact absurd (Nat.eq_of_testBit_eq fun a => by
        rw [testBit_or_shift]
        by_cases e : a = f
        · subst e; simp [hb]
        · simp [e]) h
  · intro h e
    have : (d ||| 1 <<< f).testBit f = true := by rw [testBit_or_shift]; simp
    rw [e, h] at this; cases this

abbrev any : Nat → Nat → Bool := fun _ _ => true
/-- How few finds of a list an order contradicts. -/
def fewF (n : Nat) (S : List Find) : Nat := few n (cost n S) any 0

theorem cost_cons (n : Nat) (x : Find) (S : List Find) (f d : Nat) : cost n (x :: S) f d = cost n S f d + if x.1 = f ∧ d.testBit x.2 = true ∧ x.2 < n then 1 else 0 := by
  unfold cost
  rw [List.countP_cons]
  congr 1
  by_cases h1 : x.1 = f <;> by_cases h2 : d.testBit x.2 = true <;> by_cases h3 : x.2 < n <;> simp [h1, h2, h3]

theorem cost_perm {n : Nat} {S S' : List Find} (h : S.Perm S') : cost n S = cost n S' := by
  funext f d; unfold cost; exact h.countP_eq _

theorem cost_le (n : Nat) (S : List Find) (f d : Nat) : cost n S f d ≤ S.length := List.countP_le_length

/-- One find more: no fewer, and at most one more. -/
theorem few_cons_ge (n : Nat) (x : Find) (S : List Find) : fewF n S ≤ fewF n (x :: S) :=
  few_mono (fun f d => by rw [cost_cons]; omega) 0 (Nat.zero_le _)

theorem few_cons_le (n : Nat) (x : Find) (S : List Find) : ∀ d, d ≤ 2 ^ n - 1 → few n (cost n (x :: S)) any d ≤ few n (cost n S) any d + if d.testBit x.1 = true then 0 else 1 := by
  refine down (by rw [few_all]; omega) fun d hd ih => ?_
  rcases few_ex (c := cost n S) (may := any) hd with h | ⟨f, hf, hne, hm, h⟩
  · rw [h]; have := few_13 (n := n) (c := cost n (x :: S)) (may := any) (d := d) (by omega); omega
  · rw [h]
    have h1 := few_le (c := cost n (x :: S)) (may := any) hd hf hne hm
    have h2 := ih _ (or_gt hne) (or_le (by omega) hf)
    rw [cost_cons] at h1
    rw [testBit_or_shift] at h2
    have hb := or_ne_iff.1 hne
    by_cases e : x.1 = f
    · subst e
      simp only [hb] at h1 h2 ⊢
      simp at h2
      split at h1 <;> simp <;> omega
    · rw [if_neg (by simp [e])] at h1
      simp [e] at h2
      omega

theorem fewF_cons_le (n : Nat) (x : Find) (S : List Find) : fewF n (x :: S) ≤ fewF n S + 1 := by
  have := few_cons_le n x S 0 (Nat.zero_le _)
  unfold fewF
  split at this <;> omega

theorem fewF_perm {n : Nat} {S S' : List Find} (h : S.Perm S') : fewF n S = fewF n S' := by unfold fewF; rw [cost_perm h]

theorem few_nil (n : Nat) : ∀ d, d ≤ 2 ^ n - 1 → few n (cost n []) any d = 0 := by
  refine down few_all fun d hd ih => ?_
  have : ∃ f, f < n ∧ d ||| 1 <<< f ≠ d := by
    have hn : ¬ ∀ f, f < n → d.testBit f = true := fun hall => by
      have : d = 2 ^ n - 1 := Nat.eq_of_testBit_eq fun i => by
        rw [Nat.testBit_two_pow_sub_one]
        by_cases hi : i < n
        · rw [hall i hi]; simp [hi]
        · have : d.testBit i = false := Nat.testBit_lt_two_pow (Nat.lt_of_lt_of_le (by omega : d < 2 ^ n) (Nat.pow_le_pow_right (by omega) (by omega)))
          rw [this]; simp [hi]
      omega
    obtain ⟨f, hf⟩ := Classical.not_forall.1 hn
    refine ⟨f, Classical.byContradiction fun h => hf fun h' => absurd h' h, or_ne_iff.2 ?_⟩
    cases hb : d.testBit f
    · rfl
    · exact absurd (fun _ => hb) hf
  obtain ⟨f, hf, hne⟩ := this
  have h1 := few_le (c := cost n []) (may := any) hd hf hne rfl
  rw [ih _ (or_gt hne) (or_le (by omega) hf)] at h1
  have : cost n [] f d = 0 := rfl
  omega

theorem fewF_le (n : Nat) : ∀ S : List Find, fewF n S ≤ S.length
  | [] => by unfold fewF; rw [few_nil n 0 (Nat.zero_le _)]; exact Nat.zero_le _
  | x :: S => by have := fewF_cons_le n x S; have := fewF_le n S; simp; omega

/-- Where some finds are contradicted, one of them is such that without it one less is. -/
theorem few_less (n : Nat) (S : List Find) (hS : S.length ≤ 12) : ∀ d, d ≤ 2 ^ n - 1 → 0 < few n (cost n S) any d → ∃ x ∈ S, few n (cost n (S.erase x)) any d < few n (cost n S) any d := by
  refine down (fun h => by rw [few_all] at h; omega) fun d hd ih hpos => ?_
  have hle13 : few n (cost n S) any d ≤ 12 := by
    have key : ∀ (S : List Find), ∀ d, d ≤ 2 ^ n - 1 → few n (cost n S) any d ≤ S.length := by
      intro S
      induction S with
      | nil => intro d hd; rw [few_nil n d hd]; exact Nat.zero_le _
      | cons x S ih => intro d hd; have := few_cons_le n x S d hd; have := ih d hd; simp; split at * <;> omega
    exact Nat.le_trans (key S d (by omega)) hS
  rcases few_ex (c := cost n S) (may := any) hd with h | ⟨f, hf, hne, hm, h⟩
  · omega
  · have her : ∀ x ∈ S, ∀ g e, cost n S g e = cost n (S.erase x) g e + if x.1 = g ∧ e.testBit x.2 = true ∧ x.2 < n then 1 else 0 := fun x hx g e => by
      rw [cost_perm (List.perm_cons_erase hx), cost_cons]
    by_cases hc : 0 < cost n S f d
    · obtain ⟨x, hx, hp⟩ := List.countP_pos_iff.1 hc
      simp at hp
      refine ⟨x, hx, ?_⟩
      have h1 := few_le (c := cost n (S.erase x)) (may := any) hd hf hne rfl
      have h2 := her x hx f d
      rw [if_pos ⟨hp.1.1, hp.1.2, hp.2⟩] at h2
      have h3 := few_mono (n := n) (may := any) (c := cost n (S.erase x)) (c' := cost n S) (fun g e => by rw [her x hx g e]; omega) _ (or_le (d := d) (by omega) hf)
      omega
    · obtain ⟨x, hx, hlt⟩ := ih _ (or_gt hne) (or_le (by omega) hf) (by omega)
      refine ⟨x, hx, ?_⟩
      have h1 := few_le (c := cost n (S.erase x)) (may := any) hd hf hne rfl
      have h2 := her x hx f d
      omega

/-! ### Striking -/

/-- One by one: 'kept', and those that are still to be asked; how many are struck. -/
def struck (n : Nat) : List Find → List Find → Nat
  | _, [] => 0
  | kept, x :: r => if fewF n (kept ++ r) < fewF n (kept ++ x :: r) then struck n kept r + 1 else struck n (kept ++ [x]) r

/-- Those that are left. -/
def leftOver (n : Nat) : List Find → List Find → List Find
  | kept, [] => kept
  | kept, x :: r => if fewF n (kept ++ r) < fewF n (kept ++ x :: r) then leftOver n kept r else leftOver n (kept ++ [x]) r

theorem fewF_mid (n : Nat) (x : Find) (k r : List Find) : fewF n (k ++ x :: r) = fewF n (x :: (k ++ r)) := fewF_perm List.perm_middle

theorem struck_add (n : Nat) : ∀ (r kept : List Find), struck n kept r + fewF n (leftOver n kept r) = fewF n (kept ++ r)
  | [], kept => by simp [struck, leftOver]
  | x :: r, kept => by
    unfold struck leftOver
    have h1 := few_cons_ge n x (kept ++ r)
    have h2 := fewF_cons_le n x (kept ++ r)
    rw [← fewF_mid] at h1 h2
    split
    · have := struck_add n r kept; omega
    · have := struck_add n r (kept ++ [x]); simp at this ⊢; omega

/-- What is kept could not be spared: without it as many are contradicted. -/
theorem left_sub (n : Nat) : ∀ (r kept : List Find), ∃ D, (kept ++ r).Perm (leftOver n kept r ++ D) ∧ D.length = struck n kept r
  | [], kept => ⟨[], by simp [leftOver, struck]⟩
  | x :: r, kept => by
    unfold leftOver struck
    split
    · obtain ⟨D, h1, h2⟩ := left_sub n r kept
      refine ⟨x :: D, ?_, by simp [h2]⟩
      exact List.perm_middle.trans ((h1.cons x).trans List.perm_middle.symm)
    · obtain ⟨D, h1, h2⟩ := left_sub n r (kept ++ [x])
      exact ⟨D, by simpa using h1, h2⟩

theorem fewF_app_le (n : Nat) (S : List Find) : ∀ D : List Find, fewF n (S ++ D) ≤ fewF n S + D.length
  | [] => by simp
  | x :: D => by
    rw [fewF_mid]
    have := fewF_cons_le n x (S ++ D)
    have := fewF_app_le n S D
    simp; omega

theorem left_kept (n : Nat) : ∀ (r kept : List Find), (∀ x ∈ kept, ¬ fewF n ((leftOver n kept r).erase x) < fewF n (leftOver n kept r)) → ∀ x ∈ leftOver n kept r, ¬ fewF n ((leftOver n kept r).erase x) < fewF n (leftOver n kept r)
  | [], kept, hk => by simpa [leftOver] using hk
  | x :: r, kept, hk => by
    unfold leftOver at hk ⊢
    split
    · rename_i hlt; rw [if_pos hlt] at hk; exact left_kept n r kept hk
    · rename_i hlt
      rw [if_neg hlt] at hk
      refine left_kept n r (kept ++ [x]) fun y hy => ?_
      rcases List.mem_append.1 hy with hy | hy
      · exact hk y hy
      · have : y = x := by simpa using hy
        subst this
        intro hless
        refine hlt ?_
        obtain ⟨D, hp, hD⟩ := left_sub n r (kept ++ [y])
        have hadd := struck_add n r (kept ++ [y])
        have hmem : y ∈ leftOver n (kept ++ [y]) r := by
          have key : ∀ (r kept : List Find), ∀ z ∈ kept, z ∈ leftOver n kept r := by
            intro r
            induction r with
            | nil => intro kept z hz; simpa [leftOver] using hz
            | cons w r ih => intro kept z hz; unfold leftOver; split
                             · exact ih _ _ hz
                             · exact ih _ _ (by simp [hz])
          exact key _ _ _ (by simp)
        generalize hR : leftOver n (kept ++ [y]) r = R at *
        have h1 : (kept ++ y :: r).Perm (y :: (R.erase y ++ D)) := by
          have := hp.trans ((List.perm_cons_erase hmem).append_right D)
          simpa using this
        have h2 : (kept ++ r).Perm (R.erase y ++ D) := (List.perm_middle.symm.trans h1).cons_inv
        rw [fewF_perm h2]
        have h3 := fewF_app_le n (R.erase y) D
        have e : kept ++ y :: r = kept ++ [y] ++ r := by simp
        rw [e, ← hadd]
        omega

/-- As many are struck as an order contradicts at least. -/
theorem struck_eq (n : Nat) (S : List Find) (hS : S.length ≤ 12) : struck n [] S = fewF n S := by
  have h1 := struck_add n S []
  have h2 := left_kept n S [] (by simp)
  obtain ⟨D, hp, hD⟩ := left_sub n S []
  have h3 : fewF n (leftOver n [] S) = 0 := by
    refine Classical.byContradiction fun hne => ?_
    have hlen : (leftOver n [] S).length ≤ 12 := by
      have := hp.length_eq
      simp at this; omega
    obtain ⟨x, hx, hlt⟩ := few_less n _ hlen 0 (Nat.zero_le _) (Nat.pos_of_ne_zero hne)
    exact h2 x hx hlt
  simp at h1
  omega
end Go.Proofs.Ytkhnkkbpibpaaaa.Rg

namespace Go.Proofs.Ytkhnkkbpibpaaaa.Rg
open Go.Proofs Go.Proofs.Ytkhnkkbpibpaaaa.Ab
set_option linter.unusedVariables false
set_option linter.unusedSimpArgs false
set_option maxHeartbeats 1000000
set_option maxRecDepth 100000
noncomputable section
/-- Nothing is known beforehand but of one function. -/
def OK (O : CallF) : Prop := ∀ f args h, f ≠ 9 → O f args h = none

/-- The cells of a table. -/
def tabCells (n : Nat) (later : Nat → Nat → Nat) (may fw wy : AV) : List AV := I n :: ((List.range 36).map fun k => I (later (k / 6) (k % 6))) ++ [may, fw, wy]

theorem tabCells_later {n : Nat} {later : Nat → Nat → Nat} {may fw wy : AV} {i j : Nat} (hi : i < 6) (hj : j < 6) : (tabCells n later may fw wy)[0 + 1 + i * 6 + j * 1]? = some (I (later i j)) := by
  have e : 0 + 1 + i * 6 + j * 1 = (i * 6 + j) + 1 := by omega
  unfold tabCells
  rw [e, List.cons_append, List.getElem?_cons_succ, List.getElem?_append_left (by simp; omega), List.getElem?_map, List.getElem?_range (by omega)]
  have h1 : (i * 6 + j) / 6 = i := by omega
  have h2 : (i * 6 + j) % 6 = j := by omega
  simp [h1, h2]

def costS (later : Nat → Nat → Nat) (f d : Nat) : Nat → Nat
  | 0 => 0
  | y + 1 => costS later f d y + if d.testBit y = true then later f y else 0

theorem costS_le {later : Nat → Nat → Nat} {f d : Nat} (hl : ∀ i j, later i j ≤ 1000) : ∀ y, costS later f d y ≤ 1000 * y
  | 0 => Nat.le_refl _
  | y + 1 => by unfold costS; have := costS_le (f := f) (d := d) hl y; have := hl f y; split <;> omega

def badF (n : Int) (x : Pr) : Int := if ¬ (0 ≤ min x.1 x.2 ∧ min x.1 x.2 ≤ n - 1) ∨ n ≤ max x.1 x.2 then 2 else if x.1 = x.2 then 13 else 0
def chk (n : Int) : List Pr → Int
  | [] => 0
  | x :: r => if badF n x = 0 then chk n r else badF n x
def checkE (n : Int) (S : List Pr) : Int := if ¬ (1 ≤ n ∧ n ≤ 6) then 1 else if 12 < S.length then 3 else chk n S

theorem chk_drop {n : Int} {S : List Pr} {i : Nat} (hi : i < S.length) : chk n (S.drop i) = if badF n S[i] = 0 then chk n (S.drop (i + 1)) else badF n S[i] := by
  rw [List.drop_eq_getElem_cons hi]; rfl

section
variable {O : CallF} {h : AH}

theorem between_cl (hO : OK O) (a n b : Int) : Cl Try.prog O 0 42 [I a, I n, I b] h (fun v h' => v = .bool (decide (a ≤ n ∧ n ≤ b)) ∧ h = h') := by
  refine Cl.intro (N := 15) (K := 71) (hO _ _ _ (by decide)) Try.func42 rfl rfl (k := 3) rfl rfl rfl (by kernel_rfl) (.cons 0 _ (.cons 1 _ (.cons 2 _ .nil))) ⟨⟨rfl, rfl⟩, ⟨rfl, rfl⟩, ⟨rfl, rfl⟩, trivial⟩ ?_
  refine EvL.seq ?_
  refine EvL.region ?_
  refine Rn.val (St.assign rfl) rfl ?_
  refine Rn.done (.cons 0 _ (.cons 1 _ (.cons 2 _ .nil))) ⟨⟨rfl, rfl⟩, ⟨rfl, rfl⟩, ⟨rfl, rfl⟩, trivial⟩ ?_
  refine thenL_normal ?_
  refine EvL.seq ?_
  refine EvL.region ?_
  refine Rn.val (St.move rfl) rfl ?_
  refine Rn.val (St.move rfl) rfl ?_
  refine Rn.val (St.leq rfl rfl) rfl ?_
  refine Rn.val (St.move rfl) rfl ?_
  refine Rn.split (tg := 10) rfl (fun g10 => ?_) (fun g10 => ?_)
  · try simp only [decide_eq_true_eq, decide_eq_false_iff_not, Bool.not_eq_true', Bool.not_eq_false', Bool.not_true, Bool.not_false] at g10
    refine Rn.guardT (tg := 10) rfl rfl ?_
    refine Rn.val (St.move rfl) rfl ?_
    refine Rn.guardT (tg := 10) rfl rfl ?_
    refine Rn.val (St.move rfl) rfl ?_
    refine Rn.guardT (tg := 10) rfl rfl ?_
    refine Rn.val (St.leq rfl rfl) rfl ?_
    refine Rn.val (St.pickT rfl rfl rfl) rfl ?_
    refine Rn.val (St.assign rfl) rfl ?_
    refine Rn.done (.cons 6 _ .nil) ⟨⟨rfl, rfl⟩, trivial⟩ ?_
    refine thenL_normal ?_
    refine EvL.ret ?_
    refine endL_ret rfl ?_
    exact ⟨by simp [finL, *], rfl⟩
  · try simp only [decide_eq_true_eq, decide_eq_false_iff_not, Bool.not_eq_true', Bool.not_eq_false', Bool.not_true, Bool.not_false] at g10
    refine Rn.guardF (tg := 10) rfl rfl rfl rfl ?_
    refine Rn.guardF (tg := 10) rfl rfl rfl rfl ?_
    refine Rn.guardF (tg := 10) rfl rfl rfl rfl ?_
    refine Rn.val (St.pickF rfl rfl rfl) rfl ?_
    refine Rn.val (St.assign rfl) rfl ?_
    refine Rn.done (.cons 6 _ .nil) ⟨⟨rfl, rfl⟩, trivial⟩ ?_
    refine thenL_normal ?_
    refine EvL.ret ?_
    refine endL_ret rfl ?_
    exact ⟨by simp [finL, *], rfl⟩

theorem anyForm_cl (hO : OK O) (a b : AV) : Cl Try.prog O 0 52 [a, b] h (fun v h' => v = .bool true ∧ h = h') := by
  refine Cl.intro (N := 5) (K := 16) (hO _ _ _ (by decide)) Try.func52 rfl rfl (k := 2) rfl rfl rfl (by kernel_rfl) .nil trivial ?_
  refine EvL.seq ?_
  refine EvL.region ?_
  refine Rn.val (St.assign rfl) rfl ?_
  refine Rn.done .nil trivial ?_
  refine thenL_normal ?_
  refine EvL.seq ?_
  refine EvL.region ?_
  refine Rn.val (St.assign rfl) rfl ?_
  refine Rn.done (.cons 4 _ .nil) ⟨⟨rfl, rfl⟩, trivial⟩ ?_
  refine thenL_normal ?_
  refine EvL.ret ?_
  refine endL_ret rfl ?_
  exact ⟨rfl, rfl⟩

theorem cost_cl (hO : OK O) {M b n form done : Nat} {later : Nat → Nat → Nat} {may fw wy : AV} (ht : OBx M h b (tabCells n later may fw wy)) (hn : n ≤ 6) (hf : form < 6) (hd : done < 64) (hl : ∀ i j, later i j ≤ 1000) :
    Cl Try.prog O 0 57 [.ptr b 0, I form, I done] h (fun v h' => v = I (costS later form done n) ∧ h = h') := by
  refine Cl.intro (N := 33) (K := 1077703) (hO _ _ _ (by decide)) Try.func57 rfl rfl (k := 3) rfl rfl rfl (by kernel_rfl) (.cons 0 _ (.cons 1 _ (.cons 2 _ .nil))) ⟨⟨rfl, rfl⟩, ⟨rfl, rfl⟩, ⟨rfl, rfl⟩, trivial⟩ ?_
  refine EvL.seq ?_
  refine EvL.region ?_
  refine Rn.val (St.assign rfl) rfl ?_
  refine Rn.done (.cons 0 _ (.cons 1 _ (.cons 2 _ .nil))) ⟨⟨rfl, rfl⟩, ⟨rfl, rfl⟩, ⟨rfl, rfl⟩, trivial⟩ ?_
  refine thenL_normal ?_
  refine EvL.seq ?_
  refine EvL.region ?_
  refine Rn.val (St.assign rfl) rfl ?_
  refine Rn.done (.cons 0 _ (.cons 1 _ (.cons 2 _ (.cons 7 _ .nil)))) ⟨⟨rfl, rfl⟩, ⟨rfl, rfl⟩, ⟨rfl, rfl⟩, ⟨rfl, rfl⟩, trivial⟩ ?_
  refine thenL_normal ?_
  refine EvL.seq ?_
  refine EvL.seq ?_
  refine EvL.region ?_
  refine Rn.val (St.move rfl) rfl ?_
  refine Rn.val (St.nilCheck rfl rfl) rfl ?_
  refine Rn.val (St.fieldAddr rfl (by rfl)) rfl ?_
  refine Rn.val (St.load rfl (ht.load1 sh3 rfl)) rfl ?_
  refine Rn.val (St.move rfl) rfl ?_
  refine Rn.done (.cons 0 _ (.cons 1 _ (.cons 2 _ (.cons 7 _ (.cons 12 _ (.cons 13 _ .nil)))))) ⟨⟨rfl, rfl⟩, ⟨rfl, rfl⟩, ⟨rfl, rfl⟩, ⟨rfl, rfl⟩, ⟨rfl, rfl⟩, ⟨rfl, rfl⟩, trivial⟩ ?_
  refine thenL_normal ?_
  refine EvL.block ?_
  refine EvL.loop (fun m L h' => ∃ y : Nat, y ≤ n ∧ m = n - y ∧ L = (.cons 0 (.ptr b 0) (.cons 1 (I form) (.cons 2 (I done) (.cons 7 (I (costS later form done y)) (.cons 12 (I n) (.cons 13 (I y) .nil)))))) ∧ h' = h) (m := n) ?_ ?_
  · exact ⟨0, Nat.zero_le _, rfl, rfl, rfl⟩
  rintro m L hL0 ⟨y, hy, rfl, rfl, rfl⟩
  refine EvL.seq ?_
  refine EvL.region ?_
  refine Rn.val (St.lss rfl rfl) rfl ?_
  refine Rn.done (.cons 0 _ (.cons 1 _ (.cons 2 _ (.cons 7 _ (.cons 12 _ (.cons 13 _ (.cons 14 _ .nil))))))) ⟨⟨rfl, rfl⟩, ⟨rfl, rfl⟩, ⟨rfl, rfl⟩, ⟨rfl, rfl⟩, ⟨rfl, rfl⟩, ⟨rfl, rfl⟩, ⟨rfl, rfl⟩, trivial⟩ ?_
  refine thenL_normal ?_
  refine EvL.seq ?_
  refine EvL.cond rfl (fun b14 => ?_) (fun b14 => ?_)
  · try simp only [decide_eq_true_eq, decide_eq_false_iff_not, Bool.not_eq_true', Bool.not_eq_false', Bool.not_true, Bool.not_false] at b14
    have hlt : y < n := by omega
    refine EvL.skip ?_
    refine thenL_normal ?_
    refine EvL.seq ?_
    refine EvL.block ?_
    refine EvL.seq ?_
    refine EvL.region ?_
    refine Rn.val (St.move rfl) rfl ?_
    refine Rn.val (St.assign rfl) rfl ?_
    refine Rn.done (.cons 0 _ (.cons 1 _ (.cons 2 _ (.cons 7 _ (.cons 8 _ (.cons 12 _ (.cons 13 _ .nil))))))) ⟨⟨rfl, rfl⟩, ⟨rfl, rfl⟩, ⟨rfl, rfl⟩, ⟨rfl, rfl⟩, ⟨rfl, rfl⟩, ⟨rfl, rfl⟩, ⟨rfl, rfl⟩, trivial⟩ ?_
    refine thenL_normal ?_
    refine EvL.seq ?_
    refine EvL.region ?_
    refine Rn.val (St.move rfl) rfl ?_
    refine Rn.val (St.move rfl) rfl ?_
    refine Rn.val (St.shr rfl rfl (by show y < 64; omega)) rfl ?_
    refine Rn.val (St.and (n := 1) rfl rfl (by show done >>> y < 9223372036854775808; have := Nat.shiftRight_le done y; omega) (by decide)) rfl ?_
    refine Rn.val (St.eql rfl rfl) rfl ?_
    refine Rn.done (.cons 0 _ (.cons 1 _ (.cons 2 _ (.cons 7 _ (.cons 8 _ (.cons 12 _ (.cons 13 _ (.cons 20 _ .nil)))))))) ⟨⟨rfl, rfl⟩, ⟨rfl, rfl⟩, ⟨rfl, rfl⟩, ⟨rfl, rfl⟩, ⟨rfl, rfl⟩, ⟨rfl, rfl⟩, ⟨rfl, rfl⟩, ⟨rfl, rfl⟩, trivial⟩ ?_
    refine thenL_normal ?_
    refine EvL.cond rfl (fun b20 => ?_) (fun b20 => ?_)
    · try simp only [decide_eq_true_eq, decide_eq_false_iff_not, Bool.not_eq_true', Bool.not_eq_false', Bool.not_true, Bool.not_false] at b20
      rw [bit_iff] at b20
      have e : ((costS later form done (y + 1) : Nat) : Int) = costS later form done y + later form y := by simp [costS, b20]
      have := costS_le (f := form) (d := done) hl y
      have := hl form y
      refine EvL.region ?_
      refine Rn.val (St.move rfl) rfl ?_
      refine Rn.val (St.move rfl) rfl ?_
      refine Rn.val (St.move rfl) rfl ?_
      refine Rn.val (St.move rfl) rfl ?_
      refine Rn.val (St.nilCheck rfl rfl) rfl ?_
      refine Rn.val (St.fieldAddr rfl (by rfl)) rfl ?_
      refine Rn.val (St.indexAddr rfl rfl (arr_addr form u78 sz77 hf)) rfl ?_
      refine Rn.val (St.indexAddr rfl rfl (arr_addr y u77 sz3 (by omega))) rfl ?_
      refine Rn.val (St.load rfl (ht.load1 sh3 (tabCells_later hf (by omega)))) rfl ?_
      refine Rn.val (St.add rfl rfl (by omega) (by omega)) rfl ?_
      refine Rn.val (St.assign rfl) rfl ?_
      refine Rn.done (.cons 0 _ (.cons 1 _ (.cons 2 _ (.cons 7 _ (.cons 12 _ (.cons 13 _ .nil)))))) ⟨⟨rfl, rfl⟩, ⟨rfl, rfl⟩, ⟨rfl, rfl⟩, ⟨rfl, rfl⟩, ⟨rfl, rfl⟩, ⟨rfl, rfl⟩, trivial⟩ ?_
      refine blockL_normal ?_
      refine thenL_normal ?_
      refine EvL.region ?_
      refine Rn.val (St.add rfl rfl (by omega) (by omega)) rfl ?_
      refine Rn.val (St.move rfl) rfl ?_
      refine Rn.done (.cons 0 _ (.cons 1 _ (.cons 2 _ (.cons 7 _ (.cons 12 _ (.cons 13 _ .nil)))))) ⟨⟨rfl, rfl⟩, ⟨rfl, rfl⟩, ⟨rfl, rfl⟩, ⟨rfl, rfl⟩, ⟨rfl, rfl⟩, ⟨rfl, rfl⟩, trivial⟩ ?_
      exact ⟨n - (y + 1), by omega, y + 1, hlt, rfl, by rw [e]; rfl, rfl⟩
    · try simp only [decide_eq_true_eq, decide_eq_false_iff_not, Bool.not_eq_true', Bool.not_eq_false', Bool.not_true, Bool.not_false] at b20
      rw [bit_iff] at b20
      have e : ((costS later form done (y + 1) : Nat) : Int) = costS later form done y := by simp [costS, b20]
      refine EvL.skip ?_
      refine blockL_normal ?_
      refine thenL_normal ?_
      refine EvL.region ?_
      refine Rn.val (St.add rfl rfl (by omega) (by omega)) rfl ?_
      refine Rn.val (St.move rfl) rfl ?_
      refine Rn.done (.cons 0 _ (.cons 1 _ (.cons 2 _ (.cons 7 _ (.cons 12 _ (.cons 13 _ .nil)))))) ⟨⟨rfl, rfl⟩, ⟨rfl, rfl⟩, ⟨rfl, rfl⟩, ⟨rfl, rfl⟩, ⟨rfl, rfl⟩, ⟨rfl, rfl⟩, trivial⟩ ?_
      exact ⟨n - (y + 1), by omega, y + 1, hlt, rfl, by rw [e]; rfl, rfl⟩
  · try simp only [decide_eq_true_eq, decide_eq_false_iff_not, Bool.not_eq_true', Bool.not_eq_false', Bool.not_true, Bool.not_false] at b14
    have he : y = n := by omega
    subst he
    refine EvL.exit ?_
    refine thenL_exit ?_
    refine thenL_exit ?_
    refine blockL_exit ?_
    refine thenL_normal ?_
    refine EvL.seq ?_
    refine EvL.region ?_
    refine Rn.val (St.move rfl) rfl ?_
    refine Rn.val (St.assign rfl) rfl ?_
    refine Rn.done (.cons 6 _ .nil) ⟨⟨rfl, rfl⟩, trivial⟩ ?_
    refine thenL_normal ?_
    refine EvL.ret ?_
    refine endL_ret rfl ?_
    exact ⟨rfl, rfl⟩

theorem check_cl (hO : OK O) (hw : WF h) {v : AV} {S : List Pr} (p : Pairs h v S) (n : Int) (hn : -1000000 ≤ n) (hn2 : n ≤ 1000000) (hS : S.length ≤ 1000000) :
    Cl Try.prog O 0 32 [I n, v] h (fun r h' => r = I (checkE n S) ∧ Kept h h') := by
  have KB := KeepB.refl (M := h.next) hw
  refine Cl.intro (N := 47) (K := 1099514218707) (hO _ _ _ (by decide)) Try.func32 rfl rfl (k := 2) rfl rfl rfl (by kernel_rfl) (.cons 0 _ (.cons 1 _ .nil)) ⟨⟨rfl, rfl⟩, ⟨rfl, rfl⟩, trivial⟩ ?_
  refine EvL.seq ?_
  refine EvL.region ?_
  refine Rn.val (St.assign rfl) rfl ?_
  refine Rn.done (.cons 0 _ (.cons 1 _ .nil)) ⟨⟨rfl, rfl⟩, ⟨rfl, rfl⟩, trivial⟩ ?_
  refine thenL_normal ?_
  refine EvL.seq ?_
  refine EvL.block ?_
  refine EvL.seq ?_
  refine EvL.region ?_
  refine Rn.val (St.move rfl) rfl ?_
  refine Rn.call rfl rfl rfl (between_cl hO _ _ _) fun v9 h9 c9 => ?_
  obtain ⟨rfl, rfl⟩ := c9
  refine Rn.val (St.not rfl) rfl ?_
  refine Rn.val (St.assign rfl) rfl ?_
  refine Rn.done (.cons 0 _ (.cons 1 _ (.cons 7 _ .nil))) ⟨⟨rfl, rfl⟩, ⟨rfl, rfl⟩, ⟨rfl, rfl⟩, trivial⟩ ?_
  refine thenL_normal ?_
  refine EvL.cond rfl (fun b7 => ?_) (fun b7 => ?_)
  · try simp only [decide_eq_true_eq, decide_eq_false_iff_not, Bool.not_eq_true', Bool.not_eq_false', Bool.not_true, Bool.not_false] at b7
    refine EvL.seq ?_
    refine EvL.region ?_
    refine Rn.val (St.assign rfl) rfl ?_
    refine Rn.done (.cons 4 _ .nil) ⟨⟨rfl, rfl⟩, trivial⟩ ?_
    refine thenL_normal ?_
    refine EvL.ret ?_
    refine blockL_ret ?_
    refine thenL_ret ?_
    refine endL_ret rfl ?_
    exact ⟨by unfold checkE; rw [if_pos (by simpa using b7)]; rfl, KB.kept hw⟩
  · try simp only [decide_eq_true_eq, decide_eq_false_iff_not, Bool.not_eq_true', Bool.not_eq_false', Bool.not_true, Bool.not_false] at b7
    refine EvL.seq ?_
    refine EvL.region ?_
    refine Rn.val (St.move rfl) rfl ?_
    refine Rn.val (St.len rfl (p.len u22)) rfl ?_
    refine Rn.val (St.gtr rfl rfl) rfl ?_
    refine Rn.val (St.assign rfl) rfl ?_
    refine Rn.done (.cons 0 _ (.cons 1 _ (.cons 11 _ .nil))) ⟨⟨rfl, rfl⟩, ⟨rfl, rfl⟩, ⟨rfl, rfl⟩, trivial⟩ ?_
    refine thenL_normal ?_
    refine EvL.cond rfl (fun b11 => ?_) (fun b11 => ?_)
    · try simp only [decide_eq_true_eq, decide_eq_false_iff_not, Bool.not_eq_true', Bool.not_eq_false', Bool.not_true, Bool.not_false] at b11
      have b11' : 12 < S.length := by omega
      refine EvL.seq ?_
      refine EvL.region ?_
      refine Rn.val (St.assign rfl) rfl ?_
      refine Rn.done (.cons 4 _ .nil) ⟨⟨rfl, rfl⟩, trivial⟩ ?_
      refine thenL_normal ?_
      refine EvL.ret ?_
      refine blockL_ret ?_
      refine thenL_ret ?_
      refine endL_ret rfl ?_
      exact ⟨by unfold checkE; rw [if_neg (by simpa using b7), if_pos b11']; rfl, KB.kept hw⟩
    · try simp only [decide_eq_true_eq, decide_eq_false_iff_not, Bool.not_eq_true', Bool.not_eq_false', Bool.not_true, Bool.not_false] at b11
      have b11q : ¬ 12 < S.length := by omega
      refine EvL.skip ?_
      refine blockL_normal ?_
      refine thenL_normal ?_
      refine EvL.seq ?_
      refine EvL.seq ?_
      refine EvL.region ?_
      refine Rn.val (St.move rfl) rfl ?_
      refine Rn.val (St.len rfl (p.len u22)) rfl ?_
      refine Rn.val (St.move rfl) rfl ?_
      refine Rn.done (.cons 0 _ (.cons 15 _ (.cons 16 _ (.cons 17 _ .nil)))) ⟨⟨rfl, rfl⟩, ⟨rfl, rfl⟩, ⟨rfl, rfl⟩, ⟨rfl, rfl⟩, trivial⟩ ?_
      refine thenL_normal ?_
      refine EvL.block ?_
      refine EvL.loop (fun m L h' => ∃ i : Nat, i ≤ S.length ∧ m = S.length - i ∧ L = (.cons 0 (I n) (.cons 15 v (.cons 16 (I S.length) (.cons 17 (I i) .nil)))) ∧ KeepB h.next h h' ∧ checkE n S = chk n (S.drop i)) (m := S.length) ?_ ?_
      · exact ⟨0, Nat.zero_le _, rfl, rfl, KB, by unfold checkE; rw [if_neg (by simpa using b7), if_neg b11q]; rfl⟩
      rintro m L hL0 ⟨i, hi, rfl, rfl, KB, hE⟩
      refine EvL.seq ?_
      refine EvL.region ?_
      refine Rn.val (St.lss rfl rfl) rfl ?_
      refine Rn.done (.cons 0 _ (.cons 15 _ (.cons 16 _ (.cons 17 _ (.cons 18 _ .nil))))) ⟨⟨rfl, rfl⟩, ⟨rfl, rfl⟩, ⟨rfl, rfl⟩, ⟨rfl, rfl⟩, ⟨rfl, rfl⟩, trivial⟩ ?_
      refine thenL_normal ?_
      refine EvL.seq ?_
      refine EvL.cond rfl (fun b18 => ?_) (fun b18 => ?_)
      · try simp only [decide_eq_true_eq, decide_eq_false_iff_not, Bool.not_eq_true', Bool.not_eq_false', Bool.not_true, Bool.not_false] at b18
        have hlt : i < S.length := by omega
        have hE2 := hE
        rw [chk_drop hlt] at hE2
        refine EvL.skip ?_
        refine thenL_normal ?_
        refine EvL.seq ?_
        refine EvL.block ?_
        refine EvL.seq ?_
        refine EvL.region ?_
        refine Rn.val (St.indexAddr rfl rfl (p.addr u22 sz44 hlt)) rfl ?_
        refine Rn.val (St.load rfl (Pairs.at (p.kb hw KB) sh44 hlt)) rfl ?_
        obtain ⟨h6, e6, k6, x6, n6⟩ := alloc_store (P := Try.prog) (t := 44) (zs := zs44) (vs := [I S[i].1, I S[i].2]) (a := .agg [I S[i].1, I S[i].2]) (KB).wf sz44 rfl rfl rfl rfl
        refine Rn.val (St.alloc (allocA_of zero44 rfl)) rfl ?_
        refine Rn.val (St.store rfl rfl e6) rfl ?_
        have KB := KB.trans k6.keepB
        refine Rn.done (.cons 0 _ (.cons 6 _ (.cons 15 _ (.cons 16 _ (.cons 17 _ .nil))))) ⟨⟨rfl, rfl⟩, ⟨rfl, rfl⟩, ⟨rfl, rfl⟩, ⟨rfl, rfl⟩, ⟨rfl, rfl⟩, trivial⟩ ?_
        refine thenL_normal ?_
        refine EvL.block ?_
        refine EvL.seq ?_
        refine EvL.region ?_
        refine Rn.val (St.indexAddr rfl rfl (arr_addr 0 u44 sz3 (by omega))) rfl ?_
        refine Rn.val (St.load rfl (x6.load1 sh3 rfl)) rfl ?_
        refine Rn.val (St.indexAddr rfl rfl (arr_addr 1 u44 sz3 (by omega))) rfl ?_
        refine Rn.val (St.load rfl (x6.load1 sh3 rfl)) rfl ?_
        refine Rn.val (St.min2 rfl rfl) rfl ?_
        refine Rn.val (St.move rfl) rfl ?_
        refine Rn.val (St.sub rfl rfl (by omega) (by omega)) rfl ?_
        refine Rn.call rfl rfl rfl (between_cl hO _ _ _) fun v29 h29 c29 => ?_
        obtain ⟨rfl, rfl⟩ := c29
        refine Rn.val (St.not rfl) rfl ?_
        refine Rn.val (St.move rfl) rfl ?_
        refine Rn.split (tg := 31) rfl (fun g31 => ?_) (fun g31 => ?_)
        · try simp only [decide_eq_true_eq, decide_eq_false_iff_not, Bool.not_eq_true', Bool.not_eq_false', Bool.not_true, Bool.not_false] at g31
          refine Rn.guardF (tg := 31) rfl rfl rfl rfl ?_
          refine Rn.guardF (tg := 31) rfl rfl rfl rfl ?_
          refine Rn.guardF (tg := 31) rfl rfl rfl rfl ?_
          refine Rn.guardF (tg := 31) rfl rfl rfl rfl ?_
          refine Rn.guardF (tg := 31) rfl rfl rfl rfl ?_
          refine Rn.guardF (tg := 31) rfl rfl rfl rfl ?_
          refine Rn.guardF (tg := 31) rfl rfl rfl rfl ?_
          refine Rn.val (St.pickT rfl rfl rfl) rfl ?_
          refine Rn.val (St.assign rfl) rfl ?_
          refine Rn.done (.cons 0 _ (.cons 6 _ (.cons 15 _ (.cons 16 _ (.cons 17 _ (.cons 21 _ .nil)))))) ⟨⟨rfl, rfl⟩, ⟨rfl, rfl⟩, ⟨rfl, rfl⟩, ⟨rfl, rfl⟩, ⟨rfl, rfl⟩, ⟨rfl, rfl⟩, trivial⟩ ?_
          refine thenL_normal ?_
          refine EvL.condT rfl ?_
          refine EvL.seq ?_
          refine EvL.region ?_
          refine Rn.val (St.assign rfl) rfl ?_
          refine Rn.done (.cons 4 _ .nil) ⟨⟨rfl, rfl⟩, trivial⟩ ?_
          refine thenL_normal ?_
          refine EvL.ret ?_
          refine blockL_ret ?_
          refine blockL_ret ?_
          refine thenL_ret ?_
          refine thenL_ret ?_
          refine blockL_ret ?_
          refine thenL_ret ?_
          refine endL_ret rfl ?_
          have hb : badF n S[i] = 2 := by unfold badF; rw [if_pos (by omega)]
          exact ⟨by rw [hE2, hb]; rfl, KB.kept hw⟩
        · try simp only [decide_eq_true_eq, decide_eq_false_iff_not, Bool.not_eq_true', Bool.not_eq_false', Bool.not_true, Bool.not_false] at g31
          refine Rn.guardT (tg := 31) rfl rfl ?_
          refine Rn.val (St.indexAddr rfl rfl (arr_addr 0 u44 sz3 (by omega))) rfl ?_
          refine Rn.guardT (tg := 31) rfl rfl ?_
          refine Rn.val (St.load rfl (x6.load1 sh3 rfl)) rfl ?_
          refine Rn.guardT (tg := 31) rfl rfl ?_
          refine Rn.val (St.indexAddr rfl rfl (arr_addr 1 u44 sz3 (by omega))) rfl ?_
          refine Rn.guardT (tg := 31) rfl rfl ?_
          refine Rn.val (St.load rfl (x6.load1 sh3 rfl)) rfl ?_
          refine Rn.guardT (tg := 31) rfl rfl ?_
          refine Rn.val (St.max2 rfl rfl) rfl ?_
          refine Rn.guardT (tg := 31) rfl rfl ?_
          refine Rn.val (St.move rfl) rfl ?_
          refine Rn.guardT (tg := 31) rfl rfl ?_
          refine Rn.val (St.geq rfl rfl) rfl ?_
          refine Rn.val (St.pickF rfl rfl rfl) rfl ?_
          refine Rn.val (St.assign rfl) rfl ?_
          refine Rn.done (.cons 0 _ (.cons 6 _ (.cons 15 _ (.cons 16 _ (.cons 17 _ (.cons 21 _ .nil)))))) ⟨⟨rfl, rfl⟩, ⟨rfl, rfl⟩, ⟨rfl, rfl⟩, ⟨rfl, rfl⟩, ⟨rfl, rfl⟩, ⟨rfl, rfl⟩, trivial⟩ ?_
          refine thenL_normal ?_
          refine EvL.cond rfl (fun b21 => ?_) (fun b21 => ?_)
          · try simp only [decide_eq_true_eq, decide_eq_false_iff_not, Bool.not_eq_true', Bool.not_eq_false', Bool.not_true, Bool.not_false] at b21
            refine EvL.seq ?_
            refine EvL.region ?_
            refine Rn.val (St.assign rfl) rfl ?_
            refine Rn.done (.cons 4 _ .nil) ⟨⟨rfl, rfl⟩, trivial⟩ ?_
            refine thenL_normal ?_
            refine EvL.ret ?_
            refine blockL_ret ?_
            refine blockL_ret ?_
            refine thenL_ret ?_
            refine thenL_ret ?_
            refine blockL_ret ?_
            refine thenL_ret ?_
            refine endL_ret rfl ?_
            have hb : badF n S[i] = 2 := by unfold badF; rw [if_pos (by omega)]
            exact ⟨by rw [hE2, hb]; rfl, KB.kept hw⟩
          · try simp only [decide_eq_true_eq, decide_eq_false_iff_not, Bool.not_eq_true', Bool.not_eq_false', Bool.not_true, Bool.not_false] at b21
            refine EvL.seq ?_
            refine EvL.region ?_
            refine Rn.val (St.indexAddr rfl rfl (arr_addr 0 u44 sz3 (by omega))) rfl ?_
            refine Rn.val (St.load rfl (x6.load1 sh3 rfl)) rfl ?_
            refine Rn.val (St.indexAddr rfl rfl (arr_addr 1 u44 sz3 (by omega))) rfl ?_
            refine Rn.val (St.load rfl (x6.load1 sh3 rfl)) rfl ?_
            refine Rn.val (St.eql rfl rfl) rfl ?_
            refine Rn.val (St.assign rfl) rfl ?_
            refine Rn.done (.cons 0 _ (.cons 15 _ (.cons 16 _ (.cons 17 _ (.cons 40 _ .nil))))) ⟨⟨rfl, rfl⟩, ⟨rfl, rfl⟩, ⟨rfl, rfl⟩, ⟨rfl, rfl⟩, ⟨rfl, rfl⟩, trivial⟩ ?_
            refine thenL_normal ?_
            refine EvL.cond rfl (fun b40 => ?_) (fun b40 => ?_)
            · try simp only [decide_eq_true_eq, decide_eq_false_iff_not, Bool.not_eq_true', Bool.not_eq_false', Bool.not_true, Bool.not_false] at b40
              refine EvL.seq ?_
              refine EvL.region ?_
              refine Rn.val (St.assign rfl) rfl ?_
              refine Rn.done (.cons 4 _ .nil) ⟨⟨rfl, rfl⟩, trivial⟩ ?_
              refine thenL_normal ?_
              refine EvL.ret ?_
              refine blockL_ret ?_
              refine blockL_ret ?_
              refine thenL_ret ?_
              refine thenL_ret ?_
              refine blockL_ret ?_
              refine thenL_ret ?_
              refine endL_ret rfl ?_
              have hb : badF n S[i] = 13 := by unfold badF; rw [if_neg (by omega), if_pos b40]
              exact ⟨by rw [hE2, hb]; rfl, KB.kept hw⟩
            · try simp only [decide_eq_true_eq, decide_eq_false_iff_not, Bool.not_eq_true', Bool.not_eq_false', Bool.not_true, Bool.not_false] at b40
              refine EvL.skip ?_
              refine blockL_normal ?_
              refine blockL_normal ?_
              refine thenL_normal ?_
              refine EvL.region ?_
              refine Rn.val (St.add rfl rfl (by omega) (by omega)) rfl ?_
              refine Rn.val (St.move rfl) rfl ?_
              refine Rn.done (.cons 0 _ (.cons 15 _ (.cons 16 _ (.cons 17 _ .nil)))) ⟨⟨rfl, rfl⟩, ⟨rfl, rfl⟩, ⟨rfl, rfl⟩, ⟨rfl, rfl⟩, trivial⟩ ?_
              exact ⟨S.length - (i + 1), by omega, i + 1, hlt, rfl, rfl, KB, by rw [hE2, if_pos (by unfold badF; rw [if_neg (by omega), if_neg b40])]⟩
      · try simp only [decide_eq_true_eq, decide_eq_false_iff_not, Bool.not_eq_true', Bool.not_eq_false', Bool.not_true, Bool.not_false] at b18
        have he : i = S.length := by omega
        subst he
        refine EvL.exit ?_
        refine thenL_exit ?_
        refine thenL_exit ?_
        refine blockL_exit ?_
        refine thenL_normal ?_
        refine EvL.seq ?_
        refine EvL.region ?_
        refine Rn.val (St.assign rfl) rfl ?_
        refine Rn.done (.cons 4 _ .nil) ⟨⟨rfl, rfl⟩, trivial⟩ ?_
        refine thenL_normal ?_
        refine EvL.ret ?_
        refine endL_ret rfl ?_
        exact ⟨by rw [hE]; simp [chk, finL], KB.kept hw⟩

end
end
end Go.Proofs.Ytkhnkkbpibpaaaa.Rg
