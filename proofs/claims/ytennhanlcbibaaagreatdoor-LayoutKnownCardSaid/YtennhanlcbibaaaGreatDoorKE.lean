/- The calls that the example makes, each run by the kernel. -/
import Derived.Test.YtennhanlcbibaaaGreatDoorKD
set_option maxRecDepth 100000
namespace Go.Proofs.YtennhanlcbibaaaGreatDoor
open Go Go.Proofs.YtennhanlcbibaaaGreatDoor.Lb

theorem ktl58 : isTail Tryz.prog (kcfg km57) 100000 Tryz.f9 (restC 4 (bodyA Tryz.prog 9)) kT58 kH58 kD58 (kv75) = true := by decide +kernel
theorem k58 : Known Tryz.prog 9 ka74 (kv75) := known_split (K := kcfg km57) hm ko57 kf58 (by decide +kernel) (by decide +kernel) (by decide +kernel) (by decide +kernel) khd58 ktl58
def km58 : List (FuncId × List AVal × AVal) := (9, ka74, kv75) :: km57
theorem ko58 : MemoOk Tryz.prog km58 := memoOk_cons k58 ko57
/-- linkboy/light.Sky -/
theorem k59 : Known Tryz.prog 79 ka9 (.tuple [.int .i64 80, .int .i64 0]) := known_ofF (K := kcfg km58) hm ko58 (m := 100000) (by decide +kernel)
def km59 : List (FuncId × List AVal × AVal) := (79, ka9, .tuple [.int .i64 80, .int .i64 0]) :: km58
theorem ko59 : MemoOk Tryz.prog km59 := memoOk_cons k59 ko58
/-- linkboy/layout.Why -/
theorem k60 : Known Tryz.prog 7 ka13 (kv22) := known_ofF (K := kcfg km59) hm ko59 (m := 100000) (by decide +kernel)
def km60 : List (FuncId × List AVal × AVal) := (7, ka13, kv22) :: km59
theorem ko60 : MemoOk Tryz.prog km60 := memoOk_cons k60 ko59
def ka80 : List AVal := [.agg [.imm 6 [.agg [.str ⟨#[119, 105, 100, 101]⟩, .imm 1 [.int .i64 (-1000), .int .i64 0, .int .i64 2000] false, .imm 1 [.int .i64 (-1000), .int .i64 1000] false, .imm 1 [.imm 1 [.int .i64 100, .int .i64 300] false, .imm 1 [.int .i64 200, .int .i64 600] false, .imm 1 [.int .i64 0, .int .i64 100] false] false, .int .i64 50, .int .i64 5], .agg [.str ⟨#[97, 115, 112, 104, 97, 108, 116]⟩, .imm 1 [.int .i64 (-5000), .int .i64 5000] false, .imm 1 [.int .i64 (-5000), .int .i64 5000] false, .imm 1 [.imm 1 [.int .i64 700, .int .i64 700] false, .imm 1 [.int .i64 700, .int .i64 700] false] false, .int .i64 0, .int .i64 0]] false, .imm 14 [.agg [.str ⟨#[104, 101, 97, 100]⟩, .int .i64 0, .int .i64 1, .int .i64 8000, .int .i64 60000, .int .i64 500, .int .i64 50, .int .i64 2, .int .i64 4, .int .i64 3, .int .i64 5, .int .i64 100000, .int .i64 200, .int .i64 0]] false, .int .i64 1, .imm 4 [.agg [.str ⟨#[104, 105, 103, 104]⟩, .int .i64 0, .imm 2 [.agg [.int .i64 0, .int .i64 0], .agg [.int .i64 10000, .int .i64 0], .agg [.int .i64 10000, .int .i64 10000]] false, .int .i64 4000]] false, .imm 0 [] true, .imm 0 [] true, .imm 0 [] true, .imm 0 [] true, .imm 0 [] true, .imm 5 [.agg [.bool false, .int .i64 0, .int .i64 0, .int .i64 0, .int .i64 1], .agg [.bool false, .int .i64 10000, .int .i64 0, .int .i64 0, .int .i64 1], .agg [.bool true, .int .i64 5000, .int .i64 0, .int .i64 0, .int .i64 1]] false, .imm 2 [.agg [.int .i64 80, .int .i64 1000], .agg [.int .i64 60, .int .i64 800]] false, .imm 4 [.agg [.int .i64 0, .int .i64 500, .int .i64 0, .int .i64 0]] false, .imm 1 [.int .i64 500, .int .i64 1000] false, .int .i64 1, .imm 0 [] true, .int .i64 200, .int .i64 0, .int .i64 1, .int .i64 1000, .int .i64 10], .agg [.int .i64 0, .int .i64 0, .int .i64 1, .int .i64 2, .int .i64 1]]
/-- linkboy/layout.Value -/
theorem k61 : Known Tryz.prog 6 ka80 (.tuple [.int .i64 0, .int .i64 4]) := known_ofF (K := kcfg km60) hm ko60 (m := 100000) (by decide +kernel)
def km61 : List (FuncId × List AVal × AVal) := (6, ka80, .tuple [.int .i64 0, .int .i64 4]) :: km60
theorem ko61 : MemoOk Tryz.prog km61 := memoOk_cons k61 ko60
def ka81 : List AVal := [.agg [.imm 6 [.agg [.str ⟨#[119, 105, 100, 101]⟩, .imm 1 [.int .i64 (-1000), .int .i64 0, .int .i64 2000] false, .imm 1 [.int .i64 (-1000), .int .i64 1000] false, .imm 1 [.imm 1 [.int .i64 100, .int .i64 300] false, .imm 1 [.int .i64 200, .int .i64 600] false, .imm 1 [.int .i64 0, .int .i64 100] false] false, .int .i64 50, .int .i64 5], .agg [.str ⟨#[97, 115, 112, 104, 97, 108, 116]⟩, .imm 1 [.int .i64 (-5000), .int .i64 5000] false, .imm 1 [.int .i64 (-5000), .int .i64 5000] false, .imm 1 [.imm 1 [.int .i64 700, .int .i64 700] false, .imm 1 [.int .i64 700, .int .i64 700] false] false, .int .i64 0, .int .i64 0]] false, .imm 14 [.agg [.str ⟨#[104, 101, 97, 100]⟩, .int .i64 0, .int .i64 1, .int .i64 8000, .int .i64 60000, .int .i64 500, .int .i64 50, .int .i64 2, .int .i64 4, .int .i64 3, .int .i64 5, .int .i64 100000, .int .i64 200, .int .i64 0]] false, .int .i64 1, .imm 4 [.agg [.str ⟨#[104, 105, 103, 104]⟩, .int .i64 0, .imm 2 [.agg [.int .i64 0, .int .i64 0], .agg [.int .i64 10000, .int .i64 0], .agg [.int .i64 10000, .int .i64 10000]] false, .int .i64 4000]] false, .imm 0 [] true, .imm 0 [] true, .imm 0 [] true, .imm 0 [] true, .imm 0 [] true, .imm 5 [.agg [.bool false, .int .i64 0, .int .i64 0, .int .i64 0, .int .i64 1], .agg [.bool false, .int .i64 10000, .int .i64 0, .int .i64 0, .int .i64 1], .agg [.bool true, .int .i64 5000, .int .i64 0, .int .i64 0, .int .i64 1]] false, .imm 2 [.agg [.int .i64 80, .int .i64 1000], .agg [.int .i64 60, .int .i64 800]] false, .imm 4 [.agg [.int .i64 0, .int .i64 500, .int .i64 0, .int .i64 0]] false, .imm 1 [.int .i64 500, .int .i64 1000] false, .int .i64 1, .imm 0 [] true, .int .i64 200, .int .i64 0, .int .i64 3, .int .i64 1000, .int .i64 10]]
/-- linkboy/layout.Check -/
theorem k62 : Known Tryz.prog 22 ka81 (.tuple [.int .i64 8, .int .i64 0, .int .i64 2]) := known_ofF (K := kcfg km61) hm ko61 (m := 100000) (by decide +kernel)
def km62 : List (FuncId × List AVal × AVal) := (22, ka81, .tuple [.int .i64 8, .int .i64 0, .int .i64 2]) :: km61
theorem ko62 : MemoOk Tryz.prog km62 := memoOk_cons k62 ko61
/-- linkboy/linkboylaw05.Awake -/
theorem k63 : Known Tryz.prog 10 [] (.bool true) := known_ofF (K := kcfg km62) hm ko62 (m := 100000) (by decide +kernel)
def km63 : List (FuncId × List AVal × AVal) := (10, [], .bool true) :: km62
theorem ko63 : MemoOk Tryz.prog km63 := memoOk_cons k63 ko62
theorem kroot : Known Tryz.prog 3 [] (.bool true) := known_ofF (K := kcfg km63) hm ko63 (m := 100000) (by decide +kernel)
end Go.Proofs.YtennhanlcbibaaaGreatDoor
