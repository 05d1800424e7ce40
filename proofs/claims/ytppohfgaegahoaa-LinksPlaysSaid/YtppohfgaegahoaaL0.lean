/- What every walk of this seat needs of the program's functions. -/
import Derived.Test.YtppohfgaegahoaaChecked
import Derived.Test.YtppohfgaegahoaaTwh
namespace Go.Proofs.Ytppohfgaegahoaa
open Go.Tw
theorem mixed : Try.prog.follows .mixedOrders = true := by kernel_rfl
theorem ent3 : Ent Try.prog 3 := ent_of Try.func3 (by kernel_rfl) rfl
theorem ent4 : Ent Try.prog 4 := ent_of Try.func4 (by kernel_rfl) rfl
theorem ent5 : Ent Try.prog 5 := ent_of Try.func5 (by kernel_rfl) rfl
theorem ent6 : Ent Try.prog 6 := ent_of Try.func6 (by kernel_rfl) rfl
theorem ent7 : Ent Try.prog 7 := ent_of Try.func7 (by kernel_rfl) rfl
theorem ent8 : Ent Try.prog 8 := ent_of Try.func8 (by kernel_rfl) rfl
theorem ent9 : Ent Try.prog 9 := ent_of Try.func9 (by kernel_rfl) rfl
theorem ent10 : Ent Try.prog 10 := ent_of Try.func10 (by kernel_rfl) rfl
theorem ent11 : Ent Try.prog 11 := ent_of Try.func11 (by kernel_rfl) rfl
theorem ent12 : Ent Try.prog 12 := ent_of Try.func12 (by kernel_rfl) rfl
theorem ent13 : Ent Try.prog 13 := ent_of Try.func13 (by kernel_rfl) rfl
theorem ent14 : Ent Try.prog 14 := ent_of Try.func14 (by kernel_rfl) rfl
theorem ent15 : Ent Try.prog 15 := ent_of Try.func15 (by kernel_rfl) rfl
theorem ent16 : Ent Try.prog 16 := ent_of Try.func16 (by kernel_rfl) rfl
theorem ent17 : Ent Try.prog 17 := ent_of Try.func17 (by kernel_rfl) rfl
theorem ent18 : Ent Try.prog 18 := ent_of Try.func18 (by kernel_rfl) rfl
theorem ent19 : Ent Try.prog 19 := ent_of Try.func19 (by kernel_rfl) rfl
theorem ent20 : Ent Try.prog 20 := ent_of Try.func20 (by kernel_rfl) rfl
theorem ent21 : Ent Try.prog 21 := ent_of Try.func21 (by kernel_rfl) rfl
theorem ent22 : Ent Try.prog 22 := ent_of Try.func22 (by kernel_rfl) rfl
theorem ent23 : Ent Try.prog 23 := ent_of Try.func23 (by kernel_rfl) rfl
theorem ent24 : Ent Try.prog 24 := ent_of Try.func24 (by kernel_rfl) rfl
theorem ent25 : Ent Try.prog 25 := ent_of Try.func25 (by kernel_rfl) rfl
theorem ent26 : Ent Try.prog 26 := ent_of Try.func26 (by kernel_rfl) rfl
theorem ent27 : Ent Try.prog 27 := ent_of Try.func27 (by kernel_rfl) rfl
theorem ent28 : Ent Try.prog 28 := ent_of Try.func28 (by kernel_rfl) rfl
theorem ent29 : Ent Try.prog 29 := ent_of Try.func29 (by kernel_rfl) rfl
theorem ent30 : Ent Try.prog 30 := ent_of Try.func30 (by kernel_rfl) rfl
theorem ent31 : Ent Try.prog 31 := ent_of Try.func31 (by kernel_rfl) rfl
theorem ent32 : Ent Try.prog 32 := ent_of Try.func32 (by kernel_rfl) rfl
theorem ent33 : Ent Try.prog 33 := ent_of Try.func33 (by kernel_rfl) rfl
theorem ent34 : Ent Try.prog 34 := ent_of Try.func34 (by kernel_rfl) rfl
theorem ent35 : Ent Try.prog 35 := ent_of Try.func35 (by kernel_rfl) rfl
theorem ent36 : Ent Try.prog 36 := ent_of Try.func36 (by kernel_rfl) rfl
theorem ent37 : Ent Try.prog 37 := ent_of Try.func37 (by kernel_rfl) rfl
theorem ent38 : Ent Try.prog 38 := ent_of Try.func38 (by kernel_rfl) rfl
theorem ent39 : Ent Try.prog 39 := ent_of Try.func39 (by kernel_rfl) rfl
theorem ent40 : Ent Try.prog 40 := ent_of Try.func40 (by kernel_rfl) rfl
theorem ent41 : Ent Try.prog 41 := ent_of Try.func41 (by kernel_rfl) rfl
theorem ent42 : Ent Try.prog 42 := ent_of Try.func42 (by kernel_rfl) rfl
theorem ent43 : Ent Try.prog 43 := ent_of Try.func43 (by kernel_rfl) rfl
theorem ent44 : Ent Try.prog 44 := ent_of Try.func44 (by kernel_rfl) rfl
theorem ent45 : Ent Try.prog 45 := ent_of Try.func45 (by kernel_rfl) rfl
theorem ent46 : Ent Try.prog 46 := ent_of Try.func46 (by kernel_rfl) rfl
theorem ent47 : Ent Try.prog 47 := ent_of Try.func47 (by kernel_rfl) rfl
theorem ent48 : Ent Try.prog 48 := ent_of Try.func48 (by kernel_rfl) rfl
theorem ent49 : Ent Try.prog 49 := ent_of Try.func49 (by kernel_rfl) rfl
theorem ent50 : Ent Try.prog 50 := ent_of Try.func50 (by kernel_rfl) rfl
theorem ent51 : Ent Try.prog 51 := ent_of Try.func51 (by kernel_rfl) rfl
theorem ent52 : Ent Try.prog 52 := ent_of Try.func52 (by kernel_rfl) rfl
theorem ent53 : Ent Try.prog 53 := ent_of Try.func53 (by kernel_rfl) rfl
theorem ent54 : Ent Try.prog 54 := ent_of Try.func54 (by kernel_rfl) rfl
theorem ent55 : Ent Try.prog 55 := ent_of Try.func55 (by kernel_rfl) rfl
theorem ent56 : Ent Try.prog 56 := ent_of Try.func56 (by kernel_rfl) rfl
theorem ent57 : Ent Try.prog 57 := ent_of Try.func57 (by kernel_rfl) rfl
theorem ent58 : Ent Try.prog 58 := ent_of Try.func58 (by kernel_rfl) rfl
theorem ent59 : Ent Try.prog 59 := ent_of Try.func59 (by kernel_rfl) rfl
theorem ent60 : Ent Try.prog 60 := ent_of Try.func60 (by kernel_rfl) rfl
theorem ent61 : Ent Try.prog 61 := ent_of Try.func61 (by kernel_rfl) rfl
theorem ent62 : Ent Try.prog 62 := ent_of Try.func62 (by kernel_rfl) rfl
theorem ent63 : Ent Try.prog 63 := ent_of Try.func63 (by kernel_rfl) rfl
theorem ent64 : Ent Try.prog 64 := ent_of Try.func64 (by kernel_rfl) rfl
theorem ent65 : Ent Try.prog 65 := ent_of Try.func65 (by kernel_rfl) rfl
theorem ent66 : Ent Try.prog 66 := ent_of Try.func66 (by kernel_rfl) rfl
theorem ent67 : Ent Try.prog 67 := ent_of Try.func67 (by kernel_rfl) rfl
theorem ent68 : Ent Try.prog 68 := ent_of Try.func68 (by kernel_rfl) rfl
theorem ent69 : Ent Try.prog 69 := ent_of Try.func69 (by kernel_rfl) rfl
theorem ent70 : Ent Try.prog 70 := ent_of Try.func70 (by kernel_rfl) rfl
theorem ent71 : Ent Try.prog 71 := ent_of Try.func71 (by kernel_rfl) rfl
end Go.Proofs.Ytppohfgaegahoaa
