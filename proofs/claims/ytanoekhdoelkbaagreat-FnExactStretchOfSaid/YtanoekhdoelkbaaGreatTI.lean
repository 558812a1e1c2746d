/- The types of the program, as far as the walks look into them. -/
import Derived.Test.YtanoekhdoelkbaaGreatProg
import Derived.Test.YtanoekhdoelkbaaGreatKd
set_option linter.unusedSimpArgs false
set_option linter.unusedVariables false
namespace Go.Proofs
open Go Go.Proofs.Qqz
theorem Tryz.ti3 : tiOf Tryz.prog 3 = some ⟨false, 1, 8, [.int .i64 0], none, [], some .i64, false⟩ := by kernel_rfl
theorem Tryz.w3 (K : TI → Prop) : withTI Tryz.prog 3 K = K ⟨false, 1, 8, [.int .i64 0], none, [], some .i64, false⟩ := withTI_of Tryz.ti3 K
theorem Tryz.ti4 : tiOf Tryz.prog 4 = some ⟨false, 1, 1, [.bool false], none, [], none, false⟩ := by kernel_rfl
theorem Tryz.w4 (K : TI → Prop) : withTI Tryz.prog 4 K = K ⟨false, 1, 1, [.bool false], none, [], none, false⟩ := withTI_of Tryz.ti4 K
theorem Tryz.ti5 : tiOf Tryz.prog 5 = some ⟨false, 1, 1, [.int .u8 0], none, [], some .u8, false⟩ := by kernel_rfl
theorem Tryz.w5 (K : TI → Prop) : withTI Tryz.prog 5 K = K ⟨false, 1, 1, [.int .u8 0], none, [], some .u8, false⟩ := withTI_of Tryz.ti5 K
theorem Tryz.ti9 : tiOf Tryz.prog 9 = some ⟨false, 1, 16, [.string ⟨#[]⟩], none, [], none, true⟩ := by kernel_rfl
theorem Tryz.w9 (K : TI → Prop) : withTI Tryz.prog 9 K = K ⟨false, 1, 16, [.string ⟨#[]⟩], none, [], none, true⟩ := withTI_of Tryz.ti9 K
theorem Tryz.ti15 : tiOf Tryz.prog 15 = some ⟨false, 1, 8, [.pointer none], none, [], none, false⟩ := by kernel_rfl
theorem Tryz.w15 (K : TI → Prop) : withTI Tryz.prog 15 K = K ⟨false, 1, 8, [.pointer none], none, [], none, false⟩ := withTI_of Tryz.ti15 K
theorem Tryz.ti16 : tiOf Tryz.prog 16 = some ⟨false, 1, 8, [.pointer none], none, [], none, false⟩ := by kernel_rfl
theorem Tryz.w16 (K : TI → Prop) : withTI Tryz.prog 16 K = K ⟨false, 1, 8, [.pointer none], none, [], none, false⟩ := withTI_of Tryz.ti16 K
theorem Tryz.ti17 : tiOf Tryz.prog 17 = some ⟨false, 1, 8, [.pointer none], none, [], none, false⟩ := by kernel_rfl
theorem Tryz.w17 (K : TI → Prop) : withTI Tryz.prog 17 K = K ⟨false, 1, 8, [.pointer none], none, [], none, false⟩ := withTI_of Tryz.ti17 K
theorem Tryz.ti18 : tiOf Tryz.prog 18 = some ⟨true, 1, 8, [.pointer none], none, [(0, 17)], none, false⟩ := by kernel_rfl
theorem Tryz.w18 (K : TI → Prop) : withTI Tryz.prog 18 K = K ⟨true, 1, 8, [.pointer none], none, [(0, 17)], none, false⟩ := withTI_of Tryz.ti18 K
theorem Tryz.ti19 : tiOf Tryz.prog 19 = some ⟨true, 1, 8, [.pointer none], none, [(0, 17)], none, false⟩ := by kernel_rfl
theorem Tryz.w19 (K : TI → Prop) : withTI Tryz.prog 19 K = K ⟨true, 1, 8, [.pointer none], none, [(0, 17)], none, false⟩ := withTI_of Tryz.ti19 K
theorem Tryz.ti21 : tiOf Tryz.prog 21 = some ⟨false, 1, 4, [.int .i32 0], none, [], some .i32, false⟩ := by kernel_rfl
theorem Tryz.w21 (K : TI → Prop) : withTI Tryz.prog 21 K = K ⟨false, 1, 4, [.int .i32 0], none, [], some .i32, false⟩ := withTI_of Tryz.ti21 K
theorem Tryz.ti22 : tiOf Tryz.prog 22 = some ⟨false, 1, 24, [.slice none 0 0], some 121, [], none, false⟩ := by kernel_rfl
theorem Tryz.w22 (K : TI → Prop) : withTI Tryz.prog 22 K = K ⟨false, 1, 24, [.slice none 0 0], some 121, [], none, false⟩ := withTI_of Tryz.ti22 K
theorem Tryz.ti23 : tiOf Tryz.prog 23 = some ⟨false, 1, 24, [.slice none 0 0], some 129, [], none, false⟩ := by kernel_rfl
theorem Tryz.w23 (K : TI → Prop) : withTI Tryz.prog 23 K = K ⟨false, 1, 24, [.slice none 0 0], some 129, [], none, false⟩ := withTI_of Tryz.ti23 K
theorem Tryz.ti24 : tiOf Tryz.prog 24 = some ⟨true, 2, 48, [.slice none 0 0, .slice none 0 0], none, [(0, 22), (1, 23)], none, false⟩ := by kernel_rfl
theorem Tryz.w24 (K : TI → Prop) : withTI Tryz.prog 24 K = K ⟨true, 2, 48, [.slice none 0 0, .slice none 0 0], none, [(0, 22), (1, 23)], none, false⟩ := withTI_of Tryz.ti24 K
theorem Tryz.ti25 : tiOf Tryz.prog 25 = some ⟨true, 2, 48, [.slice none 0 0, .slice none 0 0], none, [(0, 22), (1, 23)], none, false⟩ := by kernel_rfl
theorem Tryz.w25 (K : TI → Prop) : withTI Tryz.prog 25 K = K ⟨true, 2, 48, [.slice none 0 0, .slice none 0 0], none, [(0, 22), (1, 23)], none, false⟩ := withTI_of Tryz.ti25 K
theorem Tryz.ti26 : tiOf Tryz.prog 26 = some ⟨false, 1, 24, [.slice none 0 0], some 67, [], none, false⟩ := by kernel_rfl
theorem Tryz.w26 (K : TI → Prop) : withTI Tryz.prog 26 K = K ⟨false, 1, 24, [.slice none 0 0], some 67, [], none, false⟩ := withTI_of Tryz.ti26 K
theorem Tryz.ti27 : tiOf Tryz.prog 27 = some ⟨false, 1, 8, [.nilFunc], none, [], none, false⟩ := by kernel_rfl
theorem Tryz.w27 (K : TI → Prop) : withTI Tryz.prog 27 K = K ⟨false, 1, 8, [.nilFunc], none, [], none, false⟩ := withTI_of Tryz.ti27 K
theorem Tryz.ti28 : tiOf Tryz.prog 28 = some ⟨false, 1, 8, [.nilFunc], none, [], none, false⟩ := by kernel_rfl
theorem Tryz.w28 (K : TI → Prop) : withTI Tryz.prog 28 K = K ⟨false, 1, 8, [.nilFunc], none, [], none, false⟩ := withTI_of Tryz.ti28 K
theorem Tryz.ti29 : tiOf Tryz.prog 29 = some ⟨false, 1, 24, [.slice none 0 0], some 56, [], none, false⟩ := by kernel_rfl
theorem Tryz.w29 (K : TI → Prop) : withTI Tryz.prog 29 K = K ⟨false, 1, 24, [.slice none 0 0], some 56, [], none, false⟩ := withTI_of Tryz.ti29 K
theorem Tryz.ti31 : tiOf Tryz.prog 31 = some ⟨false, 1, 8, [.nilFunc], none, [], none, false⟩ := by kernel_rfl
theorem Tryz.w31 (K : TI → Prop) : withTI Tryz.prog 31 K = K ⟨false, 1, 8, [.nilFunc], none, [], none, false⟩ := withTI_of Tryz.ti31 K
theorem Tryz.ti32 : tiOf Tryz.prog 32 = some ⟨false, 1, 24, [.slice none 0 0], some 112, [], none, false⟩ := by kernel_rfl
theorem Tryz.w32 (K : TI → Prop) : withTI Tryz.prog 32 K = K ⟨false, 1, 24, [.slice none 0 0], some 112, [], none, false⟩ := withTI_of Tryz.ti32 K
theorem Tryz.ti33 : tiOf Tryz.prog 33 = some ⟨false, 1, 24, [.slice none 0 0], some 72, [], none, false⟩ := by kernel_rfl
theorem Tryz.w33 (K : TI → Prop) : withTI Tryz.prog 33 K = K ⟨false, 1, 24, [.slice none 0 0], some 72, [], none, false⟩ := withTI_of Tryz.ti33 K
theorem Tryz.ti34 : tiOf Tryz.prog 34 = some ⟨true, 2, 48, [.slice none 0 0, .slice none 0 0], none, [(0, 32), (1, 33)], none, false⟩ := by kernel_rfl
theorem Tryz.w34 (K : TI → Prop) : withTI Tryz.prog 34 K = K ⟨true, 2, 48, [.slice none 0 0, .slice none 0 0], none, [(0, 32), (1, 33)], none, false⟩ := withTI_of Tryz.ti34 K
theorem Tryz.ti35 : tiOf Tryz.prog 35 = some ⟨true, 2, 48, [.slice none 0 0, .slice none 0 0], none, [(0, 32), (1, 33)], none, false⟩ := by kernel_rfl
theorem Tryz.w35 (K : TI → Prop) : withTI Tryz.prog 35 K = K ⟨true, 2, 48, [.slice none 0 0, .slice none 0 0], none, [(0, 32), (1, 33)], none, false⟩ := withTI_of Tryz.ti35 K
theorem Tryz.ti36 : tiOf Tryz.prog 36 = some ⟨false, 1, 8, [.nilFunc], none, [], none, false⟩ := by kernel_rfl
theorem Tryz.w36 (K : TI → Prop) : withTI Tryz.prog 36 K = K ⟨false, 1, 8, [.nilFunc], none, [], none, false⟩ := withTI_of Tryz.ti36 K
theorem Tryz.ti37 : tiOf Tryz.prog 37 = some ⟨false, 1, 8, [.nilFunc], none, [], none, false⟩ := by kernel_rfl
theorem Tryz.w37 (K : TI → Prop) : withTI Tryz.prog 37 K = K ⟨false, 1, 8, [.nilFunc], none, [], none, false⟩ := withTI_of Tryz.ti37 K
theorem Tryz.ti38 : tiOf Tryz.prog 38 = some ⟨false, 1, 8, [.nilFunc], none, [], none, false⟩ := by kernel_rfl
theorem Tryz.w38 (K : TI → Prop) : withTI Tryz.prog 38 K = K ⟨false, 1, 8, [.nilFunc], none, [], none, false⟩ := withTI_of Tryz.ti38 K
theorem Tryz.ti39 : tiOf Tryz.prog 39 = some ⟨false, 1, 8, [.nilFunc], none, [], none, false⟩ := by kernel_rfl
theorem Tryz.w39 (K : TI → Prop) : withTI Tryz.prog 39 K = K ⟨false, 1, 8, [.nilFunc], none, [], none, false⟩ := withTI_of Tryz.ti39 K
theorem Tryz.ti40 : tiOf Tryz.prog 40 = some ⟨false, 1, 8, [.nilFunc], none, [], none, false⟩ := by kernel_rfl
theorem Tryz.w40 (K : TI → Prop) : withTI Tryz.prog 40 K = K ⟨false, 1, 8, [.nilFunc], none, [], none, false⟩ := withTI_of Tryz.ti40 K
theorem Tryz.ti41 : tiOf Tryz.prog 41 = some ⟨false, 1, 8, [.nilFunc], none, [], none, false⟩ := by kernel_rfl
theorem Tryz.w41 (K : TI → Prop) : withTI Tryz.prog 41 K = K ⟨false, 1, 8, [.nilFunc], none, [], none, false⟩ := withTI_of Tryz.ti41 K
theorem Tryz.ti42 : tiOf Tryz.prog 42 = some ⟨false, 1, 8, [.nilFunc], none, [], none, false⟩ := by kernel_rfl
theorem Tryz.w42 (K : TI → Prop) : withTI Tryz.prog 42 K = K ⟨false, 1, 8, [.nilFunc], none, [], none, false⟩ := withTI_of Tryz.ti42 K
theorem Tryz.ti43 : tiOf Tryz.prog 43 = some ⟨false, 1, 24, [.slice none 0 0], some 3, [], none, false⟩ := by kernel_rfl
theorem Tryz.w43 (K : TI → Prop) : withTI Tryz.prog 43 K = K ⟨false, 1, 24, [.slice none 0 0], some 3, [], none, false⟩ := withTI_of Tryz.ti43 K
theorem Tryz.ti44 : tiOf Tryz.prog 44 = some ⟨false, 1, 8, [.nilFunc], none, [], none, false⟩ := by kernel_rfl
theorem Tryz.w44 (K : TI → Prop) : withTI Tryz.prog 44 K = K ⟨false, 1, 8, [.nilFunc], none, [], none, false⟩ := withTI_of Tryz.ti44 K
theorem Tryz.ti45 : tiOf Tryz.prog 45 = some ⟨false, 1, 8, [.nilFunc], none, [], none, false⟩ := by kernel_rfl
theorem Tryz.w45 (K : TI → Prop) : withTI Tryz.prog 45 K = K ⟨false, 1, 8, [.nilFunc], none, [], none, false⟩ := withTI_of Tryz.ti45 K
theorem Tryz.ti46 : tiOf Tryz.prog 46 = some ⟨false, 1, 8, [.nilFunc], none, [], none, false⟩ := by kernel_rfl
theorem Tryz.w46 (K : TI → Prop) : withTI Tryz.prog 46 K = K ⟨false, 1, 8, [.nilFunc], none, [], none, false⟩ := withTI_of Tryz.ti46 K
theorem Tryz.ti47 : tiOf Tryz.prog 47 = some ⟨false, 1, 8, [.nilFunc], none, [], none, false⟩ := by kernel_rfl
theorem Tryz.w47 (K : TI → Prop) : withTI Tryz.prog 47 K = K ⟨false, 1, 8, [.nilFunc], none, [], none, false⟩ := withTI_of Tryz.ti47 K
theorem Tryz.ti48 : tiOf Tryz.prog 48 = some ⟨false, 1, 8, [.nilFunc], none, [], none, false⟩ := by kernel_rfl
theorem Tryz.w48 (K : TI → Prop) : withTI Tryz.prog 48 K = K ⟨false, 1, 8, [.nilFunc], none, [], none, false⟩ := withTI_of Tryz.ti48 K
theorem Tryz.ti49 : tiOf Tryz.prog 49 = some ⟨false, 1, 8, [.nilFunc], none, [], none, false⟩ := by kernel_rfl
theorem Tryz.w49 (K : TI → Prop) : withTI Tryz.prog 49 K = K ⟨false, 1, 8, [.nilFunc], none, [], none, false⟩ := withTI_of Tryz.ti49 K
theorem Tryz.ti50 : tiOf Tryz.prog 50 = some ⟨false, 1, 8, [.nilFunc], none, [], none, false⟩ := by kernel_rfl
theorem Tryz.w50 (K : TI → Prop) : withTI Tryz.prog 50 K = K ⟨false, 1, 8, [.nilFunc], none, [], none, false⟩ := withTI_of Tryz.ti50 K
theorem Tryz.ti51 : tiOf Tryz.prog 51 = some ⟨false, 1, 8, [.nilFunc], none, [], none, false⟩ := by kernel_rfl
theorem Tryz.w51 (K : TI → Prop) : withTI Tryz.prog 51 K = K ⟨false, 1, 8, [.nilFunc], none, [], none, false⟩ := withTI_of Tryz.ti51 K
theorem Tryz.ti52 : tiOf Tryz.prog 52 = some ⟨false, 1, 8, [.nilFunc], none, [], none, false⟩ := by kernel_rfl
theorem Tryz.w52 (K : TI → Prop) : withTI Tryz.prog 52 K = K ⟨false, 1, 8, [.nilFunc], none, [], none, false⟩ := withTI_of Tryz.ti52 K
theorem Tryz.ti53 : tiOf Tryz.prog 53 = some ⟨true, 2, 32, [.bool false, .slice none 0 0], none, [(0, 4), (1, 43)], none, false⟩ := by kernel_rfl
theorem Tryz.w53 (K : TI → Prop) : withTI Tryz.prog 53 K = K ⟨true, 2, 32, [.bool false, .slice none 0 0], none, [(0, 4), (1, 43)], none, false⟩ := withTI_of Tryz.ti53 K
theorem Tryz.ti54 : tiOf Tryz.prog 54 = some ⟨true, 2, 32, [.bool false, .slice none 0 0], none, [(0, 4), (1, 43)], none, false⟩ := by kernel_rfl
theorem Tryz.w54 (K : TI → Prop) : withTI Tryz.prog 54 K = K ⟨true, 2, 32, [.bool false, .slice none 0 0], none, [(0, 4), (1, 43)], none, false⟩ := withTI_of Tryz.ti54 K
theorem Tryz.ti55 : tiOf Tryz.prog 55 = some ⟨true, 3, 56, [.bool false, .slice none 0 0, .slice none 0 0], none, [(0, 54), (2, 43)], none, false⟩ := by kernel_rfl
theorem Tryz.w55 (K : TI → Prop) : withTI Tryz.prog 55 K = K ⟨true, 3, 56, [.bool false, .slice none 0 0, .slice none 0 0], none, [(0, 54), (2, 43)], none, false⟩ := withTI_of Tryz.ti55 K
theorem Tryz.ti56 : tiOf Tryz.prog 56 = some ⟨true, 3, 56, [.bool false, .slice none 0 0, .slice none 0 0], none, [(0, 54), (2, 43)], none, false⟩ := by kernel_rfl
theorem Tryz.w56 (K : TI → Prop) : withTI Tryz.prog 56 K = K ⟨true, 3, 56, [.bool false, .slice none 0 0, .slice none 0 0], none, [(0, 54), (2, 43)], none, false⟩ := withTI_of Tryz.ti56 K
theorem Tryz.ti58 : tiOf Tryz.prog 58 = some ⟨false, 1, 8, [.nilFunc], none, [], none, false⟩ := by kernel_rfl
theorem Tryz.w58 (K : TI → Prop) : withTI Tryz.prog 58 K = K ⟨false, 1, 8, [.nilFunc], none, [], none, false⟩ := withTI_of Tryz.ti58 K
theorem Tryz.ti59 : tiOf Tryz.prog 59 = some ⟨false, 1, 8, [.nilFunc], none, [], none, false⟩ := by kernel_rfl
theorem Tryz.w59 (K : TI → Prop) : withTI Tryz.prog 59 K = K ⟨false, 1, 8, [.nilFunc], none, [], none, false⟩ := withTI_of Tryz.ti59 K
theorem Tryz.ti60 : tiOf Tryz.prog 60 = some ⟨false, 1, 8, [.nilFunc], none, [], none, false⟩ := by kernel_rfl
theorem Tryz.w60 (K : TI → Prop) : withTI Tryz.prog 60 K = K ⟨false, 1, 8, [.nilFunc], none, [], none, false⟩ := withTI_of Tryz.ti60 K
theorem Tryz.ti61 : tiOf Tryz.prog 61 = some ⟨false, 1, 8, [.nilFunc], none, [], none, false⟩ := by kernel_rfl
theorem Tryz.w61 (K : TI → Prop) : withTI Tryz.prog 61 K = K ⟨false, 1, 8, [.nilFunc], none, [], none, false⟩ := withTI_of Tryz.ti61 K
theorem Tryz.ti62 : tiOf Tryz.prog 62 = some ⟨false, 1, 8, [.nilFunc], none, [], none, false⟩ := by kernel_rfl
theorem Tryz.w62 (K : TI → Prop) : withTI Tryz.prog 62 K = K ⟨false, 1, 8, [.nilFunc], none, [], none, false⟩ := withTI_of Tryz.ti62 K
theorem Tryz.ti63 : tiOf Tryz.prog 63 = some ⟨false, 1, 8, [.nilFunc], none, [], none, false⟩ := by kernel_rfl
theorem Tryz.w63 (K : TI → Prop) : withTI Tryz.prog 63 K = K ⟨false, 1, 8, [.nilFunc], none, [], none, false⟩ := withTI_of Tryz.ti63 K
theorem Tryz.ti64 : tiOf Tryz.prog 64 = some ⟨false, 1, 8, [.nilFunc], none, [], none, false⟩ := by kernel_rfl
theorem Tryz.w64 (K : TI → Prop) : withTI Tryz.prog 64 K = K ⟨false, 1, 8, [.nilFunc], none, [], none, false⟩ := withTI_of Tryz.ti64 K
theorem Tryz.ti65 : tiOf Tryz.prog 65 = some ⟨true, 2, 32, [.bool false, .slice none 0 0], none, [(0, 4), (1, 43)], none, false⟩ := by kernel_rfl
theorem Tryz.w65 (K : TI → Prop) : withTI Tryz.prog 65 K = K ⟨true, 2, 32, [.bool false, .slice none 0 0], none, [(0, 4), (1, 43)], none, false⟩ := withTI_of Tryz.ti65 K
theorem Tryz.ti66 : tiOf Tryz.prog 66 = some ⟨true, 3, 56, [.bool false, .slice none 0 0, .slice none 0 0], none, [(0, 65), (2, 43)], none, false⟩ := by kernel_rfl
theorem Tryz.w66 (K : TI → Prop) : withTI Tryz.prog 66 K = K ⟨true, 3, 56, [.bool false, .slice none 0 0, .slice none 0 0], none, [(0, 65), (2, 43)], none, false⟩ := withTI_of Tryz.ti66 K
theorem Tryz.ti67 : tiOf Tryz.prog 67 = some ⟨true, 3, 56, [.bool false, .slice none 0 0, .slice none 0 0], none, [(0, 65), (2, 43)], none, false⟩ := by kernel_rfl
theorem Tryz.w67 (K : TI → Prop) : withTI Tryz.prog 67 K = K ⟨true, 3, 56, [.bool false, .slice none 0 0, .slice none 0 0], none, [(0, 65), (2, 43)], none, false⟩ := withTI_of Tryz.ti67 K
theorem Tryz.ti68 : tiOf Tryz.prog 68 = some ⟨false, 1, 8, [.nilFunc], none, [], none, false⟩ := by kernel_rfl
theorem Tryz.w68 (K : TI → Prop) : withTI Tryz.prog 68 K = K ⟨false, 1, 8, [.nilFunc], none, [], none, false⟩ := withTI_of Tryz.ti68 K
theorem Tryz.ti69 : tiOf Tryz.prog 69 = some ⟨false, 1, 8, [.nilFunc], none, [], none, false⟩ := by kernel_rfl
theorem Tryz.w69 (K : TI → Prop) : withTI Tryz.prog 69 K = K ⟨false, 1, 8, [.nilFunc], none, [], none, false⟩ := withTI_of Tryz.ti69 K
theorem Tryz.ti70 : tiOf Tryz.prog 70 = some ⟨false, 1, 8, [.nilFunc], none, [], none, false⟩ := by kernel_rfl
theorem Tryz.w70 (K : TI → Prop) : withTI Tryz.prog 70 K = K ⟨false, 1, 8, [.nilFunc], none, [], none, false⟩ := withTI_of Tryz.ti70 K
theorem Tryz.ti71 : tiOf Tryz.prog 71 = some ⟨true, 3, 24, [.int .i64 0, .int .i64 0, .int .i64 0], none, [(0, 3), (1, 3), (2, 3)], none, false⟩ := by kernel_rfl
theorem Tryz.w71 (K : TI → Prop) : withTI Tryz.prog 71 K = K ⟨true, 3, 24, [.int .i64 0, .int .i64 0, .int .i64 0], none, [(0, 3), (1, 3), (2, 3)], none, false⟩ := withTI_of Tryz.ti71 K
theorem Tryz.ti72 : tiOf Tryz.prog 72 = some ⟨true, 3, 24, [.int .i64 0, .int .i64 0, .int .i64 0], none, [(0, 3), (1, 3), (2, 3)], none, false⟩ := by kernel_rfl
theorem Tryz.w72 (K : TI → Prop) : withTI Tryz.prog 72 K = K ⟨true, 3, 24, [.int .i64 0, .int .i64 0, .int .i64 0], none, [(0, 3), (1, 3), (2, 3)], none, false⟩ := withTI_of Tryz.ti72 K
theorem Tryz.ti74 : tiOf Tryz.prog 74 = some ⟨false, 1, 8, [.nilFunc], none, [], none, false⟩ := by kernel_rfl
theorem Tryz.w74 (K : TI → Prop) : withTI Tryz.prog 74 K = K ⟨false, 1, 8, [.nilFunc], none, [], none, false⟩ := withTI_of Tryz.ti74 K
theorem Tryz.ti75 : tiOf Tryz.prog 75 = some ⟨false, 1, 8, [.nilFunc], none, [], none, false⟩ := by kernel_rfl
theorem Tryz.w75 (K : TI → Prop) : withTI Tryz.prog 75 K = K ⟨false, 1, 8, [.nilFunc], none, [], none, false⟩ := withTI_of Tryz.ti75 K
theorem Tryz.ti76 : tiOf Tryz.prog 76 = some ⟨false, 1, 8, [.nilFunc], none, [], none, false⟩ := by kernel_rfl
theorem Tryz.w76 (K : TI → Prop) : withTI Tryz.prog 76 K = K ⟨false, 1, 8, [.nilFunc], none, [], none, false⟩ := withTI_of Tryz.ti76 K
theorem Tryz.ti77 : tiOf Tryz.prog 77 = some ⟨false, 1, 8, [.nilFunc], none, [], none, false⟩ := by kernel_rfl
theorem Tryz.w77 (K : TI → Prop) : withTI Tryz.prog 77 K = K ⟨false, 1, 8, [.nilFunc], none, [], none, false⟩ := withTI_of Tryz.ti77 K
theorem Tryz.ti78 : tiOf Tryz.prog 78 = some ⟨false, 1, 8, [.nilFunc], none, [], none, false⟩ := by kernel_rfl
theorem Tryz.w78 (K : TI → Prop) : withTI Tryz.prog 78 K = K ⟨false, 1, 8, [.nilFunc], none, [], none, false⟩ := withTI_of Tryz.ti78 K
theorem Tryz.ti79 : tiOf Tryz.prog 79 = some ⟨false, 1, 8, [.nilFunc], none, [], none, false⟩ := by kernel_rfl
theorem Tryz.w79 (K : TI → Prop) : withTI Tryz.prog 79 K = K ⟨false, 1, 8, [.nilFunc], none, [], none, false⟩ := withTI_of Tryz.ti79 K
theorem Tryz.ti80 : tiOf Tryz.prog 80 = some ⟨false, 1, 24, [.slice none 0 0], some 84, [], none, false⟩ := by kernel_rfl
theorem Tryz.w80 (K : TI → Prop) : withTI Tryz.prog 80 K = K ⟨false, 1, 24, [.slice none 0 0], some 84, [], none, false⟩ := withTI_of Tryz.ti80 K
theorem Tryz.ti82 : tiOf Tryz.prog 82 = some ⟨false, 1, 8, [.nilFunc], none, [], none, false⟩ := by kernel_rfl
theorem Tryz.w82 (K : TI → Prop) : withTI Tryz.prog 82 K = K ⟨false, 1, 8, [.nilFunc], none, [], none, false⟩ := withTI_of Tryz.ti82 K
theorem Tryz.ti83 : tiOf Tryz.prog 83 = some ⟨false, 1, 8, [.pointer none], none, [], none, false⟩ := by kernel_rfl
theorem Tryz.w83 (K : TI → Prop) : withTI Tryz.prog 83 K = K ⟨false, 1, 8, [.pointer none], none, [], none, false⟩ := withTI_of Tryz.ti83 K
theorem Tryz.ti84 : tiOf Tryz.prog 84 = some ⟨false, 1, 8, [.pointer none], none, [], none, false⟩ := by kernel_rfl
theorem Tryz.w84 (K : TI → Prop) : withTI Tryz.prog 84 K = K ⟨false, 1, 8, [.pointer none], none, [], none, false⟩ := withTI_of Tryz.ti84 K
theorem Tryz.ti86 : tiOf Tryz.prog 86 = some ⟨false, 1, 8, [.nilFunc], none, [], none, false⟩ := by kernel_rfl
theorem Tryz.w86 (K : TI → Prop) : withTI Tryz.prog 86 K = K ⟨false, 1, 8, [.nilFunc], none, [], none, false⟩ := withTI_of Tryz.ti86 K
theorem Tryz.ti87 : tiOf Tryz.prog 87 = some ⟨false, 1, 8, [.nilFunc], none, [], none, false⟩ := by kernel_rfl
theorem Tryz.w87 (K : TI → Prop) : withTI Tryz.prog 87 K = K ⟨false, 1, 8, [.nilFunc], none, [], none, false⟩ := withTI_of Tryz.ti87 K
theorem Tryz.ti88 : tiOf Tryz.prog 88 = some ⟨false, 1, 8, [.nilFunc], none, [], none, false⟩ := by kernel_rfl
theorem Tryz.w88 (K : TI → Prop) : withTI Tryz.prog 88 K = K ⟨false, 1, 8, [.nilFunc], none, [], none, false⟩ := withTI_of Tryz.ti88 K
theorem Tryz.ti89 : tiOf Tryz.prog 89 = some ⟨false, 1, 8, [.nilFunc], none, [], none, false⟩ := by kernel_rfl
theorem Tryz.w89 (K : TI → Prop) : withTI Tryz.prog 89 K = K ⟨false, 1, 8, [.nilFunc], none, [], none, false⟩ := withTI_of Tryz.ti89 K
theorem Tryz.ti90 : tiOf Tryz.prog 90 = some ⟨false, 1, 8, [.nilFunc], none, [], none, false⟩ := by kernel_rfl
theorem Tryz.w90 (K : TI → Prop) : withTI Tryz.prog 90 K = K ⟨false, 1, 8, [.nilFunc], none, [], none, false⟩ := withTI_of Tryz.ti90 K
theorem Tryz.ti91 : tiOf Tryz.prog 91 = some ⟨false, 1, 8, [.nilFunc], none, [], none, false⟩ := by kernel_rfl
theorem Tryz.w91 (K : TI → Prop) : withTI Tryz.prog 91 K = K ⟨false, 1, 8, [.nilFunc], none, [], none, false⟩ := withTI_of Tryz.ti91 K
theorem Tryz.ti92 : tiOf Tryz.prog 92 = some ⟨false, 1, 8, [.nilFunc], none, [], none, false⟩ := by kernel_rfl
theorem Tryz.w92 (K : TI → Prop) : withTI Tryz.prog 92 K = K ⟨false, 1, 8, [.nilFunc], none, [], none, false⟩ := withTI_of Tryz.ti92 K
theorem Tryz.ti93 : tiOf Tryz.prog 93 = some ⟨false, 1, 8, [.nilFunc], none, [], none, false⟩ := by kernel_rfl
theorem Tryz.w93 (K : TI → Prop) : withTI Tryz.prog 93 K = K ⟨false, 1, 8, [.nilFunc], none, [], none, false⟩ := withTI_of Tryz.ti93 K
theorem Tryz.ti94 : tiOf Tryz.prog 94 = some ⟨false, 1, 8, [.nilFunc], none, [], none, false⟩ := by kernel_rfl
theorem Tryz.w94 (K : TI → Prop) : withTI Tryz.prog 94 K = K ⟨false, 1, 8, [.nilFunc], none, [], none, false⟩ := withTI_of Tryz.ti94 K
theorem Tryz.ti95 : tiOf Tryz.prog 95 = some ⟨false, 1, 8, [.nilFunc], none, [], none, false⟩ := by kernel_rfl
theorem Tryz.w95 (K : TI → Prop) : withTI Tryz.prog 95 K = K ⟨false, 1, 8, [.nilFunc], none, [], none, false⟩ := withTI_of Tryz.ti95 K
theorem Tryz.ti96 : tiOf Tryz.prog 96 = some ⟨false, 1, 8, [.nilFunc], none, [], none, false⟩ := by kernel_rfl
theorem Tryz.w96 (K : TI → Prop) : withTI Tryz.prog 96 K = K ⟨false, 1, 8, [.nilFunc], none, [], none, false⟩ := withTI_of Tryz.ti96 K
theorem Tryz.ti97 : tiOf Tryz.prog 97 = some ⟨false, 1, 8, [.nilFunc], none, [], none, false⟩ := by kernel_rfl
theorem Tryz.w97 (K : TI → Prop) : withTI Tryz.prog 97 K = K ⟨false, 1, 8, [.nilFunc], none, [], none, false⟩ := withTI_of Tryz.ti97 K
theorem Tryz.ti98 : tiOf Tryz.prog 98 = some ⟨false, 1, 8, [.nilFunc], none, [], none, false⟩ := by kernel_rfl
theorem Tryz.w98 (K : TI → Prop) : withTI Tryz.prog 98 K = K ⟨false, 1, 8, [.nilFunc], none, [], none, false⟩ := withTI_of Tryz.ti98 K
theorem Tryz.ti99 : tiOf Tryz.prog 99 = some ⟨false, 1, 8, [.nilFunc], none, [], none, false⟩ := by kernel_rfl
theorem Tryz.w99 (K : TI → Prop) : withTI Tryz.prog 99 K = K ⟨false, 1, 8, [.nilFunc], none, [], none, false⟩ := withTI_of Tryz.ti99 K
theorem Tryz.ti100 : tiOf Tryz.prog 100 = some ⟨false, 1, 8, [.nilFunc], none, [], none, false⟩ := by kernel_rfl
theorem Tryz.w100 (K : TI → Prop) : withTI Tryz.prog 100 K = K ⟨false, 1, 8, [.nilFunc], none, [], none, false⟩ := withTI_of Tryz.ti100 K
theorem Tryz.ti101 : tiOf Tryz.prog 101 = some ⟨false, 1, 8, [.nilFunc], none, [], none, false⟩ := by kernel_rfl
theorem Tryz.w101 (K : TI → Prop) : withTI Tryz.prog 101 K = K ⟨false, 1, 8, [.nilFunc], none, [], none, false⟩ := withTI_of Tryz.ti101 K
theorem Tryz.ti102 : tiOf Tryz.prog 102 = some ⟨false, 1, 8, [.nilFunc], none, [], none, false⟩ := by kernel_rfl
theorem Tryz.w102 (K : TI → Prop) : withTI Tryz.prog 102 K = K ⟨false, 1, 8, [.nilFunc], none, [], none, false⟩ := withTI_of Tryz.ti102 K
theorem Tryz.ti104 : tiOf Tryz.prog 104 = some ⟨false, 1, 8, [.nilFunc], none, [], none, false⟩ := by kernel_rfl
theorem Tryz.w104 (K : TI → Prop) : withTI Tryz.prog 104 K = K ⟨false, 1, 8, [.nilFunc], none, [], none, false⟩ := withTI_of Tryz.ti104 K
theorem Tryz.ti105 : tiOf Tryz.prog 105 = some ⟨false, 1, 8, [.nilFunc], none, [], none, false⟩ := by kernel_rfl
theorem Tryz.w105 (K : TI → Prop) : withTI Tryz.prog 105 K = K ⟨false, 1, 8, [.nilFunc], none, [], none, false⟩ := withTI_of Tryz.ti105 K
theorem Tryz.ti106 : tiOf Tryz.prog 106 = some ⟨false, 1, 8, [.nilFunc], none, [], none, false⟩ := by kernel_rfl
theorem Tryz.w106 (K : TI → Prop) : withTI Tryz.prog 106 K = K ⟨false, 1, 8, [.nilFunc], none, [], none, false⟩ := withTI_of Tryz.ti106 K
theorem Tryz.ti107 : tiOf Tryz.prog 107 = some ⟨false, 1, 8, [.nilFunc], none, [], none, false⟩ := by kernel_rfl
theorem Tryz.w107 (K : TI → Prop) : withTI Tryz.prog 107 K = K ⟨false, 1, 8, [.nilFunc], none, [], none, false⟩ := withTI_of Tryz.ti107 K
theorem Tryz.ti108 : tiOf Tryz.prog 108 = some ⟨false, 1, 24, [.slice none 0 0], some 147, [], none, false⟩ := by kernel_rfl
theorem Tryz.w108 (K : TI → Prop) : withTI Tryz.prog 108 K = K ⟨false, 1, 24, [.slice none 0 0], some 147, [], none, false⟩ := withTI_of Tryz.ti108 K
theorem Tryz.ti109 : tiOf Tryz.prog 109 = some ⟨false, 1, 8, [.nilFunc], none, [], none, false⟩ := by kernel_rfl
theorem Tryz.w109 (K : TI → Prop) : withTI Tryz.prog 109 K = K ⟨false, 1, 8, [.nilFunc], none, [], none, false⟩ := withTI_of Tryz.ti109 K
theorem Tryz.ti110 : tiOf Tryz.prog 110 = some ⟨false, 1, 8, [.nilFunc], none, [], none, false⟩ := by kernel_rfl
theorem Tryz.w110 (K : TI → Prop) : withTI Tryz.prog 110 K = K ⟨false, 1, 8, [.nilFunc], none, [], none, false⟩ := withTI_of Tryz.ti110 K
theorem Tryz.ti111 : tiOf Tryz.prog 111 = some ⟨true, 4, 40, [.string ⟨#[]⟩, .int .i64 0, .int .i64 0, .bool false], none, [(0, 9), (1, 3), (2, 3), (3, 4)], none, false⟩ := by kernel_rfl
theorem Tryz.w111 (K : TI → Prop) : withTI Tryz.prog 111 K = K ⟨true, 4, 40, [.string ⟨#[]⟩, .int .i64 0, .int .i64 0, .bool false], none, [(0, 9), (1, 3), (2, 3), (3, 4)], none, false⟩ := withTI_of Tryz.ti111 K
theorem Tryz.ti112 : tiOf Tryz.prog 112 = some ⟨true, 4, 40, [.string ⟨#[]⟩, .int .i64 0, .int .i64 0, .bool false], none, [(0, 9), (1, 3), (2, 3), (3, 4)], none, false⟩ := by kernel_rfl
theorem Tryz.w112 (K : TI → Prop) : withTI Tryz.prog 112 K = K ⟨true, 4, 40, [.string ⟨#[]⟩, .int .i64 0, .int .i64 0, .bool false], none, [(0, 9), (1, 3), (2, 3), (3, 4)], none, false⟩ := withTI_of Tryz.ti112 K
theorem Tryz.ti113 : tiOf Tryz.prog 113 = some ⟨false, 1, 8, [.nilFunc], none, [], none, false⟩ := by kernel_rfl
theorem Tryz.w113 (K : TI → Prop) : withTI Tryz.prog 113 K = K ⟨false, 1, 8, [.nilFunc], none, [], none, false⟩ := withTI_of Tryz.ti113 K
theorem Tryz.ti114 : tiOf Tryz.prog 114 = some ⟨false, 1, 8, [.nilFunc], none, [], none, false⟩ := by kernel_rfl
theorem Tryz.w114 (K : TI → Prop) : withTI Tryz.prog 114 K = K ⟨false, 1, 8, [.nilFunc], none, [], none, false⟩ := withTI_of Tryz.ti114 K
theorem Tryz.ti116 : tiOf Tryz.prog 116 = some ⟨false, 1, 8, [.nilFunc], none, [], none, false⟩ := by kernel_rfl
theorem Tryz.w116 (K : TI → Prop) : withTI Tryz.prog 116 K = K ⟨false, 1, 8, [.nilFunc], none, [], none, false⟩ := withTI_of Tryz.ti116 K
theorem Tryz.ti117 : tiOf Tryz.prog 117 = some ⟨false, 1, 8, [.nilFunc], none, [], none, false⟩ := by kernel_rfl
theorem Tryz.w117 (K : TI → Prop) : withTI Tryz.prog 117 K = K ⟨false, 1, 8, [.nilFunc], none, [], none, false⟩ := withTI_of Tryz.ti117 K
theorem Tryz.ti118 : tiOf Tryz.prog 118 = some ⟨false, 1, 8, [.nilFunc], none, [], none, false⟩ := by kernel_rfl
theorem Tryz.w118 (K : TI → Prop) : withTI Tryz.prog 118 K = K ⟨false, 1, 8, [.nilFunc], none, [], none, false⟩ := withTI_of Tryz.ti118 K
theorem Tryz.ti119 : tiOf Tryz.prog 119 = some ⟨false, 1, 8, [.nilFunc], none, [], none, false⟩ := by kernel_rfl
theorem Tryz.w119 (K : TI → Prop) : withTI Tryz.prog 119 K = K ⟨false, 1, 8, [.nilFunc], none, [], none, false⟩ := withTI_of Tryz.ti119 K
theorem Tryz.ti120 : tiOf Tryz.prog 120 = some ⟨false, 1, 8, [.nilFunc], none, [], none, false⟩ := by kernel_rfl
theorem Tryz.w120 (K : TI → Prop) : withTI Tryz.prog 120 K = K ⟨false, 1, 8, [.nilFunc], none, [], none, false⟩ := withTI_of Tryz.ti120 K
theorem Tryz.ti121 : tiOf Tryz.prog 121 = some ⟨true, 4, 40, [.string ⟨#[]⟩, .int .i64 0, .int .i64 0, .bool false], none, [(0, 9), (1, 3), (2, 3), (3, 4)], none, false⟩ := by kernel_rfl
theorem Tryz.w121 (K : TI → Prop) : withTI Tryz.prog 121 K = K ⟨true, 4, 40, [.string ⟨#[]⟩, .int .i64 0, .int .i64 0, .bool false], none, [(0, 9), (1, 3), (2, 3), (3, 4)], none, false⟩ := withTI_of Tryz.ti121 K
theorem Tryz.ti122 : tiOf Tryz.prog 122 = some ⟨false, 1, 8, [.nilFunc], none, [], none, false⟩ := by kernel_rfl
theorem Tryz.w122 (K : TI → Prop) : withTI Tryz.prog 122 K = K ⟨false, 1, 8, [.nilFunc], none, [], none, false⟩ := withTI_of Tryz.ti122 K
theorem Tryz.ti123 : tiOf Tryz.prog 123 = some ⟨false, 1, 8, [.nilFunc], none, [], none, false⟩ := by kernel_rfl
theorem Tryz.w123 (K : TI → Prop) : withTI Tryz.prog 123 K = K ⟨false, 1, 8, [.nilFunc], none, [], none, false⟩ := withTI_of Tryz.ti123 K
theorem Tryz.ti124 : tiOf Tryz.prog 124 = some ⟨false, 1, 8, [.nilFunc], none, [], none, false⟩ := by kernel_rfl
theorem Tryz.w124 (K : TI → Prop) : withTI Tryz.prog 124 K = K ⟨false, 1, 8, [.nilFunc], none, [], none, false⟩ := withTI_of Tryz.ti124 K
theorem Tryz.ti125 : tiOf Tryz.prog 125 = some ⟨false, 1, 8, [.nilFunc], none, [], none, false⟩ := by kernel_rfl
theorem Tryz.w125 (K : TI → Prop) : withTI Tryz.prog 125 K = K ⟨false, 1, 8, [.nilFunc], none, [], none, false⟩ := withTI_of Tryz.ti125 K
theorem Tryz.ti126 : tiOf Tryz.prog 126 = some ⟨false, 1, 8, [.nilFunc], none, [], none, false⟩ := by kernel_rfl
theorem Tryz.w126 (K : TI → Prop) : withTI Tryz.prog 126 K = K ⟨false, 1, 8, [.nilFunc], none, [], none, false⟩ := withTI_of Tryz.ti126 K
theorem Tryz.ti127 : tiOf Tryz.prog 127 = some ⟨false, 1, 8, [.nilFunc], none, [], none, false⟩ := by kernel_rfl
theorem Tryz.w127 (K : TI → Prop) : withTI Tryz.prog 127 K = K ⟨false, 1, 8, [.nilFunc], none, [], none, false⟩ := withTI_of Tryz.ti127 K
theorem Tryz.ti128 : tiOf Tryz.prog 128 = some ⟨false, 1, 8, [.nilFunc], none, [], none, false⟩ := by kernel_rfl
theorem Tryz.w128 (K : TI → Prop) : withTI Tryz.prog 128 K = K ⟨false, 1, 8, [.nilFunc], none, [], none, false⟩ := withTI_of Tryz.ti128 K
theorem Tryz.ti129 : tiOf Tryz.prog 129 = some ⟨true, 3, 24, [.int .i64 0, .int .i64 0, .int .i64 0], none, [(0, 3), (1, 3), (2, 3)], none, false⟩ := by kernel_rfl
theorem Tryz.w129 (K : TI → Prop) : withTI Tryz.prog 129 K = K ⟨true, 3, 24, [.int .i64 0, .int .i64 0, .int .i64 0], none, [(0, 3), (1, 3), (2, 3)], none, false⟩ := withTI_of Tryz.ti129 K
theorem Tryz.ti130 : tiOf Tryz.prog 130 = some ⟨false, 1, 8, [.nilFunc], none, [], none, false⟩ := by kernel_rfl
theorem Tryz.w130 (K : TI → Prop) : withTI Tryz.prog 130 K = K ⟨false, 1, 8, [.nilFunc], none, [], none, false⟩ := withTI_of Tryz.ti130 K
theorem Tryz.ti131 : tiOf Tryz.prog 131 = some ⟨false, 1, 8, [.nilFunc], none, [], none, false⟩ := by kernel_rfl
theorem Tryz.w131 (K : TI → Prop) : withTI Tryz.prog 131 K = K ⟨false, 1, 8, [.nilFunc], none, [], none, false⟩ := withTI_of Tryz.ti131 K
theorem Tryz.ti132 : tiOf Tryz.prog 132 = some ⟨false, 1, 8, [.nilFunc], none, [], none, false⟩ := by kernel_rfl
theorem Tryz.w132 (K : TI → Prop) : withTI Tryz.prog 132 K = K ⟨false, 1, 8, [.nilFunc], none, [], none, false⟩ := withTI_of Tryz.ti132 K
theorem Tryz.ti133 : tiOf Tryz.prog 133 = some ⟨false, 1, 8, [.nilFunc], none, [], none, false⟩ := by kernel_rfl
theorem Tryz.w133 (K : TI → Prop) : withTI Tryz.prog 133 K = K ⟨false, 1, 8, [.nilFunc], none, [], none, false⟩ := withTI_of Tryz.ti133 K
theorem Tryz.ti134 : tiOf Tryz.prog 134 = some ⟨false, 1, 8, [.nilFunc], none, [], none, false⟩ := by kernel_rfl
theorem Tryz.w134 (K : TI → Prop) : withTI Tryz.prog 134 K = K ⟨false, 1, 8, [.nilFunc], none, [], none, false⟩ := withTI_of Tryz.ti134 K
theorem Tryz.ti135 : tiOf Tryz.prog 135 = some ⟨false, 1, 8, [.nilFunc], none, [], none, false⟩ := by kernel_rfl
theorem Tryz.w135 (K : TI → Prop) : withTI Tryz.prog 135 K = K ⟨false, 1, 8, [.nilFunc], none, [], none, false⟩ := withTI_of Tryz.ti135 K
theorem Tryz.ti136 : tiOf Tryz.prog 136 = some ⟨false, 1, 8, [.nilFunc], none, [], none, false⟩ := by kernel_rfl
theorem Tryz.w136 (K : TI → Prop) : withTI Tryz.prog 136 K = K ⟨false, 1, 8, [.nilFunc], none, [], none, false⟩ := withTI_of Tryz.ti136 K
theorem Tryz.ti137 : tiOf Tryz.prog 137 = some ⟨false, 1, 8, [.nilFunc], none, [], none, false⟩ := by kernel_rfl
theorem Tryz.w137 (K : TI → Prop) : withTI Tryz.prog 137 K = K ⟨false, 1, 8, [.nilFunc], none, [], none, false⟩ := withTI_of Tryz.ti137 K
theorem Tryz.ti138 : tiOf Tryz.prog 138 = some ⟨false, 1, 8, [.nilFunc], none, [], none, false⟩ := by kernel_rfl
theorem Tryz.w138 (K : TI → Prop) : withTI Tryz.prog 138 K = K ⟨false, 1, 8, [.nilFunc], none, [], none, false⟩ := withTI_of Tryz.ti138 K
theorem Tryz.ti139 : tiOf Tryz.prog 139 = some ⟨true, 3, 56, [.bool false, .slice none 0 0, .slice none 0 0], none, [(0, 54), (2, 43)], none, false⟩ := by kernel_rfl
theorem Tryz.w139 (K : TI → Prop) : withTI Tryz.prog 139 K = K ⟨true, 3, 56, [.bool false, .slice none 0 0, .slice none 0 0], none, [(0, 54), (2, 43)], none, false⟩ := withTI_of Tryz.ti139 K
theorem Tryz.ti140 : tiOf Tryz.prog 140 = some ⟨true, 3, 56, [.bool false, .slice none 0 0, .slice none 0 0], none, [(0, 54), (2, 43)], none, false⟩ := by kernel_rfl
theorem Tryz.w140 (K : TI → Prop) : withTI Tryz.prog 140 K = K ⟨true, 3, 56, [.bool false, .slice none 0 0, .slice none 0 0], none, [(0, 54), (2, 43)], none, false⟩ := withTI_of Tryz.ti140 K
theorem Tryz.ti141 : tiOf Tryz.prog 141 = some ⟨false, 1, 8, [.nilFunc], none, [], none, false⟩ := by kernel_rfl
theorem Tryz.w141 (K : TI → Prop) : withTI Tryz.prog 141 K = K ⟨false, 1, 8, [.nilFunc], none, [], none, false⟩ := withTI_of Tryz.ti141 K
theorem Tryz.ti142 : tiOf Tryz.prog 142 = some ⟨false, 1, 8, [.nilFunc], none, [], none, false⟩ := by kernel_rfl
theorem Tryz.w142 (K : TI → Prop) : withTI Tryz.prog 142 K = K ⟨false, 1, 8, [.nilFunc], none, [], none, false⟩ := withTI_of Tryz.ti142 K
theorem Tryz.ti143 : tiOf Tryz.prog 143 = some ⟨false, 1, 8, [.nilFunc], none, [], none, false⟩ := by kernel_rfl
theorem Tryz.w143 (K : TI → Prop) : withTI Tryz.prog 143 K = K ⟨false, 1, 8, [.nilFunc], none, [], none, false⟩ := withTI_of Tryz.ti143 K
theorem Tryz.ti144 : tiOf Tryz.prog 144 = some ⟨false, 1, 8, [.nilFunc], none, [], none, false⟩ := by kernel_rfl
theorem Tryz.w144 (K : TI → Prop) : withTI Tryz.prog 144 K = K ⟨false, 1, 8, [.nilFunc], none, [], none, false⟩ := withTI_of Tryz.ti144 K
theorem Tryz.ti145 : tiOf Tryz.prog 145 = some ⟨false, 1, 8, [.nilFunc], none, [], none, false⟩ := by kernel_rfl
theorem Tryz.w145 (K : TI → Prop) : withTI Tryz.prog 145 K = K ⟨false, 1, 8, [.nilFunc], none, [], none, false⟩ := withTI_of Tryz.ti145 K
theorem Tryz.ti146 : tiOf Tryz.prog 146 = some ⟨true, 2, 16, [.int .i64 0, .int .i64 0], none, [(0, 3), (1, 3)], none, false⟩ := by kernel_rfl
theorem Tryz.w146 (K : TI → Prop) : withTI Tryz.prog 146 K = K ⟨true, 2, 16, [.int .i64 0, .int .i64 0], none, [(0, 3), (1, 3)], none, false⟩ := withTI_of Tryz.ti146 K
theorem Tryz.ti147 : tiOf Tryz.prog 147 = some ⟨true, 2, 16, [.int .i64 0, .int .i64 0], none, [(0, 3), (1, 3)], none, false⟩ := by kernel_rfl
theorem Tryz.w147 (K : TI → Prop) : withTI Tryz.prog 147 K = K ⟨true, 2, 16, [.int .i64 0, .int .i64 0], none, [(0, 3), (1, 3)], none, false⟩ := withTI_of Tryz.ti147 K
theorem Tryz.ti148 : tiOf Tryz.prog 148 = some ⟨false, 1, 8, [.nilFunc], none, [], none, false⟩ := by kernel_rfl
theorem Tryz.w148 (K : TI → Prop) : withTI Tryz.prog 148 K = K ⟨false, 1, 8, [.nilFunc], none, [], none, false⟩ := withTI_of Tryz.ti148 K
theorem Tryz.ti149 : tiOf Tryz.prog 149 = some ⟨false, 1, 8, [.nilFunc], none, [], none, false⟩ := by kernel_rfl
theorem Tryz.w149 (K : TI → Prop) : withTI Tryz.prog 149 K = K ⟨false, 1, 8, [.nilFunc], none, [], none, false⟩ := withTI_of Tryz.ti149 K
theorem Tryz.ti150 : tiOf Tryz.prog 150 = some ⟨false, 1, 8, [.nilFunc], none, [], none, false⟩ := by kernel_rfl
theorem Tryz.w150 (K : TI → Prop) : withTI Tryz.prog 150 K = K ⟨false, 1, 8, [.nilFunc], none, [], none, false⟩ := withTI_of Tryz.ti150 K
theorem Tryz.ti151 : tiOf Tryz.prog 151 = some ⟨false, 1, 8, [.nilFunc], none, [], none, false⟩ := by kernel_rfl
theorem Tryz.w151 (K : TI → Prop) : withTI Tryz.prog 151 K = K ⟨false, 1, 8, [.nilFunc], none, [], none, false⟩ := withTI_of Tryz.ti151 K
theorem Tryz.ti152 : tiOf Tryz.prog 152 = some ⟨false, 1, 8, [.nilFunc], none, [], none, false⟩ := by kernel_rfl
theorem Tryz.w152 (K : TI → Prop) : withTI Tryz.prog 152 K = K ⟨false, 1, 8, [.nilFunc], none, [], none, false⟩ := withTI_of Tryz.ti152 K
theorem Tryz.ti154 : tiOf Tryz.prog 154 = some ⟨false, 1, 8, [.nilFunc], none, [], none, false⟩ := by kernel_rfl
theorem Tryz.w154 (K : TI → Prop) : withTI Tryz.prog 154 K = K ⟨false, 1, 8, [.nilFunc], none, [], none, false⟩ := withTI_of Tryz.ti154 K
theorem Tryz.ti155 : tiOf Tryz.prog 155 = some ⟨false, 1, 8, [.nilFunc], none, [], none, false⟩ := by kernel_rfl
theorem Tryz.w155 (K : TI → Prop) : withTI Tryz.prog 155 K = K ⟨false, 1, 8, [.nilFunc], none, [], none, false⟩ := withTI_of Tryz.ti155 K
theorem Tryz.ti156 : tiOf Tryz.prog 156 = some ⟨false, 1, 8, [.nilFunc], none, [], none, false⟩ := by kernel_rfl
theorem Tryz.w156 (K : TI → Prop) : withTI Tryz.prog 156 K = K ⟨false, 1, 8, [.nilFunc], none, [], none, false⟩ := withTI_of Tryz.ti156 K
theorem Tryz.ti157 : tiOf Tryz.prog 157 = some ⟨false, 1, 8, [.nilFunc], none, [], none, false⟩ := by kernel_rfl
theorem Tryz.w157 (K : TI → Prop) : withTI Tryz.prog 157 K = K ⟨false, 1, 8, [.nilFunc], none, [], none, false⟩ := withTI_of Tryz.ti157 K
theorem Tryz.ti158 : tiOf Tryz.prog 158 = some ⟨false, 1, 24, [.slice none 0 0], some 5, [], none, false⟩ := by kernel_rfl
theorem Tryz.w158 (K : TI → Prop) : withTI Tryz.prog 158 K = K ⟨false, 1, 24, [.slice none 0 0], some 5, [], none, false⟩ := withTI_of Tryz.ti158 K
theorem Tryz.ti159 : tiOf Tryz.prog 159 = some ⟨false, 1, 8, [.nilFunc], none, [], none, false⟩ := by kernel_rfl
theorem Tryz.w159 (K : TI → Prop) : withTI Tryz.prog 159 K = K ⟨false, 1, 8, [.nilFunc], none, [], none, false⟩ := withTI_of Tryz.ti159 K
theorem Tryz.ti160 : tiOf Tryz.prog 160 = some ⟨false, 1, 8, [.nilFunc], none, [], none, false⟩ := by kernel_rfl
theorem Tryz.w160 (K : TI → Prop) : withTI Tryz.prog 160 K = K ⟨false, 1, 8, [.nilFunc], none, [], none, false⟩ := withTI_of Tryz.ti160 K
theorem Tryz.ti161 : tiOf Tryz.prog 161 = some ⟨false, 1, 8, [.nilFunc], none, [], none, false⟩ := by kernel_rfl
theorem Tryz.w161 (K : TI → Prop) : withTI Tryz.prog 161 K = K ⟨false, 1, 8, [.nilFunc], none, [], none, false⟩ := withTI_of Tryz.ti161 K
theorem Tryz.ti162 : tiOf Tryz.prog 162 = some ⟨false, 1, 8, [.nilFunc], none, [], none, false⟩ := by kernel_rfl
theorem Tryz.w162 (K : TI → Prop) : withTI Tryz.prog 162 K = K ⟨false, 1, 8, [.nilFunc], none, [], none, false⟩ := withTI_of Tryz.ti162 K
theorem Tryz.ti163 : tiOf Tryz.prog 163 = some ⟨false, 1, 8, [.nilFunc], none, [], none, false⟩ := by kernel_rfl
theorem Tryz.w163 (K : TI → Prop) : withTI Tryz.prog 163 K = K ⟨false, 1, 8, [.nilFunc], none, [], none, false⟩ := withTI_of Tryz.ti163 K
theorem Tryz.ti164 : tiOf Tryz.prog 164 = some ⟨false, 1, 8, [.int .u64 0], none, [], some .u64, false⟩ := by kernel_rfl
theorem Tryz.w164 (K : TI → Prop) : withTI Tryz.prog 164 K = K ⟨false, 1, 8, [.int .u64 0], none, [], some .u64, false⟩ := withTI_of Tryz.ti164 K
theorem Tryz.ti165 : tiOf Tryz.prog 165 = some ⟨false, 1, 8, [.nilFunc], none, [], none, false⟩ := by kernel_rfl
theorem Tryz.w165 (K : TI → Prop) : withTI Tryz.prog 165 K = K ⟨false, 1, 8, [.nilFunc], none, [], none, false⟩ := withTI_of Tryz.ti165 K
theorem Tryz.ti166 : tiOf Tryz.prog 166 = some ⟨false, 1, 8, [.nilFunc], none, [], none, false⟩ := by kernel_rfl
theorem Tryz.w166 (K : TI → Prop) : withTI Tryz.prog 166 K = K ⟨false, 1, 8, [.nilFunc], none, [], none, false⟩ := withTI_of Tryz.ti166 K
theorem Tryz.ti167 : tiOf Tryz.prog 167 = some ⟨false, 1, 8, [.nilFunc], none, [], none, false⟩ := by kernel_rfl
theorem Tryz.w167 (K : TI → Prop) : withTI Tryz.prog 167 K = K ⟨false, 1, 8, [.nilFunc], none, [], none, false⟩ := withTI_of Tryz.ti167 K
theorem Tryz.ti168 : tiOf Tryz.prog 168 = some ⟨false, 1, 8, [.nilFunc], none, [], none, false⟩ := by kernel_rfl
theorem Tryz.w168 (K : TI → Prop) : withTI Tryz.prog 168 K = K ⟨false, 1, 8, [.nilFunc], none, [], none, false⟩ := withTI_of Tryz.ti168 K
theorem Tryz.ti169 : tiOf Tryz.prog 169 = some ⟨false, 1, 8, [.nilFunc], none, [], none, false⟩ := by kernel_rfl
theorem Tryz.w169 (K : TI → Prop) : withTI Tryz.prog 169 K = K ⟨false, 1, 8, [.nilFunc], none, [], none, false⟩ := withTI_of Tryz.ti169 K
theorem Tryz.ti171 : tiOf Tryz.prog 171 = some ⟨false, 1, 8, [.nilFunc], none, [], none, false⟩ := by kernel_rfl
theorem Tryz.w171 (K : TI → Prop) : withTI Tryz.prog 171 K = K ⟨false, 1, 8, [.nilFunc], none, [], none, false⟩ := withTI_of Tryz.ti171 K
theorem Tryz.ti172 : tiOf Tryz.prog 172 = some ⟨false, 1, 8, [.nilFunc], none, [], none, false⟩ := by kernel_rfl
theorem Tryz.w172 (K : TI → Prop) : withTI Tryz.prog 172 K = K ⟨false, 1, 8, [.nilFunc], none, [], none, false⟩ := withTI_of Tryz.ti172 K
theorem Tryz.ti173 : tiOf Tryz.prog 173 = some ⟨false, 1, 8, [.nilFunc], none, [], none, false⟩ := by kernel_rfl
theorem Tryz.w173 (K : TI → Prop) : withTI Tryz.prog 173 K = K ⟨false, 1, 8, [.nilFunc], none, [], none, false⟩ := withTI_of Tryz.ti173 K
theorem Tryz.ti174 : tiOf Tryz.prog 174 = some ⟨false, 1, 8, [.nilFunc], none, [], none, false⟩ := by kernel_rfl
theorem Tryz.w174 (K : TI → Prop) : withTI Tryz.prog 174 K = K ⟨false, 1, 8, [.nilFunc], none, [], none, false⟩ := withTI_of Tryz.ti174 K
theorem Tryz.ti175 : tiOf Tryz.prog 175 = some ⟨false, 1, 8, [.nilFunc], none, [], none, false⟩ := by kernel_rfl
theorem Tryz.w175 (K : TI → Prop) : withTI Tryz.prog 175 K = K ⟨false, 1, 8, [.nilFunc], none, [], none, false⟩ := withTI_of Tryz.ti175 K
theorem Tryz.ti176 : tiOf Tryz.prog 176 = some ⟨true, 4, 40, [.pointer none, .pointer none, .pointer none, .string ⟨#[]⟩], none, [(0, 17), (1, 17), (2, 17), (3, 9)], none, false⟩ := by kernel_rfl
theorem Tryz.w176 (K : TI → Prop) : withTI Tryz.prog 176 K = K ⟨true, 4, 40, [.pointer none, .pointer none, .pointer none, .string ⟨#[]⟩], none, [(0, 17), (1, 17), (2, 17), (3, 9)], none, false⟩ := withTI_of Tryz.ti176 K
theorem Tryz.ti184 : tiOf Tryz.prog 184 = some ⟨false, 1, 8, [.nilFunc], none, [], none, false⟩ := by kernel_rfl
theorem Tryz.w184 (K : TI → Prop) : withTI Tryz.prog 184 K = K ⟨false, 1, 8, [.nilFunc], none, [], none, false⟩ := withTI_of Tryz.ti184 K
theorem Tryz.ti185 : tiOf Tryz.prog 185 = some ⟨false, 1, 8, [.pointer none], none, [], none, false⟩ := by kernel_rfl
theorem Tryz.w185 (K : TI → Prop) : withTI Tryz.prog 185 K = K ⟨false, 1, 8, [.pointer none], none, [], none, false⟩ := withTI_of Tryz.ti185 K
theorem Tryz.ti190 : tiOf Tryz.prog 190 = some ⟨false, 1, 8, [.nilFunc], none, [], none, false⟩ := by kernel_rfl
theorem Tryz.w190 (K : TI → Prop) : withTI Tryz.prog 190 K = K ⟨false, 1, 8, [.nilFunc], none, [], none, false⟩ := withTI_of Tryz.ti190 K
attribute [go_sem] Tryz.ti3 Tryz.ti4 Tryz.ti5 Tryz.ti9 Tryz.ti15 Tryz.ti16 Tryz.ti17 Tryz.ti18 Tryz.ti19 Tryz.ti21 Tryz.ti22 Tryz.ti23 Tryz.ti24 Tryz.ti25 Tryz.ti26 Tryz.ti27 Tryz.ti28 Tryz.ti29 Tryz.ti31 Tryz.ti32 Tryz.ti33 Tryz.ti34 Tryz.ti35 Tryz.ti36 Tryz.ti37 Tryz.ti38 Tryz.ti39 Tryz.ti40 Tryz.ti41 Tryz.ti42 Tryz.ti43 Tryz.ti44 Tryz.ti45 Tryz.ti46 Tryz.ti47 Tryz.ti48 Tryz.ti49 Tryz.ti50 Tryz.ti51 Tryz.ti52 Tryz.ti53 Tryz.ti54 Tryz.ti55 Tryz.ti56 Tryz.ti58 Tryz.ti59 Tryz.ti60 Tryz.ti61 Tryz.ti62 Tryz.ti63 Tryz.ti64 Tryz.ti65 Tryz.ti66 Tryz.ti67 Tryz.ti68 Tryz.ti69 Tryz.ti70 Tryz.ti71 Tryz.ti72 Tryz.ti74 Tryz.ti75 Tryz.ti76 Tryz.ti77 Tryz.ti78 Tryz.ti79 Tryz.ti80 Tryz.ti82 Tryz.ti83 Tryz.ti84 Tryz.ti86 Tryz.ti87 Tryz.ti88 Tryz.ti89 Tryz.ti90 Tryz.ti91 Tryz.ti92 Tryz.ti93 Tryz.ti94 Tryz.ti95 Tryz.ti96 Tryz.ti97 Tryz.ti98 Tryz.ti99 Tryz.ti100 Tryz.ti101 Tryz.ti102 Tryz.ti104 Tryz.ti105 Tryz.ti106 Tryz.ti107 Tryz.ti108 Tryz.ti109 Tryz.ti110 Tryz.ti111 Tryz.ti112 Tryz.ti113 Tryz.ti114 Tryz.ti116 Tryz.ti117 Tryz.ti118 Tryz.ti119 Tryz.ti120 Tryz.ti121 Tryz.ti122 Tryz.ti123 Tryz.ti124 Tryz.ti125 Tryz.ti126 Tryz.ti127 Tryz.ti128 Tryz.ti129 Tryz.ti130 Tryz.ti131 Tryz.ti132 Tryz.ti133 Tryz.ti134 Tryz.ti135 Tryz.ti136 Tryz.ti137 Tryz.ti138 Tryz.ti139 Tryz.ti140 Tryz.ti141 Tryz.ti142 Tryz.ti143 Tryz.ti144 Tryz.ti145 Tryz.ti146 Tryz.ti147 Tryz.ti148 Tryz.ti149 Tryz.ti150 Tryz.ti151 Tryz.ti152 Tryz.ti154 Tryz.ti155 Tryz.ti156 Tryz.ti157 Tryz.ti158 Tryz.ti159 Tryz.ti160 Tryz.ti161 Tryz.ti162 Tryz.ti163 Tryz.ti164 Tryz.ti165 Tryz.ti166 Tryz.ti167 Tryz.ti168 Tryz.ti169 Tryz.ti171 Tryz.ti172 Tryz.ti173 Tryz.ti174 Tryz.ti175 Tryz.ti176 Tryz.ti184 Tryz.ti185 Tryz.ti190
attribute [go_sem ↓] Tryz.w3 Tryz.w4 Tryz.w5 Tryz.w9 Tryz.w15 Tryz.w16 Tryz.w17 Tryz.w18 Tryz.w19 Tryz.w21 Tryz.w22 Tryz.w23 Tryz.w24 Tryz.w25 Tryz.w26 Tryz.w27 Tryz.w28 Tryz.w29 Tryz.w31 Tryz.w32 Tryz.w33 Tryz.w34 Tryz.w35 Tryz.w36 Tryz.w37 Tryz.w38 Tryz.w39 Tryz.w40 Tryz.w41 Tryz.w42 Tryz.w43 Tryz.w44 Tryz.w45 Tryz.w46 Tryz.w47 Tryz.w48 Tryz.w49 Tryz.w50 Tryz.w51 Tryz.w52 Tryz.w53 Tryz.w54 Tryz.w55 Tryz.w56 Tryz.w58 Tryz.w59 Tryz.w60 Tryz.w61 Tryz.w62 Tryz.w63 Tryz.w64 Tryz.w65 Tryz.w66 Tryz.w67 Tryz.w68 Tryz.w69 Tryz.w70 Tryz.w71 Tryz.w72 Tryz.w74 Tryz.w75 Tryz.w76 Tryz.w77 Tryz.w78 Tryz.w79 Tryz.w80 Tryz.w82 Tryz.w83 Tryz.w84 Tryz.w86 Tryz.w87 Tryz.w88 Tryz.w89 Tryz.w90 Tryz.w91 Tryz.w92 Tryz.w93 Tryz.w94 Tryz.w95 Tryz.w96 Tryz.w97 Tryz.w98 Tryz.w99 Tryz.w100 Tryz.w101 Tryz.w102 Tryz.w104 Tryz.w105 Tryz.w106 Tryz.w107 Tryz.w108 Tryz.w109 Tryz.w110 Tryz.w111 Tryz.w112 Tryz.w113 Tryz.w114 Tryz.w116 Tryz.w117 Tryz.w118 Tryz.w119 Tryz.w120 Tryz.w121 Tryz.w122 Tryz.w123 Tryz.w124 Tryz.w125 Tryz.w126 Tryz.w127 Tryz.w128 Tryz.w129 Tryz.w130 Tryz.w131 Tryz.w132 Tryz.w133 Tryz.w134 Tryz.w135 Tryz.w136 Tryz.w137 Tryz.w138 Tryz.w139 Tryz.w140 Tryz.w141 Tryz.w142 Tryz.w143 Tryz.w144 Tryz.w145 Tryz.w146 Tryz.w147 Tryz.w148 Tryz.w149 Tryz.w150 Tryz.w151 Tryz.w152 Tryz.w154 Tryz.w155 Tryz.w156 Tryz.w157 Tryz.w158 Tryz.w159 Tryz.w160 Tryz.w161 Tryz.w162 Tryz.w163 Tryz.w164 Tryz.w165 Tryz.w166 Tryz.w167 Tryz.w168 Tryz.w169 Tryz.w171 Tryz.w172 Tryz.w173 Tryz.w174 Tryz.w175 Tryz.w176 Tryz.w184 Tryz.w185 Tryz.w190
attribute [go_sem] Tryz.underlying3 Tryz.underlying4 Tryz.underlying5 Tryz.underlying9 Tryz.underlying15 Tryz.underlying16 Tryz.underlying17 Tryz.underlying18 Tryz.underlying19 Tryz.underlying21 Tryz.underlying22 Tryz.underlying23 Tryz.underlying24 Tryz.underlying25 Tryz.underlying26 Tryz.underlying27 Tryz.underlying28 Tryz.underlying29 Tryz.underlying31 Tryz.underlying32 Tryz.underlying33 Tryz.underlying34 Tryz.underlying35 Tryz.underlying36 Tryz.underlying37 Tryz.underlying38 Tryz.underlying39 Tryz.underlying40 Tryz.underlying41 Tryz.underlying42 Tryz.underlying43 Tryz.underlying44 Tryz.underlying45 Tryz.underlying46 Tryz.underlying47 Tryz.underlying48 Tryz.underlying49 Tryz.underlying50 Tryz.underlying51 Tryz.underlying52 Tryz.underlying53 Tryz.underlying54 Tryz.underlying55 Tryz.underlying56 Tryz.underlying58 Tryz.underlying59 Tryz.underlying60 Tryz.underlying61 Tryz.underlying62 Tryz.underlying63 Tryz.underlying64 Tryz.underlying65 Tryz.underlying66 Tryz.underlying67 Tryz.underlying68 Tryz.underlying69 Tryz.underlying70 Tryz.underlying71 Tryz.underlying72 Tryz.underlying74 Tryz.underlying75 Tryz.underlying76 Tryz.underlying77 Tryz.underlying78 Tryz.underlying79 Tryz.underlying80 Tryz.underlying82 Tryz.underlying83 Tryz.underlying84 Tryz.underlying86 Tryz.underlying87 Tryz.underlying88 Tryz.underlying89 Tryz.underlying90 Tryz.underlying91 Tryz.underlying92 Tryz.underlying93 Tryz.underlying94 Tryz.underlying95 Tryz.underlying96 Tryz.underlying97 Tryz.underlying98 Tryz.underlying99 Tryz.underlying100 Tryz.underlying101 Tryz.underlying102 Tryz.underlying104 Tryz.underlying105 Tryz.underlying106 Tryz.underlying107 Tryz.underlying108 Tryz.underlying109 Tryz.underlying110 Tryz.underlying111 Tryz.underlying112 Tryz.underlying113 Tryz.underlying114 Tryz.underlying116 Tryz.underlying117 Tryz.underlying118 Tryz.underlying119 Tryz.underlying120 Tryz.underlying121 Tryz.underlying122 Tryz.underlying123 Tryz.underlying124 Tryz.underlying125 Tryz.underlying126 Tryz.underlying127 Tryz.underlying128 Tryz.underlying129 Tryz.underlying130 Tryz.underlying131 Tryz.underlying132 Tryz.underlying133 Tryz.underlying134 Tryz.underlying135 Tryz.underlying136 Tryz.underlying137 Tryz.underlying138 Tryz.underlying139 Tryz.underlying140 Tryz.underlying141 Tryz.underlying142 Tryz.underlying143 Tryz.underlying144 Tryz.underlying145 Tryz.underlying146 Tryz.underlying147 Tryz.underlying148 Tryz.underlying149 Tryz.underlying150 Tryz.underlying151 Tryz.underlying152 Tryz.underlying154 Tryz.underlying155 Tryz.underlying156 Tryz.underlying157 Tryz.underlying158 Tryz.underlying159 Tryz.underlying160 Tryz.underlying161 Tryz.underlying162 Tryz.underlying163 Tryz.underlying164 Tryz.underlying165 Tryz.underlying166 Tryz.underlying167 Tryz.underlying168 Tryz.underlying169 Tryz.underlying171 Tryz.underlying172 Tryz.underlying173 Tryz.underlying174 Tryz.underlying175 Tryz.underlying176 Tryz.underlying184 Tryz.underlying185 Tryz.underlying190
end Go.Proofs
