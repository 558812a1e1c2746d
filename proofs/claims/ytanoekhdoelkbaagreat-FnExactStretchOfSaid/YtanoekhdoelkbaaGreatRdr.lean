/- How the laws' arguments read. -/
import Derived.Test.YtanoekhdoelkbaaGreatRow
import Derived.Test.YtanoekhdoelkbaaGreatRows
set_option linter.unusedSimpArgs false
set_option linter.unusedVariables false
namespace Go.Proofs.Qqz
open Go

section
variable {H : Type} {enc : TypeId × Value → H}

theorem rdInts : Rd enc Tryz.prog 43 1 (fun l : List Int => [sl intRow l]) (fun l => l.length ≤ 9223372036854775807) :=
  (rd_slice Tryz.underlying43 (by kernel_rfl) (by omega) (rd_int Tryz.underlying3)).map id (fun _ => rfl) (fun _ h => h.1)

theorem rdBig : Rd enc Tryz.prog 65 2 (fun x : Bool × List Int => [.lit (.bool x.1), ints x.2]) (fun x => x.2.length ≤ 9223372036854775807) :=
  (rd_struct2 Tryz.underlying65 (by kernel_rfl) rfl rfl (by kernel_rfl) (by kernel_rfl) (rd_bool Tryz.underlying4) rdInts).map id (fun _ => rfl) (fun _ h => h.2)

theorem rdRat : Rd enc Tryz.prog 67 3 ratRow RV.big :=
  (rd_struct2 Tryz.underlying67 (by kernel_rfl) rfl rfl (by kernel_rfl) (by kernel_rfl) rdBig rdInts).map (fun x : (Bool × List Int) × List Int => (⟨x.1.1, x.1.2, x.2⟩ : RV)) (fun _ => rfl) (fun x h => by exact h)

theorem rdRats : Rd enc Tryz.prog 26 1 (fun l : List RV => [sl ratRow l]) bigQ :=
  (rd_slice Tryz.underlying26 (by kernel_rfl) (by omega) rdRat).map id (fun _ => rfl) (fun _ h => h)

theorem rdJoint : Rd enc Tryz.prog 121 4 jointRow JV.big :=
  (rd_struct4 Tryz.underlying121 (by kernel_rfl) rfl rfl rfl rfl (by kernel_rfl) (by kernel_rfl) (by kernel_rfl) (by kernel_rfl) (rd_string Tryz.underlying9) (rd_int Tryz.underlying3) (rd_int Tryz.underlying3) (rd_bool Tryz.underlying4)).map (fun x : ByteArray × Int × Int × Bool => (⟨x.1, x.2.1, x.2.2.1, x.2.2.2⟩ : JV)) (fun _ => rfl) (fun x h => by exact h.1)

theorem rdMember : Rd enc Tryz.prog 129 3 memRow (fun _ => True) :=
  (rd_struct3 Tryz.underlying129 (by kernel_rfl) rfl rfl rfl (by kernel_rfl) (by kernel_rfl) (by kernel_rfl) (rd_int Tryz.underlying3) (rd_int Tryz.underlying3) (rd_int Tryz.underlying3)).map (fun x => (⟨x.1, x.2.1, x.2.2⟩ : MV)) (fun _ => rfl) (fun _ _ => trivial)

theorem rdStruct : Rd enc Tryz.prog 25 2 (fun v : SV => [sl jointRow v.joints, sl memRow v.members]) SV.big :=
  (rd_struct2 Tryz.underlying25 (by kernel_rfl) rfl rfl (by kernel_rfl) (by kernel_rfl) (rd_slice Tryz.underlying22 (by kernel_rfl) (by omega) rdJoint) (rd_slice Tryz.underlying23 (by kernel_rfl) (by omega) rdMember)).map (fun x => (⟨x.1, x.2⟩ : SV)) (fun _ => rfl) (fun _ h => ⟨h.1, h.2.1⟩)
end
end Go.Proofs.Qqz
