/- Further rules of the walk. -/
import Derived.Test.YtanoekhdoelkbaaGreatRat
set_option linter.unusedSimpArgs false
set_option linter.unusedVariables false
namespace Go.Proofs.Qqz
open Go
section
variable {P : Program} {w : World} {A : Nat → Prop} {ι : Owns} {σ : St} {e : Env} {K : KT}
/-- Nil slices behind an address read as empty ones. -/
def nlP : AV → AV
  | .pa row c => .pa (row.map (nlV 3)) c
  | x => x

theorem nlP_VR {n : Nat} {v : Value} {x : AV} (h : VR w A ι n v x) : VR w A ι n v (nlP x) := by
  cases h with
  | pa cv hA hc h =>
    refine .pa cv hA (fun j a hj => ?_) (fun j a hj => ?_)
    · rw [List.getElem?_map] at hj
      cases hr : (_ : List AV)[j]? with
      | none => rw [hr] at hj; cases hj
      | some b => exact hc j b hr
    · rw [List.getElem?_map] at hj
      cases hr : (_ : List AV)[j]? with
      | none => rw [hr] at hj; cases hj
      | some b =>
        rw [hr] at hj
        cases hj
        exact nlV_VR 3 _ _ (h j b hr)
  | any => exact .any
  | lit => exact .lit
  | agg vs l hl h => exact .agg vs l hl h
  | tup vs l hl h => exact .tup vs l hl h
  | clo vs l hl h => exact .clo vs l hl h
  | psz => exact .psz
  | ps wd cv hcap hA hwd hc h => exact .ps wd cv hcap hA hwd hc h
  | os hn hv hcap hl => exact .os hn hv hcap hl
  | osz hn => exact .osz hn
  | ptr hn hv => exact .ptr hn hv

theorem ACall.nlP {f : FuncId} {args : List AV} (h : ACall P f args e σ (fun v e σ => K (Qqz.nlP v) e σ)) : ACall P f args e σ K := by
  refine ⟨h.1, fun w A ι vs hr hvs => (h.2 w A ι vs hr hvs).mono ?_⟩
  rintro en w' ⟨v, h1, A', ι', σ', av, g1, g2, g4, hK⟩
  exact ⟨v, h1, A', ι', σ', _, g1, g2, nlP_VR g4, hK⟩

end
end Go.Proofs.Qqz
