/- A call of a side and of the document's: printed for one shape, checked by the kernel for all. No conditions. -/
import Derived.Test.YtjeinfbicgpkiaaGpD
import Derived.Test.YtjeinfbicgpkiaaEvD
set_option linter.unusedVariables false
namespace Go.Ev
open Go Go.Proofs Go.Spec
theorem t_B6n (cum i cm nx ex dkd dmo dnu dnx dex dkp sid ssn tsn by_ wk wm a : Int) (dis : Bool) (n cl : Nat) (kds sids ssns tsns bys wks wms rs os ps qs zs bs dos dps dqs dcs dss ws : List Int) (wss : List (List Int)) (m : Nat) (o : Option (Int × Int × List Int × Int)) (kp : Option (Int × Int)) (L M : Nat) (k : SV → St → Prop) : goA L M ⟨n, kds, sids, ssns, tsns, bys, wks, wss, wms, rs⟩ cum i k ⟨os, ps, qs, cm, zs, bs, cl, nx, ex, o, kp⟩ ⟨dos, dps, dqs, dcs, dis, dkd, dss, dmo, dnu, dnx, dex, dkp⟩ ⟨((m + 6 : Nat) : Int), sid, ssn, tsn, by_, wk, ws, wm, a⟩ =
  (Again (goB L M ⟨n, kds, sids, ssns, tsns, bys, wks, wss, wms, rs⟩ cum i k ⟨os, ps, qs, cm, zs, bs, cl, nx, ex, o, kp⟩ ⟨dos, dps, dqs, dcs, dis, dkd, dss, dmo, dnu, dnx, dex, dkp⟩ true)) := by
  rcases o with _ | ⟨_, _, _, _⟩ <;> rcases kp with _ | ⟨_, _⟩ <;> kernel_rfl
end Go.Ev
