/- The law CookieKeeps: the context. Definitions alone. No conditions. -/
import Derived.Test.YtljmfpkkcjcfmaaOpD
import Derived.Test.YtljmfpkkcjcfmaaLkD
namespace Go.Ev
open Go Go.Proofs Go.Spec
noncomputable def cxKe : Cx := mkCx Try.prog [(8, sTrue), (7, sOpen), (10, sSame)] [] []
end Go.Ev
