/- FnExactCertOk: what the row needs. No condition. -/
import Derived.Test.YtonbebacioocnaaDoorCert
import Derived.Test.YtonbebacioocnaaDoorShape
namespace Go.Proofs.YtonbebacioocnaaDoor
end Go.Proofs.YtonbebacioocnaaDoor
