/- Leases: one added, counted, in plain words. No condition. -/
import Derived.Test.YtlmmeeeoljlgcaaDoorRenewP
set_option linter.unusedVariables false
set_option linter.unusedSimpArgs false
namespace Go.Proofs.YtlmmeeeoljlgcaaDoor
def addP (us : List Lease) (l : Lease) : List Lease × Bool := if bookOk (us ++ [l]) = true then (us ++ [l], true) else (us, false)
def addU (us : List Lease) (l : Lease) : List Lease × Bool := if bookOk us = true then addP us l else (us, false)
def cntU (us : List Lease) (p : ByteArray) : Int := if (bookOk us && pathF p) = true then ((goneL (isUnder p) us).length : Int) else -1
end Go.Proofs.YtlmmeeeoljlgcaaDoor
