import Derived.Test.YtjgaidojohgenaaDoorProg
namespace Go.Proofs
end Go.Proofs
