/- HxFn07: written by gen.py -/
import Derived.Test.YtifcegbomagcpaaGreatDoorHxDefs
namespace Hx.Fn
open Go
end Hx.Fn
