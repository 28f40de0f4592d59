/- HxFn07: written by gen.py -/
import Derived.Test.YtifcegbomagcpaaDoorHxDefs
namespace Hx.Fn
open Go
end Hx.Fn
