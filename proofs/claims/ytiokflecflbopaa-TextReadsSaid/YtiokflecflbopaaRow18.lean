/- Layer 18: what the rows of its laws import. -/
import Derived.Test.YtiokflecflbopaaOpn
import Derived.Test.YtiokflecflbopaaTx5
