/- Layer 18: what the rows of its further laws import. -/
import Derived.Test.YtiokflecflbopaaTx8
