/- The shelf's further contracts lie in the one shelf's text. -/
import Derived.Test.YtbjhmgdkjbphkaaDoorShelf
