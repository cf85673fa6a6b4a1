/- Contracts of functions of the program, for what calls them, and the law that its name tells. -/
import Derived.Test.YthlmgkfipbphmaaAN
import Derived.Test.YthlmgkfipbphmaaLD
