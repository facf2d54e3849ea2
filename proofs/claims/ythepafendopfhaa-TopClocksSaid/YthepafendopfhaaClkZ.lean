/- TopClocks: the walk and the opening of its arguments. -/
import Derived.Test.YthepafendopfhaaClkW
import Derived.Test.YthepafendopfhaaClkO
