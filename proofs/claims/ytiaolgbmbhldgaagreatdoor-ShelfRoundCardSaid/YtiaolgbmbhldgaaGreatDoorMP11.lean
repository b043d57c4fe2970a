/- Part 11. -/
import Derived.Test.YtiaolgbmbhldgaaGreatDoorMP10
section

end
