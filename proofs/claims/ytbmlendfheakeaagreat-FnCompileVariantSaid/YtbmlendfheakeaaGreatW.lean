/-
  All walks.
-/
import Derived.Test.YtbmlendfheakeaaGreatW7
