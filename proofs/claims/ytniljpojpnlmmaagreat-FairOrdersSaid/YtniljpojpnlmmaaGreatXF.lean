/-
  The walk and the plain law of FairOrders, side by side.
-/
import Derived.Test.YtniljpojpnlmmaaGreatL
import Derived.Test.YtniljpojpnlmmaaGreatF1
