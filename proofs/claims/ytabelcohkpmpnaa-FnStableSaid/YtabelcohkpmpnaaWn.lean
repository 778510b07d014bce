/- The base of the texts of routes. -/
import Derived.Test.YtabelcohkpmpnaaW3
