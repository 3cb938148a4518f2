/- The contracts of net.Take, net.Cut, slices.Clone and slices.Delete, under one name. Condition: none. -/
import Derived.Test.YtghhhpcdakdjjaaNetHandC
