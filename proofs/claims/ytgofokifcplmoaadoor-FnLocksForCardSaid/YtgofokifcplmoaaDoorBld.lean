/- Contracts of strings.Builder at this dump: copyCheck, WriteByte, WriteString (walked here, over the library's words for a builder), String (the library's contract, laid in plain words). -/
import Derived.Test.YtgofokifcplmoaaDoorBase
import Derived.Shelf.Strings.BuilderK
