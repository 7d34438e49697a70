/- A config in memory. No conditions: definitions. -/
import Derived.Test.YtjbinhihkfidoaaGreatBb
namespace Go.Proofs.YtjbinhihkfidoaaGreat
open Go Go.Sl

/-- a config in memory -/
structure Cfg where
  paths : Int
  mtu : Int
  streams : Int
  sroom : Int
  rroom : Int
  cap : Int
  ri : Int
  rmin : Int
  rmax : Int
  delay : Int
  life : Int
  beat : Int
  retrans : Int
  tries : Int
def Cfg.cells (c : Cfg) : List Value := [.int .i64 c.paths, .int .i64 c.mtu, .int .i64 c.streams, .int .i64 c.sroom, .int .i64 c.rroom, .int .i64 c.cap, .int .i64 c.ri, .int .i64 c.rmin, .int .i64 c.rmax, .int .i64 c.delay, .int .i64 c.life, .int .i64 c.beat, .int .i64 c.retrans, .int .i64 c.tries]
end Go.Proofs.YtjbinhihkfidoaaGreat
