/- What must hold, body by body, as the kernel reckons it. -/
import Derived.Test.YtdghfmbbohlcgaaGreatDoorBoI
set_option linter.unusedVariables false
set_option linter.unusedSimpArgs false
namespace Go.Vm
open Go.RowKit
/-- The listed variable stands. -/
def NetIn (H : View) : Prop := ∃ T fz, H 0 = some (.cells #[.int .u32 167903232, .int .i64 24] T fz)
def cW : List V → View → Option (Option Prop × V)
  | [], H => some (some (NetIn H), .lit (.bool true))
  | _, _ => none
def pcW : Pc := pcOn 7 cW noPc
set_option maxRecDepth 100000
def lawVC (H : View) (aaddr abits ahop apref ametric apeer apid aorig asess : Int) (aext : Bool) (ab1 ao1 an1 ac1 ab2 ao2 an2 ac2 ab3 ao3 an3 ac3 : Nat) (af1 af2 af3 : Nat → List V) (baddr bbits bhop bpref bmetric bpeer bpid borig bsess : Int) (bext : Bool) (bb1 bo1 bn1 bc1 bb2 bo2 bn2 bc2 bb3 bo3 bn3 bc3 : Nat) (bf1 bf2 bf3 : Nat → List V) (caddr cbits chop cpref cmetric cpeer cpid corig csess : Int) (cext : Bool) (cb1 co1 cn1 cc1 cb2 co2 cn2 cc2 cb3 co3 cn3 cc3 : Nat) (cf1 cf2 cf3 : Nat → List V) (x y z : Int) (K : KV) : Prop :=
  NetIn H ∧
    bifP
      (decide
        (ordK { sess := asess, pref := apref, plen := Int.ofNat an1, metric := ametric, ext := aext, ident := orA aorig apid, clen := Int.ofNat an3, peer := apeer }
            { sess := asess, pref := apref, plen := Int.ofNat an1, metric := ametric, ext := aext, ident := orA aorig apid, clen := Int.ofNat an3, peer := apeer } x x <
          0))
      (K H (V.lit (Value.bool false)) 3
        (PT.nd
          (some
            (Ob.cells 29
              [V.lit (Value.int IntKind.u32 aaddr), V.lit (Value.int IntKind.i64 abits), V.lit (Value.int IntKind.u32 ahop), V.lit (Value.int IntKind.i64 apref), V.lit (Value.int IntKind.i64 ametric),
                V.xs ab1 ao1 0 1 an1 ac1 af1, V.xs ab2 ao2 0 1 an2 ac2 af2, V.lit (Value.int IntKind.u32 apeer), V.lit (Value.int IntKind.u32 apid), V.lit (Value.bool aext),
                V.lit (Value.int IntKind.u32 aorig), V.xs ab3 ao3 0 1 an3 ac3 af3, V.lit (Value.int IntKind.i64 asess)]))
          (PT.nd
            (some
              (Ob.cells 29
                [V.lit (Value.int IntKind.u32 baddr), V.lit (Value.int IntKind.i64 bbits), V.lit (Value.int IntKind.u32 bhop), V.lit (Value.int IntKind.i64 bpref), V.lit (Value.int IntKind.i64 bmetric),
                  V.xs bb1 bo1 0 1 bn1 bc1 bf1, V.xs bb2 bo2 0 1 bn2 bc2 bf2, V.lit (Value.int IntKind.u32 bpeer), V.lit (Value.int IntKind.u32 bpid), V.lit (Value.bool bext),
                  V.lit (Value.int IntKind.u32 borig), V.xs bb3 bo3 0 1 bn3 bc3 bf3, V.lit (Value.int IntKind.i64 bsess)]))
            PT.nil PT.nil)
          (PT.nd
            (some
              (Ob.cells 29
                [V.lit (Value.int IntKind.u32 caddr), V.lit (Value.int IntKind.i64 cbits), V.lit (Value.int IntKind.u32 chop), V.lit (Value.int IntKind.i64 cpref), V.lit (Value.int IntKind.i64 cmetric),
                  V.xs cb1 co1 0 1 cn1 cc1 cf1, V.xs cb2 co2 0 1 cn2 cc2 cf2, V.lit (Value.int IntKind.u32 cpeer), V.lit (Value.int IntKind.u32 cpid), V.lit (Value.bool cext),
                  V.lit (Value.int IntKind.u32 corig), V.xs cb3 co3 0 1 cn3 cc3 cf3, V.lit (Value.int IntKind.i64 csess)]))
            PT.nil PT.nil)))
      (bifP
        (decide
          (ordK { sess := asess, pref := apref, plen := Int.ofNat an1, metric := ametric, ext := aext, ident := orA aorig apid, clen := Int.ofNat an3, peer := apeer }
              { sess := bsess, pref := bpref, plen := Int.ofNat bn1, metric := bmetric, ext := bext, ident := orA borig bpid, clen := Int.ofNat bn3, peer := bpeer } x y <
            0))
        (bifP
          (decide
            (ordK { sess := bsess, pref := bpref, plen := Int.ofNat bn1, metric := bmetric, ext := bext, ident := orA borig bpid, clen := Int.ofNat bn3, peer := bpeer }
                { sess := asess, pref := apref, plen := Int.ofNat an1, metric := ametric, ext := aext, ident := orA aorig apid, clen := Int.ofNat an3, peer := apeer } y x <
              0))
          (K H (V.lit (Value.bool false)) 3
            (PT.nd
              (some
                (Ob.cells 29
                  [V.lit (Value.int IntKind.u32 aaddr), V.lit (Value.int IntKind.i64 abits), V.lit (Value.int IntKind.u32 ahop), V.lit (Value.int IntKind.i64 apref),
                    V.lit (Value.int IntKind.i64 ametric), V.xs ab1 ao1 0 1 an1 ac1 af1, V.xs ab2 ao2 0 1 an2 ac2 af2, V.lit (Value.int IntKind.u32 apeer), V.lit (Value.int IntKind.u32 apid),
                    V.lit (Value.bool aext), V.lit (Value.int IntKind.u32 aorig), V.xs ab3 ao3 0 1 an3 ac3 af3, V.lit (Value.int IntKind.i64 asess)]))
              (PT.nd
                (some
                  (Ob.cells 29
                    [V.lit (Value.int IntKind.u32 baddr), V.lit (Value.int IntKind.i64 bbits), V.lit (Value.int IntKind.u32 bhop), V.lit (Value.int IntKind.i64 bpref),
                      V.lit (Value.int IntKind.i64 bmetric), V.xs bb1 bo1 0 1 bn1 bc1 bf1, V.xs bb2 bo2 0 1 bn2 bc2 bf2, V.lit (Value.int IntKind.u32 bpeer), V.lit (Value.int IntKind.u32 bpid),
                      V.lit (Value.bool bext), V.lit (Value.int IntKind.u32 borig), V.xs bb3 bo3 0 1 bn3 bc3 bf3, V.lit (Value.int IntKind.i64 bsess)]))
                PT.nil PT.nil)
              (PT.nd
                (some
                  (Ob.cells 29
                    [V.lit (Value.int IntKind.u32 caddr), V.lit (Value.int IntKind.i64 cbits), V.lit (Value.int IntKind.u32 chop), V.lit (Value.int IntKind.i64 cpref),
                      V.lit (Value.int IntKind.i64 cmetric), V.xs cb1 co1 0 1 cn1 cc1 cf1, V.xs cb2 co2 0 1 cn2 cc2 cf2, V.lit (Value.int IntKind.u32 cpeer), V.lit (Value.int IntKind.u32 cpid),
                      V.lit (Value.bool cext), V.lit (Value.int IntKind.u32 corig), V.xs cb3 co3 0 1 cn3 cc3 cf3, V.lit (Value.int IntKind.i64 csess)]))
                PT.nil PT.nil)))
          (bifP
            (decide
              (ordK { sess := asess, pref := apref, plen := Int.ofNat an1, metric := ametric, ext := aext, ident := orA aorig apid, clen := Int.ofNat an3, peer := apeer }
                  { sess := bsess, pref := bpref, plen := Int.ofNat bn1, metric := bmetric, ext := bext, ident := orA borig bpid, clen := Int.ofNat bn3, peer := bpeer } x y <
                0))
            (bifP
              (decide
                (ordK { sess := bsess, pref := bpref, plen := Int.ofNat bn1, metric := bmetric, ext := bext, ident := orA borig bpid, clen := Int.ofNat bn3, peer := bpeer }
                    { sess := csess, pref := cpref, plen := Int.ofNat cn1, metric := cmetric, ext := cext, ident := orA corig cpid, clen := Int.ofNat cn3, peer := cpeer } y z <
                  0))
              (bifP
                (!decide
                    (ordK { sess := asess, pref := apref, plen := Int.ofNat an1, metric := ametric, ext := aext, ident := orA aorig apid, clen := Int.ofNat an3, peer := apeer }
                        { sess := csess, pref := cpref, plen := Int.ofNat cn1, metric := cmetric, ext := cext, ident := orA corig cpid, clen := Int.ofNat cn3, peer := cpeer } x z <
                      0))
                (K H (V.lit (Value.bool false)) 3
                  (PT.nd
                    (some
                      (Ob.cells 29
                        [V.lit (Value.int IntKind.u32 aaddr), V.lit (Value.int IntKind.i64 abits), V.lit (Value.int IntKind.u32 ahop), V.lit (Value.int IntKind.i64 apref),
                          V.lit (Value.int IntKind.i64 ametric), V.xs ab1 ao1 0 1 an1 ac1 af1, V.xs ab2 ao2 0 1 an2 ac2 af2, V.lit (Value.int IntKind.u32 apeer), V.lit (Value.int IntKind.u32 apid),
                          V.lit (Value.bool aext), V.lit (Value.int IntKind.u32 aorig), V.xs ab3 ao3 0 1 an3 ac3 af3, V.lit (Value.int IntKind.i64 asess)]))
                    (PT.nd
                      (some
                        (Ob.cells 29
                          [V.lit (Value.int IntKind.u32 baddr), V.lit (Value.int IntKind.i64 bbits), V.lit (Value.int IntKind.u32 bhop), V.lit (Value.int IntKind.i64 bpref),
                            V.lit (Value.int IntKind.i64 bmetric), V.xs bb1 bo1 0 1 bn1 bc1 bf1, V.xs bb2 bo2 0 1 bn2 bc2 bf2, V.lit (Value.int IntKind.u32 bpeer), V.lit (Value.int IntKind.u32 bpid),
                            V.lit (Value.bool bext), V.lit (Value.int IntKind.u32 borig), V.xs bb3 bo3 0 1 bn3 bc3 bf3, V.lit (Value.int IntKind.i64 bsess)]))
                      PT.nil PT.nil)
                    (PT.nd
                      (some
                        (Ob.cells 29
                          [V.lit (Value.int IntKind.u32 caddr), V.lit (Value.int IntKind.i64 cbits), V.lit (Value.int IntKind.u32 chop), V.lit (Value.int IntKind.i64 cpref),
                            V.lit (Value.int IntKind.i64 cmetric), V.xs cb1 co1 0 1 cn1 cc1 cf1, V.xs cb2 co2 0 1 cn2 cc2 cf2, V.lit (Value.int IntKind.u32 cpeer), V.lit (Value.int IntKind.u32 cpid),
                            V.lit (Value.bool cext), V.lit (Value.int IntKind.u32 corig), V.xs cb3 co3 0 1 cn3 cc3 cf3, V.lit (Value.int IntKind.i64 csess)]))
                      PT.nil PT.nil)))
                (bifP
                  (!decide
                      (ordK { sess := asess, pref := apref, plen := Int.ofNat an1, metric := ametric, ext := aext, ident := orA aorig apid, clen := Int.ofNat an3, peer := apeer }
                          { sess := bsess, pref := bpref, plen := Int.ofNat bn1, metric := bmetric, ext := bext, ident := orA borig bpid, clen := Int.ofNat bn3, peer := bpeer } x y <
                        0))
                  (bifP
                    (!decide
                        (ordK { sess := bsess, pref := bpref, plen := Int.ofNat bn1, metric := bmetric, ext := bext, ident := orA borig bpid, clen := Int.ofNat bn3, peer := bpeer }
                            { sess := asess, pref := apref, plen := Int.ofNat an1, metric := ametric, ext := aext, ident := orA aorig apid, clen := Int.ofNat an3, peer := apeer } y x <
                          0))
                    (bifP (asess != -1)
                      (bifP (bsess == asess)
                        (bifP (apref == bpref)
                          (bifP (Int.ofNat an1 == Int.ofNat bn1)
                            (bifP (ametric == bmetric)
                              (bifP (aext == bext)
                                (bifP (x == y)
                                  (bifP (Int.ofNat an3 == Int.ofNat bn3)
                                    (K H (V.lit (Value.bool (apeer == bpeer))) 3
                                      (PT.nd
                                        (some
                                          (Ob.cells 29
                                            [V.lit (Value.int IntKind.u32 aaddr), V.lit (Value.int IntKind.i64 abits), V.lit (Value.int IntKind.u32 ahop), V.lit (Value.int IntKind.i64 apref),
                                              V.lit (Value.int IntKind.i64 ametric), V.xs ab1 ao1 0 1 an1 ac1 af1, V.xs ab2 ao2 0 1 an2 ac2 af2, V.lit (Value.int IntKind.u32 apeer),
                                              V.lit (Value.int IntKind.u32 apid), V.lit (Value.bool aext), V.lit (Value.int IntKind.u32 aorig), V.xs ab3 ao3 0 1 an3 ac3 af3,
                                              V.lit (Value.int IntKind.i64 asess)]))
                                        (PT.nd
                                          (some
                                            (Ob.cells 29
                                              [V.lit (Value.int IntKind.u32 baddr), V.lit (Value.int IntKind.i64 bbits), V.lit (Value.int IntKind.u32 bhop), V.lit (Value.int IntKind.i64 bpref),
                                                V.lit (Value.int IntKind.i64 bmetric), V.xs bb1 bo1 0 1 bn1 bc1 bf1, V.xs bb2 bo2 0 1 bn2 bc2 bf2, V.lit (Value.int IntKind.u32 bpeer),
                                                V.lit (Value.int IntKind.u32 bpid), V.lit (Value.bool bext), V.lit (Value.int IntKind.u32 borig), V.xs bb3 bo3 0 1 bn3 bc3 bf3,
                                                V.lit (Value.int IntKind.i64 bsess)]))
                                          PT.nil PT.nil)
                                        (PT.nd
                                          (some
                                            (Ob.cells 29
                                              [V.lit (Value.int IntKind.u32 caddr), V.lit (Value.int IntKind.i64 cbits), V.lit (Value.int IntKind.u32 chop), V.lit (Value.int IntKind.i64 cpref),
                                                V.lit (Value.int IntKind.i64 cmetric), V.xs cb1 co1 0 1 cn1 cc1 cf1, V.xs cb2 co2 0 1 cn2 cc2 cf2, V.lit (Value.int IntKind.u32 cpeer),
                                                V.lit (Value.int IntKind.u32 cpid), V.lit (Value.bool cext), V.lit (Value.int IntKind.u32 corig), V.xs cb3 co3 0 1 cn3 cc3 cf3,
                                                V.lit (Value.int IntKind.i64 csess)]))
                                          PT.nil PT.nil)))
                                    (K H (V.lit (Value.bool false)) 3
                                      (PT.nd
                                        (some
                                          (Ob.cells 29
                                            [V.lit (Value.int IntKind.u32 aaddr), V.lit (Value.int IntKind.i64 abits), V.lit (Value.int IntKind.u32 ahop), V.lit (Value.int IntKind.i64 apref),
                                              V.lit (Value.int IntKind.i64 ametric), V.xs ab1 ao1 0 1 an1 ac1 af1, V.xs ab2 ao2 0 1 an2 ac2 af2, V.lit (Value.int IntKind.u32 apeer),
                                              V.lit (Value.int IntKind.u32 apid), V.lit (Value.bool aext), V.lit (Value.int IntKind.u32 aorig), V.xs ab3 ao3 0 1 an3 ac3 af3,
                                              V.lit (Value.int IntKind.i64 asess)]))
                                        (PT.nd
                                          (some
                                            (Ob.cells 29
                                              [V.lit (Value.int IntKind.u32 baddr), V.lit (Value.int IntKind.i64 bbits), V.lit (Value.int IntKind.u32 bhop), V.lit (Value.int IntKind.i64 bpref),
                                                V.lit (Value.int IntKind.i64 bmetric), V.xs bb1 bo1 0 1 bn1 bc1 bf1, V.xs bb2 bo2 0 1 bn2 bc2 bf2, V.lit (Value.int IntKind.u32 bpeer),
                                                V.lit (Value.int IntKind.u32 bpid), V.lit (Value.bool bext), V.lit (Value.int IntKind.u32 borig), V.xs bb3 bo3 0 1 bn3 bc3 bf3,
                                                V.lit (Value.int IntKind.i64 bsess)]))
                                          PT.nil PT.nil)
                                        (PT.nd
                                          (some
                                            (Ob.cells 29
                                              [V.lit (Value.int IntKind.u32 caddr), V.lit (Value.int IntKind.i64 cbits), V.lit (Value.int IntKind.u32 chop), V.lit (Value.int IntKind.i64 cpref),
                                                V.lit (Value.int IntKind.i64 cmetric), V.xs cb1 co1 0 1 cn1 cc1 cf1, V.xs cb2 co2 0 1 cn2 cc2 cf2, V.lit (Value.int IntKind.u32 cpeer),
                                                V.lit (Value.int IntKind.u32 cpid), V.lit (Value.bool cext), V.lit (Value.int IntKind.u32 corig), V.xs cb3 co3 0 1 cn3 cc3 cf3,
                                                V.lit (Value.int IntKind.i64 csess)]))
                                          PT.nil PT.nil))))
                                  (K H (V.lit (Value.bool false)) 3
                                    (PT.nd
                                      (some
                                        (Ob.cells 29
                                          [V.lit (Value.int IntKind.u32 aaddr), V.lit (Value.int IntKind.i64 abits), V.lit (Value.int IntKind.u32 ahop), V.lit (Value.int IntKind.i64 apref),
                                            V.lit (Value.int IntKind.i64 ametric), V.xs ab1 ao1 0 1 an1 ac1 af1, V.xs ab2 ao2 0 1 an2 ac2 af2, V.lit (Value.int IntKind.u32 apeer),
                                            V.lit (Value.int IntKind.u32 apid), V.lit (Value.bool aext), V.lit (Value.int IntKind.u32 aorig), V.xs ab3 ao3 0 1 an3 ac3 af3,
                                            V.lit (Value.int IntKind.i64 asess)]))
                                      (PT.nd
                                        (some
                                          (Ob.cells 29
                                            [V.lit (Value.int IntKind.u32 baddr), V.lit (Value.int IntKind.i64 bbits), V.lit (Value.int IntKind.u32 bhop), V.lit (Value.int IntKind.i64 bpref),
                                              V.lit (Value.int IntKind.i64 bmetric), V.xs bb1 bo1 0 1 bn1 bc1 bf1, V.xs bb2 bo2 0 1 bn2 bc2 bf2, V.lit (Value.int IntKind.u32 bpeer),
                                              V.lit (Value.int IntKind.u32 bpid), V.lit (Value.bool bext), V.lit (Value.int IntKind.u32 borig), V.xs bb3 bo3 0 1 bn3 bc3 bf3,
                                              V.lit (Value.int IntKind.i64 bsess)]))
                                        PT.nil PT.nil)
                                      (PT.nd
                                        (some
                                          (Ob.cells 29
                                            [V.lit (Value.int IntKind.u32 caddr), V.lit (Value.int IntKind.i64 cbits), V.lit (Value.int IntKind.u32 chop), V.lit (Value.int IntKind.i64 cpref),
                                              V.lit (Value.int IntKind.i64 cmetric), V.xs cb1 co1 0 1 cn1 cc1 cf1, V.xs cb2 co2 0 1 cn2 cc2 cf2, V.lit (Value.int IntKind.u32 cpeer),
                                              V.lit (Value.int IntKind.u32 cpid), V.lit (Value.bool cext), V.lit (Value.int IntKind.u32 corig), V.xs cb3 co3 0 1 cn3 cc3 cf3,
                                              V.lit (Value.int IntKind.i64 csess)]))
                                        PT.nil PT.nil))))
                                (K H (V.lit (Value.bool false)) 3
                                  (PT.nd
                                    (some
                                      (Ob.cells 29
                                        [V.lit (Value.int IntKind.u32 aaddr), V.lit (Value.int IntKind.i64 abits), V.lit (Value.int IntKind.u32 ahop), V.lit (Value.int IntKind.i64 apref),
                                          V.lit (Value.int IntKind.i64 ametric), V.xs ab1 ao1 0 1 an1 ac1 af1, V.xs ab2 ao2 0 1 an2 ac2 af2, V.lit (Value.int IntKind.u32 apeer),
                                          V.lit (Value.int IntKind.u32 apid), V.lit (Value.bool aext), V.lit (Value.int IntKind.u32 aorig), V.xs ab3 ao3 0 1 an3 ac3 af3,
                                          V.lit (Value.int IntKind.i64 asess)]))
                                    (PT.nd
                                      (some
                                        (Ob.cells 29
                                          [V.lit (Value.int IntKind.u32 baddr), V.lit (Value.int IntKind.i64 bbits), V.lit (Value.int IntKind.u32 bhop), V.lit (Value.int IntKind.i64 bpref),
                                            V.lit (Value.int IntKind.i64 bmetric), V.xs bb1 bo1 0 1 bn1 bc1 bf1, V.xs bb2 bo2 0 1 bn2 bc2 bf2, V.lit (Value.int IntKind.u32 bpeer),
                                            V.lit (Value.int IntKind.u32 bpid), V.lit (Value.bool bext), V.lit (Value.int IntKind.u32 borig), V.xs bb3 bo3 0 1 bn3 bc3 bf3,
                                            V.lit (Value.int IntKind.i64 bsess)]))
                                      PT.nil PT.nil)
                                    (PT.nd
                                      (some
                                        (Ob.cells 29
                                          [V.lit (Value.int IntKind.u32 caddr), V.lit (Value.int IntKind.i64 cbits), V.lit (Value.int IntKind.u32 chop), V.lit (Value.int IntKind.i64 cpref),
                                            V.lit (Value.int IntKind.i64 cmetric), V.xs cb1 co1 0 1 cn1 cc1 cf1, V.xs cb2 co2 0 1 cn2 cc2 cf2, V.lit (Value.int IntKind.u32 cpeer),
                                            V.lit (Value.int IntKind.u32 cpid), V.lit (Value.bool cext), V.lit (Value.int IntKind.u32 corig), V.xs cb3 co3 0 1 cn3 cc3 cf3,
                                            V.lit (Value.int IntKind.i64 csess)]))
                                      PT.nil PT.nil))))
                              (K H (V.lit (Value.bool false)) 3
                                (PT.nd
                                  (some
                                    (Ob.cells 29
                                      [V.lit (Value.int IntKind.u32 aaddr), V.lit (Value.int IntKind.i64 abits), V.lit (Value.int IntKind.u32 ahop), V.lit (Value.int IntKind.i64 apref),
                                        V.lit (Value.int IntKind.i64 ametric), V.xs ab1 ao1 0 1 an1 ac1 af1, V.xs ab2 ao2 0 1 an2 ac2 af2, V.lit (Value.int IntKind.u32 apeer),
                                        V.lit (Value.int IntKind.u32 apid), V.lit (Value.bool aext), V.lit (Value.int IntKind.u32 aorig), V.xs ab3 ao3 0 1 an3 ac3 af3,
                                        V.lit (Value.int IntKind.i64 asess)]))
                                  (PT.nd
                                    (some
                                      (Ob.cells 29
                                        [V.lit (Value.int IntKind.u32 baddr), V.lit (Value.int IntKind.i64 bbits), V.lit (Value.int IntKind.u32 bhop), V.lit (Value.int IntKind.i64 bpref),
                                          V.lit (Value.int IntKind.i64 bmetric), V.xs bb1 bo1 0 1 bn1 bc1 bf1, V.xs bb2 bo2 0 1 bn2 bc2 bf2, V.lit (Value.int IntKind.u32 bpeer),
                                          V.lit (Value.int IntKind.u32 bpid), V.lit (Value.bool bext), V.lit (Value.int IntKind.u32 borig), V.xs bb3 bo3 0 1 bn3 bc3 bf3,
                                          V.lit (Value.int IntKind.i64 bsess)]))
                                    PT.nil PT.nil)
                                  (PT.nd
                                    (some
                                      (Ob.cells 29
                                        [V.lit (Value.int IntKind.u32 caddr), V.lit (Value.int IntKind.i64 cbits), V.lit (Value.int IntKind.u32 chop), V.lit (Value.int IntKind.i64 cpref),
                                          V.lit (Value.int IntKind.i64 cmetric), V.xs cb1 co1 0 1 cn1 cc1 cf1, V.xs cb2 co2 0 1 cn2 cc2 cf2, V.lit (Value.int IntKind.u32 cpeer),
                                          V.lit (Value.int IntKind.u32 cpid), V.lit (Value.bool cext), V.lit (Value.int IntKind.u32 corig), V.xs cb3 co3 0 1 cn3 cc3 cf3,
                                          V.lit (Value.int IntKind.i64 csess)]))
                                    PT.nil PT.nil))))
                            (K H (V.lit (Value.bool false)) 3
                              (PT.nd
                                (some
                                  (Ob.cells 29
                                    [V.lit (Value.int IntKind.u32 aaddr), V.lit (Value.int IntKind.i64 abits), V.lit (Value.int IntKind.u32 ahop), V.lit (Value.int IntKind.i64 apref),
                                      V.lit (Value.int IntKind.i64 ametric), V.xs ab1 ao1 0 1 an1 ac1 af1, V.xs ab2 ao2 0 1 an2 ac2 af2, V.lit (Value.int IntKind.u32 apeer),
                                      V.lit (Value.int IntKind.u32 apid), V.lit (Value.bool aext), V.lit (Value.int IntKind.u32 aorig), V.xs ab3 ao3 0 1 an3 ac3 af3,
                                      V.lit (Value.int IntKind.i64 asess)]))
                                (PT.nd
                                  (some
                                    (Ob.cells 29
                                      [V.lit (Value.int IntKind.u32 baddr), V.lit (Value.int IntKind.i64 bbits), V.lit (Value.int IntKind.u32 bhop), V.lit (Value.int IntKind.i64 bpref),
                                        V.lit (Value.int IntKind.i64 bmetric), V.xs bb1 bo1 0 1 bn1 bc1 bf1, V.xs bb2 bo2 0 1 bn2 bc2 bf2, V.lit (Value.int IntKind.u32 bpeer),
                                        V.lit (Value.int IntKind.u32 bpid), V.lit (Value.bool bext), V.lit (Value.int IntKind.u32 borig), V.xs bb3 bo3 0 1 bn3 bc3 bf3,
                                        V.lit (Value.int IntKind.i64 bsess)]))
                                  PT.nil PT.nil)
                                (PT.nd
                                  (some
                                    (Ob.cells 29
                                      [V.lit (Value.int IntKind.u32 caddr), V.lit (Value.int IntKind.i64 cbits), V.lit (Value.int IntKind.u32 chop), V.lit (Value.int IntKind.i64 cpref),
                                        V.lit (Value.int IntKind.i64 cmetric), V.xs cb1 co1 0 1 cn1 cc1 cf1, V.xs cb2 co2 0 1 cn2 cc2 cf2, V.lit (Value.int IntKind.u32 cpeer),
                                        V.lit (Value.int IntKind.u32 cpid), V.lit (Value.bool cext), V.lit (Value.int IntKind.u32 corig), V.xs cb3 co3 0 1 cn3 cc3 cf3,
                                        V.lit (Value.int IntKind.i64 csess)]))
                                  PT.nil PT.nil))))
                          (K H (V.lit (Value.bool false)) 3
                            (PT.nd
                              (some
                                (Ob.cells 29
                                  [V.lit (Value.int IntKind.u32 aaddr), V.lit (Value.int IntKind.i64 abits), V.lit (Value.int IntKind.u32 ahop), V.lit (Value.int IntKind.i64 apref),
                                    V.lit (Value.int IntKind.i64 ametric), V.xs ab1 ao1 0 1 an1 ac1 af1, V.xs ab2 ao2 0 1 an2 ac2 af2, V.lit (Value.int IntKind.u32 apeer),
                                    V.lit (Value.int IntKind.u32 apid), V.lit (Value.bool aext), V.lit (Value.int IntKind.u32 aorig), V.xs ab3 ao3 0 1 an3 ac3 af3, V.lit (Value.int IntKind.i64 asess)]))
                              (PT.nd
                                (some
                                  (Ob.cells 29
                                    [V.lit (Value.int IntKind.u32 baddr), V.lit (Value.int IntKind.i64 bbits), V.lit (Value.int IntKind.u32 bhop), V.lit (Value.int IntKind.i64 bpref),
                                      V.lit (Value.int IntKind.i64 bmetric), V.xs bb1 bo1 0 1 bn1 bc1 bf1, V.xs bb2 bo2 0 1 bn2 bc2 bf2, V.lit (Value.int IntKind.u32 bpeer),
                                      V.lit (Value.int IntKind.u32 bpid), V.lit (Value.bool bext), V.lit (Value.int IntKind.u32 borig), V.xs bb3 bo3 0 1 bn3 bc3 bf3,
                                      V.lit (Value.int IntKind.i64 bsess)]))
                                PT.nil PT.nil)
                              (PT.nd
                                (some
                                  (Ob.cells 29
                                    [V.lit (Value.int IntKind.u32 caddr), V.lit (Value.int IntKind.i64 cbits), V.lit (Value.int IntKind.u32 chop), V.lit (Value.int IntKind.i64 cpref),
                                      V.lit (Value.int IntKind.i64 cmetric), V.xs cb1 co1 0 1 cn1 cc1 cf1, V.xs cb2 co2 0 1 cn2 cc2 cf2, V.lit (Value.int IntKind.u32 cpeer),
                                      V.lit (Value.int IntKind.u32 cpid), V.lit (Value.bool cext), V.lit (Value.int IntKind.u32 corig), V.xs cb3 co3 0 1 cn3 cc3 cf3,
                                      V.lit (Value.int IntKind.i64 csess)]))
                                PT.nil PT.nil))))
                        (K H (V.lit (Value.bool false)) 3
                          (PT.nd
                            (some
                              (Ob.cells 29
                                [V.lit (Value.int IntKind.u32 aaddr), V.lit (Value.int IntKind.i64 abits), V.lit (Value.int IntKind.u32 ahop), V.lit (Value.int IntKind.i64 apref),
                                  V.lit (Value.int IntKind.i64 ametric), V.xs ab1 ao1 0 1 an1 ac1 af1, V.xs ab2 ao2 0 1 an2 ac2 af2, V.lit (Value.int IntKind.u32 apeer),
                                  V.lit (Value.int IntKind.u32 apid), V.lit (Value.bool aext), V.lit (Value.int IntKind.u32 aorig), V.xs ab3 ao3 0 1 an3 ac3 af3, V.lit (Value.int IntKind.i64 asess)]))
                            (PT.nd
                              (some
                                (Ob.cells 29
                                  [V.lit (Value.int IntKind.u32 baddr), V.lit (Value.int IntKind.i64 bbits), V.lit (Value.int IntKind.u32 bhop), V.lit (Value.int IntKind.i64 bpref),
                                    V.lit (Value.int IntKind.i64 bmetric), V.xs bb1 bo1 0 1 bn1 bc1 bf1, V.xs bb2 bo2 0 1 bn2 bc2 bf2, V.lit (Value.int IntKind.u32 bpeer),
                                    V.lit (Value.int IntKind.u32 bpid), V.lit (Value.bool bext), V.lit (Value.int IntKind.u32 borig), V.xs bb3 bo3 0 1 bn3 bc3 bf3, V.lit (Value.int IntKind.i64 bsess)]))
                              PT.nil PT.nil)
                            (PT.nd
                              (some
                                (Ob.cells 29
                                  [V.lit (Value.int IntKind.u32 caddr), V.lit (Value.int IntKind.i64 cbits), V.lit (Value.int IntKind.u32 chop), V.lit (Value.int IntKind.i64 cpref),
                                    V.lit (Value.int IntKind.i64 cmetric), V.xs cb1 co1 0 1 cn1 cc1 cf1, V.xs cb2 co2 0 1 cn2 cc2 cf2, V.lit (Value.int IntKind.u32 cpeer),
                                    V.lit (Value.int IntKind.u32 cpid), V.lit (Value.bool cext), V.lit (Value.int IntKind.u32 corig), V.xs cb3 co3 0 1 cn3 cc3 cf3, V.lit (Value.int IntKind.i64 csess)]))
                              PT.nil PT.nil))))
                      (K H (V.lit (Value.bool true)) 3
                        (PT.nd
                          (some
                            (Ob.cells 29
                              [V.lit (Value.int IntKind.u32 aaddr), V.lit (Value.int IntKind.i64 abits), V.lit (Value.int IntKind.u32 ahop), V.lit (Value.int IntKind.i64 apref),
                                V.lit (Value.int IntKind.i64 ametric), V.xs ab1 ao1 0 1 an1 ac1 af1, V.xs ab2 ao2 0 1 an2 ac2 af2, V.lit (Value.int IntKind.u32 apeer),
                                V.lit (Value.int IntKind.u32 apid), V.lit (Value.bool aext), V.lit (Value.int IntKind.u32 aorig), V.xs ab3 ao3 0 1 an3 ac3 af3, V.lit (Value.int IntKind.i64 asess)]))
                          (PT.nd
                            (some
                              (Ob.cells 29
                                [V.lit (Value.int IntKind.u32 baddr), V.lit (Value.int IntKind.i64 bbits), V.lit (Value.int IntKind.u32 bhop), V.lit (Value.int IntKind.i64 bpref),
                                  V.lit (Value.int IntKind.i64 bmetric), V.xs bb1 bo1 0 1 bn1 bc1 bf1, V.xs bb2 bo2 0 1 bn2 bc2 bf2, V.lit (Value.int IntKind.u32 bpeer),
                                  V.lit (Value.int IntKind.u32 bpid), V.lit (Value.bool bext), V.lit (Value.int IntKind.u32 borig), V.xs bb3 bo3 0 1 bn3 bc3 bf3, V.lit (Value.int IntKind.i64 bsess)]))
                            PT.nil PT.nil)
                          (PT.nd
                            (some
                              (Ob.cells 29
                                [V.lit (Value.int IntKind.u32 caddr), V.lit (Value.int IntKind.i64 cbits), V.lit (Value.int IntKind.u32 chop), V.lit (Value.int IntKind.i64 cpref),
                                  V.lit (Value.int IntKind.i64 cmetric), V.xs cb1 co1 0 1 cn1 cc1 cf1, V.xs cb2 co2 0 1 cn2 cc2 cf2, V.lit (Value.int IntKind.u32 cpeer),
                                  V.lit (Value.int IntKind.u32 cpid), V.lit (Value.bool cext), V.lit (Value.int IntKind.u32 corig), V.xs cb3 co3 0 1 cn3 cc3 cf3, V.lit (Value.int IntKind.i64 csess)]))
                            PT.nil PT.nil))))
                    (K H (V.lit (Value.bool true)) 3
                      (PT.nd
                        (some
                          (Ob.cells 29
                            [V.lit (Value.int IntKind.u32 aaddr), V.lit (Value.int IntKind.i64 abits), V.lit (Value.int IntKind.u32 ahop), V.lit (Value.int IntKind.i64 apref),
                              V.lit (Value.int IntKind.i64 ametric), V.xs ab1 ao1 0 1 an1 ac1 af1, V.xs ab2 ao2 0 1 an2 ac2 af2, V.lit (Value.int IntKind.u32 apeer), V.lit (Value.int IntKind.u32 apid),
                              V.lit (Value.bool aext), V.lit (Value.int IntKind.u32 aorig), V.xs ab3 ao3 0 1 an3 ac3 af3, V.lit (Value.int IntKind.i64 asess)]))
                        (PT.nd
                          (some
                            (Ob.cells 29
                              [V.lit (Value.int IntKind.u32 baddr), V.lit (Value.int IntKind.i64 bbits), V.lit (Value.int IntKind.u32 bhop), V.lit (Value.int IntKind.i64 bpref),
                                V.lit (Value.int IntKind.i64 bmetric), V.xs bb1 bo1 0 1 bn1 bc1 bf1, V.xs bb2 bo2 0 1 bn2 bc2 bf2, V.lit (Value.int IntKind.u32 bpeer),
                                V.lit (Value.int IntKind.u32 bpid), V.lit (Value.bool bext), V.lit (Value.int IntKind.u32 borig), V.xs bb3 bo3 0 1 bn3 bc3 bf3, V.lit (Value.int IntKind.i64 bsess)]))
                          PT.nil PT.nil)
                        (PT.nd
                          (some
                            (Ob.cells 29
                              [V.lit (Value.int IntKind.u32 caddr), V.lit (Value.int IntKind.i64 cbits), V.lit (Value.int IntKind.u32 chop), V.lit (Value.int IntKind.i64 cpref),
                                V.lit (Value.int IntKind.i64 cmetric), V.xs cb1 co1 0 1 cn1 cc1 cf1, V.xs cb2 co2 0 1 cn2 cc2 cf2, V.lit (Value.int IntKind.u32 cpeer),
                                V.lit (Value.int IntKind.u32 cpid), V.lit (Value.bool cext), V.lit (Value.int IntKind.u32 corig), V.xs cb3 co3 0 1 cn3 cc3 cf3, V.lit (Value.int IntKind.i64 csess)]))
                          PT.nil PT.nil))))
                  (K H (V.lit (Value.bool true)) 3
                    (PT.nd
                      (some
                        (Ob.cells 29
                          [V.lit (Value.int IntKind.u32 aaddr), V.lit (Value.int IntKind.i64 abits), V.lit (Value.int IntKind.u32 ahop), V.lit (Value.int IntKind.i64 apref),
                            V.lit (Value.int IntKind.i64 ametric), V.xs ab1 ao1 0 1 an1 ac1 af1, V.xs ab2 ao2 0 1 an2 ac2 af2, V.lit (Value.int IntKind.u32 apeer), V.lit (Value.int IntKind.u32 apid),
                            V.lit (Value.bool aext), V.lit (Value.int IntKind.u32 aorig), V.xs ab3 ao3 0 1 an3 ac3 af3, V.lit (Value.int IntKind.i64 asess)]))
                      (PT.nd
                        (some
                          (Ob.cells 29
                            [V.lit (Value.int IntKind.u32 baddr), V.lit (Value.int IntKind.i64 bbits), V.lit (Value.int IntKind.u32 bhop), V.lit (Value.int IntKind.i64 bpref),
                              V.lit (Value.int IntKind.i64 bmetric), V.xs bb1 bo1 0 1 bn1 bc1 bf1, V.xs bb2 bo2 0 1 bn2 bc2 bf2, V.lit (Value.int IntKind.u32 bpeer), V.lit (Value.int IntKind.u32 bpid),
                              V.lit (Value.bool bext), V.lit (Value.int IntKind.u32 borig), V.xs bb3 bo3 0 1 bn3 bc3 bf3, V.lit (Value.int IntKind.i64 bsess)]))
                        PT.nil PT.nil)
                      (PT.nd
                        (some
                          (Ob.cells 29
                            [V.lit (Value.int IntKind.u32 caddr), V.lit (Value.int IntKind.i64 cbits), V.lit (Value.int IntKind.u32 chop), V.lit (Value.int IntKind.i64 cpref),
                              V.lit (Value.int IntKind.i64 cmetric), V.xs cb1 co1 0 1 cn1 cc1 cf1, V.xs cb2 co2 0 1 cn2 cc2 cf2, V.lit (Value.int IntKind.u32 cpeer), V.lit (Value.int IntKind.u32 cpid),
                              V.lit (Value.bool cext), V.lit (Value.int IntKind.u32 corig), V.xs cb3 co3 0 1 cn3 cc3 cf3, V.lit (Value.int IntKind.i64 csess)]))
                        PT.nil PT.nil)))))
              (bifP
                (!decide
                    (ordK { sess := asess, pref := apref, plen := Int.ofNat an1, metric := ametric, ext := aext, ident := orA aorig apid, clen := Int.ofNat an3, peer := apeer }
                        { sess := bsess, pref := bpref, plen := Int.ofNat bn1, metric := bmetric, ext := bext, ident := orA borig bpid, clen := Int.ofNat bn3, peer := bpeer } x y <
                      0))
                (bifP
                  (!decide
                      (ordK { sess := bsess, pref := bpref, plen := Int.ofNat bn1, metric := bmetric, ext := bext, ident := orA borig bpid, clen := Int.ofNat bn3, peer := bpeer }
                          { sess := asess, pref := apref, plen := Int.ofNat an1, metric := ametric, ext := aext, ident := orA aorig apid, clen := Int.ofNat an3, peer := apeer } y x <
                        0))
                  (bifP (asess != -1)
                    (bifP (bsess == asess)
                      (bifP (apref == bpref)
                        (bifP (Int.ofNat an1 == Int.ofNat bn1)
                          (bifP (ametric == bmetric)
                            (bifP (aext == bext)
                              (bifP (x == y)
                                (bifP (Int.ofNat an3 == Int.ofNat bn3)
                                  (K H (V.lit (Value.bool (apeer == bpeer))) 3
                                    (PT.nd
                                      (some
                                        (Ob.cells 29
                                          [V.lit (Value.int IntKind.u32 aaddr), V.lit (Value.int IntKind.i64 abits), V.lit (Value.int IntKind.u32 ahop), V.lit (Value.int IntKind.i64 apref),
                                            V.lit (Value.int IntKind.i64 ametric), V.xs ab1 ao1 0 1 an1 ac1 af1, V.xs ab2 ao2 0 1 an2 ac2 af2, V.lit (Value.int IntKind.u32 apeer),
                                            V.lit (Value.int IntKind.u32 apid), V.lit (Value.bool aext), V.lit (Value.int IntKind.u32 aorig), V.xs ab3 ao3 0 1 an3 ac3 af3,
                                            V.lit (Value.int IntKind.i64 asess)]))
                                      (PT.nd
                                        (some
                                          (Ob.cells 29
                                            [V.lit (Value.int IntKind.u32 baddr), V.lit (Value.int IntKind.i64 bbits), V.lit (Value.int IntKind.u32 bhop), V.lit (Value.int IntKind.i64 bpref),
                                              V.lit (Value.int IntKind.i64 bmetric), V.xs bb1 bo1 0 1 bn1 bc1 bf1, V.xs bb2 bo2 0 1 bn2 bc2 bf2, V.lit (Value.int IntKind.u32 bpeer),
                                              V.lit (Value.int IntKind.u32 bpid), V.lit (Value.bool bext), V.lit (Value.int IntKind.u32 borig), V.xs bb3 bo3 0 1 bn3 bc3 bf3,
                                              V.lit (Value.int IntKind.i64 bsess)]))
                                        PT.nil PT.nil)
                                      (PT.nd
                                        (some
                                          (Ob.cells 29
                                            [V.lit (Value.int IntKind.u32 caddr), V.lit (Value.int IntKind.i64 cbits), V.lit (Value.int IntKind.u32 chop), V.lit (Value.int IntKind.i64 cpref),
                                              V.lit (Value.int IntKind.i64 cmetric), V.xs cb1 co1 0 1 cn1 cc1 cf1, V.xs cb2 co2 0 1 cn2 cc2 cf2, V.lit (Value.int IntKind.u32 cpeer),
                                              V.lit (Value.int IntKind.u32 cpid), V.lit (Value.bool cext), V.lit (Value.int IntKind.u32 corig), V.xs cb3 co3 0 1 cn3 cc3 cf3,
                                              V.lit (Value.int IntKind.i64 csess)]))
                                        PT.nil PT.nil)))
                                  (K H (V.lit (Value.bool false)) 3
                                    (PT.nd
                                      (some
                                        (Ob.cells 29
                                          [V.lit (Value.int IntKind.u32 aaddr), V.lit (Value.int IntKind.i64 abits), V.lit (Value.int IntKind.u32 ahop), V.lit (Value.int IntKind.i64 apref),
                                            V.lit (Value.int IntKind.i64 ametric), V.xs ab1 ao1 0 1 an1 ac1 af1, V.xs ab2 ao2 0 1 an2 ac2 af2, V.lit (Value.int IntKind.u32 apeer),
                                            V.lit (Value.int IntKind.u32 apid), V.lit (Value.bool aext), V.lit (Value.int IntKind.u32 aorig), V.xs ab3 ao3 0 1 an3 ac3 af3,
                                            V.lit (Value.int IntKind.i64 asess)]))
                                      (PT.nd
                                        (some
                                          (Ob.cells 29
                                            [V.lit (Value.int IntKind.u32 baddr), V.lit (Value.int IntKind.i64 bbits), V.lit (Value.int IntKind.u32 bhop), V.lit (Value.int IntKind.i64 bpref),
                                              V.lit (Value.int IntKind.i64 bmetric), V.xs bb1 bo1 0 1 bn1 bc1 bf1, V.xs bb2 bo2 0 1 bn2 bc2 bf2, V.lit (Value.int IntKind.u32 bpeer),
                                              V.lit (Value.int IntKind.u32 bpid), V.lit (Value.bool bext), V.lit (Value.int IntKind.u32 borig), V.xs bb3 bo3 0 1 bn3 bc3 bf3,
                                              V.lit (Value.int IntKind.i64 bsess)]))
                                        PT.nil PT.nil)
                                      (PT.nd
                                        (some
                                          (Ob.cells 29
                                            [V.lit (Value.int IntKind.u32 caddr), V.lit (Value.int IntKind.i64 cbits), V.lit (Value.int IntKind.u32 chop), V.lit (Value.int IntKind.i64 cpref),
                                              V.lit (Value.int IntKind.i64 cmetric), V.xs cb1 co1 0 1 cn1 cc1 cf1, V.xs cb2 co2 0 1 cn2 cc2 cf2, V.lit (Value.int IntKind.u32 cpeer),
                                              V.lit (Value.int IntKind.u32 cpid), V.lit (Value.bool cext), V.lit (Value.int IntKind.u32 corig), V.xs cb3 co3 0 1 cn3 cc3 cf3,
                                              V.lit (Value.int IntKind.i64 csess)]))
                                        PT.nil PT.nil))))
                                (K H (V.lit (Value.bool false)) 3
                                  (PT.nd
                                    (some
                                      (Ob.cells 29
                                        [V.lit (Value.int IntKind.u32 aaddr), V.lit (Value.int IntKind.i64 abits), V.lit (Value.int IntKind.u32 ahop), V.lit (Value.int IntKind.i64 apref),
                                          V.lit (Value.int IntKind.i64 ametric), V.xs ab1 ao1 0 1 an1 ac1 af1, V.xs ab2 ao2 0 1 an2 ac2 af2, V.lit (Value.int IntKind.u32 apeer),
                                          V.lit (Value.int IntKind.u32 apid), V.lit (Value.bool aext), V.lit (Value.int IntKind.u32 aorig), V.xs ab3 ao3 0 1 an3 ac3 af3,
                                          V.lit (Value.int IntKind.i64 asess)]))
                                    (PT.nd
                                      (some
                                        (Ob.cells 29
                                          [V.lit (Value.int IntKind.u32 baddr), V.lit (Value.int IntKind.i64 bbits), V.lit (Value.int IntKind.u32 bhop), V.lit (Value.int IntKind.i64 bpref),
                                            V.lit (Value.int IntKind.i64 bmetric), V.xs bb1 bo1 0 1 bn1 bc1 bf1, V.xs bb2 bo2 0 1 bn2 bc2 bf2, V.lit (Value.int IntKind.u32 bpeer),
                                            V.lit (Value.int IntKind.u32 bpid), V.lit (Value.bool bext), V.lit (Value.int IntKind.u32 borig), V.xs bb3 bo3 0 1 bn3 bc3 bf3,
                                            V.lit (Value.int IntKind.i64 bsess)]))
                                      PT.nil PT.nil)
                                    (PT.nd
                                      (some
                                        (Ob.cells 29
                                          [V.lit (Value.int IntKind.u32 caddr), V.lit (Value.int IntKind.i64 cbits), V.lit (Value.int IntKind.u32 chop), V.lit (Value.int IntKind.i64 cpref),
                                            V.lit (Value.int IntKind.i64 cmetric), V.xs cb1 co1 0 1 cn1 cc1 cf1, V.xs cb2 co2 0 1 cn2 cc2 cf2, V.lit (Value.int IntKind.u32 cpeer),
                                            V.lit (Value.int IntKind.u32 cpid), V.lit (Value.bool cext), V.lit (Value.int IntKind.u32 corig), V.xs cb3 co3 0 1 cn3 cc3 cf3,
                                            V.lit (Value.int IntKind.i64 csess)]))
                                      PT.nil PT.nil))))
                              (K H (V.lit (Value.bool false)) 3
                                (PT.nd
                                  (some
                                    (Ob.cells 29
                                      [V.lit (Value.int IntKind.u32 aaddr), V.lit (Value.int IntKind.i64 abits), V.lit (Value.int IntKind.u32 ahop), V.lit (Value.int IntKind.i64 apref),
                                        V.lit (Value.int IntKind.i64 ametric), V.xs ab1 ao1 0 1 an1 ac1 af1, V.xs ab2 ao2 0 1 an2 ac2 af2, V.lit (Value.int IntKind.u32 apeer),
                                        V.lit (Value.int IntKind.u32 apid), V.lit (Value.bool aext), V.lit (Value.int IntKind.u32 aorig), V.xs ab3 ao3 0 1 an3 ac3 af3,
                                        V.lit (Value.int IntKind.i64 asess)]))
                                  (PT.nd
                                    (some
                                      (Ob.cells 29
                                        [V.lit (Value.int IntKind.u32 baddr), V.lit (Value.int IntKind.i64 bbits), V.lit (Value.int IntKind.u32 bhop), V.lit (Value.int IntKind.i64 bpref),
                                          V.lit (Value.int IntKind.i64 bmetric), V.xs bb1 bo1 0 1 bn1 bc1 bf1, V.xs bb2 bo2 0 1 bn2 bc2 bf2, V.lit (Value.int IntKind.u32 bpeer),
                                          V.lit (Value.int IntKind.u32 bpid), V.lit (Value.bool bext), V.lit (Value.int IntKind.u32 borig), V.xs bb3 bo3 0 1 bn3 bc3 bf3,
                                          V.lit (Value.int IntKind.i64 bsess)]))
                                    PT.nil PT.nil)
                                  (PT.nd
                                    (some
                                      (Ob.cells 29
                                        [V.lit (Value.int IntKind.u32 caddr), V.lit (Value.int IntKind.i64 cbits), V.lit (Value.int IntKind.u32 chop), V.lit (Value.int IntKind.i64 cpref),
                                          V.lit (Value.int IntKind.i64 cmetric), V.xs cb1 co1 0 1 cn1 cc1 cf1, V.xs cb2 co2 0 1 cn2 cc2 cf2, V.lit (Value.int IntKind.u32 cpeer),
                                          V.lit (Value.int IntKind.u32 cpid), V.lit (Value.bool cext), V.lit (Value.int IntKind.u32 corig), V.xs cb3 co3 0 1 cn3 cc3 cf3,
                                          V.lit (Value.int IntKind.i64 csess)]))
                                    PT.nil PT.nil))))
                            (K H (V.lit (Value.bool false)) 3
                              (PT.nd
                                (some
                                  (Ob.cells 29
                                    [V.lit (Value.int IntKind.u32 aaddr), V.lit (Value.int IntKind.i64 abits), V.lit (Value.int IntKind.u32 ahop), V.lit (Value.int IntKind.i64 apref),
                                      V.lit (Value.int IntKind.i64 ametric), V.xs ab1 ao1 0 1 an1 ac1 af1, V.xs ab2 ao2 0 1 an2 ac2 af2, V.lit (Value.int IntKind.u32 apeer),
                                      V.lit (Value.int IntKind.u32 apid), V.lit (Value.bool aext), V.lit (Value.int IntKind.u32 aorig), V.xs ab3 ao3 0 1 an3 ac3 af3,
                                      V.lit (Value.int IntKind.i64 asess)]))
                                (PT.nd
                                  (some
                                    (Ob.cells 29
                                      [V.lit (Value.int IntKind.u32 baddr), V.lit (Value.int IntKind.i64 bbits), V.lit (Value.int IntKind.u32 bhop), V.lit (Value.int IntKind.i64 bpref),
                                        V.lit (Value.int IntKind.i64 bmetric), V.xs bb1 bo1 0 1 bn1 bc1 bf1, V.xs bb2 bo2 0 1 bn2 bc2 bf2, V.lit (Value.int IntKind.u32 bpeer),
                                        V.lit (Value.int IntKind.u32 bpid), V.lit (Value.bool bext), V.lit (Value.int IntKind.u32 borig), V.xs bb3 bo3 0 1 bn3 bc3 bf3,
                                        V.lit (Value.int IntKind.i64 bsess)]))
                                  PT.nil PT.nil)
                                (PT.nd
                                  (some
                                    (Ob.cells 29
                                      [V.lit (Value.int IntKind.u32 caddr), V.lit (Value.int IntKind.i64 cbits), V.lit (Value.int IntKind.u32 chop), V.lit (Value.int IntKind.i64 cpref),
                                        V.lit (Value.int IntKind.i64 cmetric), V.xs cb1 co1 0 1 cn1 cc1 cf1, V.xs cb2 co2 0 1 cn2 cc2 cf2, V.lit (Value.int IntKind.u32 cpeer),
                                        V.lit (Value.int IntKind.u32 cpid), V.lit (Value.bool cext), V.lit (Value.int IntKind.u32 corig), V.xs cb3 co3 0 1 cn3 cc3 cf3,
                                        V.lit (Value.int IntKind.i64 csess)]))
                                  PT.nil PT.nil))))
                          (K H (V.lit (Value.bool false)) 3
                            (PT.nd
                              (some
                                (Ob.cells 29
                                  [V.lit (Value.int IntKind.u32 aaddr), V.lit (Value.int IntKind.i64 abits), V.lit (Value.int IntKind.u32 ahop), V.lit (Value.int IntKind.i64 apref),
                                    V.lit (Value.int IntKind.i64 ametric), V.xs ab1 ao1 0 1 an1 ac1 af1, V.xs ab2 ao2 0 1 an2 ac2 af2, V.lit (Value.int IntKind.u32 apeer),
                                    V.lit (Value.int IntKind.u32 apid), V.lit (Value.bool aext), V.lit (Value.int IntKind.u32 aorig), V.xs ab3 ao3 0 1 an3 ac3 af3, V.lit (Value.int IntKind.i64 asess)]))
                              (PT.nd
                                (some
                                  (Ob.cells 29
                                    [V.lit (Value.int IntKind.u32 baddr), V.lit (Value.int IntKind.i64 bbits), V.lit (Value.int IntKind.u32 bhop), V.lit (Value.int IntKind.i64 bpref),
                                      V.lit (Value.int IntKind.i64 bmetric), V.xs bb1 bo1 0 1 bn1 bc1 bf1, V.xs bb2 bo2 0 1 bn2 bc2 bf2, V.lit (Value.int IntKind.u32 bpeer),
                                      V.lit (Value.int IntKind.u32 bpid), V.lit (Value.bool bext), V.lit (Value.int IntKind.u32 borig), V.xs bb3 bo3 0 1 bn3 bc3 bf3,
                                      V.lit (Value.int IntKind.i64 bsess)]))
                                PT.nil PT.nil)
                              (PT.nd
                                (some
                                  (Ob.cells 29
                                    [V.lit (Value.int IntKind.u32 caddr), V.lit (Value.int IntKind.i64 cbits), V.lit (Value.int IntKind.u32 chop), V.lit (Value.int IntKind.i64 cpref),
                                      V.lit (Value.int IntKind.i64 cmetric), V.xs cb1 co1 0 1 cn1 cc1 cf1, V.xs cb2 co2 0 1 cn2 cc2 cf2, V.lit (Value.int IntKind.u32 cpeer),
                                      V.lit (Value.int IntKind.u32 cpid), V.lit (Value.bool cext), V.lit (Value.int IntKind.u32 corig), V.xs cb3 co3 0 1 cn3 cc3 cf3,
                                      V.lit (Value.int IntKind.i64 csess)]))
                                PT.nil PT.nil))))
                        (K H (V.lit (Value.bool false)) 3
                          (PT.nd
                            (some
                              (Ob.cells 29
                                [V.lit (Value.int IntKind.u32 aaddr), V.lit (Value.int IntKind.i64 abits), V.lit (Value.int IntKind.u32 ahop), V.lit (Value.int IntKind.i64 apref),
                                  V.lit (Value.int IntKind.i64 ametric), V.xs ab1 ao1 0 1 an1 ac1 af1, V.xs ab2 ao2 0 1 an2 ac2 af2, V.lit (Value.int IntKind.u32 apeer),
                                  V.lit (Value.int IntKind.u32 apid), V.lit (Value.bool aext), V.lit (Value.int IntKind.u32 aorig), V.xs ab3 ao3 0 1 an3 ac3 af3, V.lit (Value.int IntKind.i64 asess)]))
                            (PT.nd
                              (some
                                (Ob.cells 29
                                  [V.lit (Value.int IntKind.u32 baddr), V.lit (Value.int IntKind.i64 bbits), V.lit (Value.int IntKind.u32 bhop), V.lit (Value.int IntKind.i64 bpref),
                                    V.lit (Value.int IntKind.i64 bmetric), V.xs bb1 bo1 0 1 bn1 bc1 bf1, V.xs bb2 bo2 0 1 bn2 bc2 bf2, V.lit (Value.int IntKind.u32 bpeer),
                                    V.lit (Value.int IntKind.u32 bpid), V.lit (Value.bool bext), V.lit (Value.int IntKind.u32 borig), V.xs bb3 bo3 0 1 bn3 bc3 bf3, V.lit (Value.int IntKind.i64 bsess)]))
                              PT.nil PT.nil)
                            (PT.nd
                              (some
                                (Ob.cells 29
                                  [V.lit (Value.int IntKind.u32 caddr), V.lit (Value.int IntKind.i64 cbits), V.lit (Value.int IntKind.u32 chop), V.lit (Value.int IntKind.i64 cpref),
                                    V.lit (Value.int IntKind.i64 cmetric), V.xs cb1 co1 0 1 cn1 cc1 cf1, V.xs cb2 co2 0 1 cn2 cc2 cf2, V.lit (Value.int IntKind.u32 cpeer),
                                    V.lit (Value.int IntKind.u32 cpid), V.lit (Value.bool cext), V.lit (Value.int IntKind.u32 corig), V.xs cb3 co3 0 1 cn3 cc3 cf3, V.lit (Value.int IntKind.i64 csess)]))
                              PT.nil PT.nil))))
                      (K H (V.lit (Value.bool false)) 3
                        (PT.nd
                          (some
                            (Ob.cells 29
                              [V.lit (Value.int IntKind.u32 aaddr), V.lit (Value.int IntKind.i64 abits), V.lit (Value.int IntKind.u32 ahop), V.lit (Value.int IntKind.i64 apref),
                                V.lit (Value.int IntKind.i64 ametric), V.xs ab1 ao1 0 1 an1 ac1 af1, V.xs ab2 ao2 0 1 an2 ac2 af2, V.lit (Value.int IntKind.u32 apeer),
                                V.lit (Value.int IntKind.u32 apid), V.lit (Value.bool aext), V.lit (Value.int IntKind.u32 aorig), V.xs ab3 ao3 0 1 an3 ac3 af3, V.lit (Value.int IntKind.i64 asess)]))
                          (PT.nd
                            (some
                              (Ob.cells 29
                                [V.lit (Value.int IntKind.u32 baddr), V.lit (Value.int IntKind.i64 bbits), V.lit (Value.int IntKind.u32 bhop), V.lit (Value.int IntKind.i64 bpref),
                                  V.lit (Value.int IntKind.i64 bmetric), V.xs bb1 bo1 0 1 bn1 bc1 bf1, V.xs bb2 bo2 0 1 bn2 bc2 bf2, V.lit (Value.int IntKind.u32 bpeer),
                                  V.lit (Value.int IntKind.u32 bpid), V.lit (Value.bool bext), V.lit (Value.int IntKind.u32 borig), V.xs bb3 bo3 0 1 bn3 bc3 bf3, V.lit (Value.int IntKind.i64 bsess)]))
                            PT.nil PT.nil)
                          (PT.nd
                            (some
                              (Ob.cells 29
                                [V.lit (Value.int IntKind.u32 caddr), V.lit (Value.int IntKind.i64 cbits), V.lit (Value.int IntKind.u32 chop), V.lit (Value.int IntKind.i64 cpref),
                                  V.lit (Value.int IntKind.i64 cmetric), V.xs cb1 co1 0 1 cn1 cc1 cf1, V.xs cb2 co2 0 1 cn2 cc2 cf2, V.lit (Value.int IntKind.u32 cpeer),
                                  V.lit (Value.int IntKind.u32 cpid), V.lit (Value.bool cext), V.lit (Value.int IntKind.u32 corig), V.xs cb3 co3 0 1 cn3 cc3 cf3, V.lit (Value.int IntKind.i64 csess)]))
                            PT.nil PT.nil))))
                    (K H (V.lit (Value.bool true)) 3
                      (PT.nd
                        (some
                          (Ob.cells 29
                            [V.lit (Value.int IntKind.u32 aaddr), V.lit (Value.int IntKind.i64 abits), V.lit (Value.int IntKind.u32 ahop), V.lit (Value.int IntKind.i64 apref),
                              V.lit (Value.int IntKind.i64 ametric), V.xs ab1 ao1 0 1 an1 ac1 af1, V.xs ab2 ao2 0 1 an2 ac2 af2, V.lit (Value.int IntKind.u32 apeer), V.lit (Value.int IntKind.u32 apid),
                              V.lit (Value.bool aext), V.lit (Value.int IntKind.u32 aorig), V.xs ab3 ao3 0 1 an3 ac3 af3, V.lit (Value.int IntKind.i64 asess)]))
                        (PT.nd
                          (some
                            (Ob.cells 29
                              [V.lit (Value.int IntKind.u32 baddr), V.lit (Value.int IntKind.i64 bbits), V.lit (Value.int IntKind.u32 bhop), V.lit (Value.int IntKind.i64 bpref),
                                V.lit (Value.int IntKind.i64 bmetric), V.xs bb1 bo1 0 1 bn1 bc1 bf1, V.xs bb2 bo2 0 1 bn2 bc2 bf2, V.lit (Value.int IntKind.u32 bpeer),
                                V.lit (Value.int IntKind.u32 bpid), V.lit (Value.bool bext), V.lit (Value.int IntKind.u32 borig), V.xs bb3 bo3 0 1 bn3 bc3 bf3, V.lit (Value.int IntKind.i64 bsess)]))
                          PT.nil PT.nil)
                        (PT.nd
                          (some
                            (Ob.cells 29
                              [V.lit (Value.int IntKind.u32 caddr), V.lit (Value.int IntKind.i64 cbits), V.lit (Value.int IntKind.u32 chop), V.lit (Value.int IntKind.i64 cpref),
                                V.lit (Value.int IntKind.i64 cmetric), V.xs cb1 co1 0 1 cn1 cc1 cf1, V.xs cb2 co2 0 1 cn2 cc2 cf2, V.lit (Value.int IntKind.u32 cpeer),
                                V.lit (Value.int IntKind.u32 cpid), V.lit (Value.bool cext), V.lit (Value.int IntKind.u32 corig), V.xs cb3 co3 0 1 cn3 cc3 cf3, V.lit (Value.int IntKind.i64 csess)]))
                          PT.nil PT.nil))))
                  (K H (V.lit (Value.bool true)) 3
                    (PT.nd
                      (some
                        (Ob.cells 29
                          [V.lit (Value.int IntKind.u32 aaddr), V.lit (Value.int IntKind.i64 abits), V.lit (Value.int IntKind.u32 ahop), V.lit (Value.int IntKind.i64 apref),
                            V.lit (Value.int IntKind.i64 ametric), V.xs ab1 ao1 0 1 an1 ac1 af1, V.xs ab2 ao2 0 1 an2 ac2 af2, V.lit (Value.int IntKind.u32 apeer), V.lit (Value.int IntKind.u32 apid),
                            V.lit (Value.bool aext), V.lit (Value.int IntKind.u32 aorig), V.xs ab3 ao3 0 1 an3 ac3 af3, V.lit (Value.int IntKind.i64 asess)]))
                      (PT.nd
                        (some
                          (Ob.cells 29
                            [V.lit (Value.int IntKind.u32 baddr), V.lit (Value.int IntKind.i64 bbits), V.lit (Value.int IntKind.u32 bhop), V.lit (Value.int IntKind.i64 bpref),
                              V.lit (Value.int IntKind.i64 bmetric), V.xs bb1 bo1 0 1 bn1 bc1 bf1, V.xs bb2 bo2 0 1 bn2 bc2 bf2, V.lit (Value.int IntKind.u32 bpeer), V.lit (Value.int IntKind.u32 bpid),
                              V.lit (Value.bool bext), V.lit (Value.int IntKind.u32 borig), V.xs bb3 bo3 0 1 bn3 bc3 bf3, V.lit (Value.int IntKind.i64 bsess)]))
                        PT.nil PT.nil)
                      (PT.nd
                        (some
                          (Ob.cells 29
                            [V.lit (Value.int IntKind.u32 caddr), V.lit (Value.int IntKind.i64 cbits), V.lit (Value.int IntKind.u32 chop), V.lit (Value.int IntKind.i64 cpref),
                              V.lit (Value.int IntKind.i64 cmetric), V.xs cb1 co1 0 1 cn1 cc1 cf1, V.xs cb2 co2 0 1 cn2 cc2 cf2, V.lit (Value.int IntKind.u32 cpeer), V.lit (Value.int IntKind.u32 cpid),
                              V.lit (Value.bool cext), V.lit (Value.int IntKind.u32 corig), V.xs cb3 co3 0 1 cn3 cc3 cf3, V.lit (Value.int IntKind.i64 csess)]))
                        PT.nil PT.nil))))
                (K H (V.lit (Value.bool true)) 3
                  (PT.nd
                    (some
                      (Ob.cells 29
                        [V.lit (Value.int IntKind.u32 aaddr), V.lit (Value.int IntKind.i64 abits), V.lit (Value.int IntKind.u32 ahop), V.lit (Value.int IntKind.i64 apref),
                          V.lit (Value.int IntKind.i64 ametric), V.xs ab1 ao1 0 1 an1 ac1 af1, V.xs ab2 ao2 0 1 an2 ac2 af2, V.lit (Value.int IntKind.u32 apeer), V.lit (Value.int IntKind.u32 apid),
                          V.lit (Value.bool aext), V.lit (Value.int IntKind.u32 aorig), V.xs ab3 ao3 0 1 an3 ac3 af3, V.lit (Value.int IntKind.i64 asess)]))
                    (PT.nd
                      (some
                        (Ob.cells 29
                          [V.lit (Value.int IntKind.u32 baddr), V.lit (Value.int IntKind.i64 bbits), V.lit (Value.int IntKind.u32 bhop), V.lit (Value.int IntKind.i64 bpref),
                            V.lit (Value.int IntKind.i64 bmetric), V.xs bb1 bo1 0 1 bn1 bc1 bf1, V.xs bb2 bo2 0 1 bn2 bc2 bf2, V.lit (Value.int IntKind.u32 bpeer), V.lit (Value.int IntKind.u32 bpid),
                            V.lit (Value.bool bext), V.lit (Value.int IntKind.u32 borig), V.xs bb3 bo3 0 1 bn3 bc3 bf3, V.lit (Value.int IntKind.i64 bsess)]))
                      PT.nil PT.nil)
                    (PT.nd
                      (some
                        (Ob.cells 29
                          [V.lit (Value.int IntKind.u32 caddr), V.lit (Value.int IntKind.i64 cbits), V.lit (Value.int IntKind.u32 chop), V.lit (Value.int IntKind.i64 cpref),
                            V.lit (Value.int IntKind.i64 cmetric), V.xs cb1 co1 0 1 cn1 cc1 cf1, V.xs cb2 co2 0 1 cn2 cc2 cf2, V.lit (Value.int IntKind.u32 cpeer), V.lit (Value.int IntKind.u32 cpid),
                            V.lit (Value.bool cext), V.lit (Value.int IntKind.u32 corig), V.xs cb3 co3 0 1 cn3 cc3 cf3, V.lit (Value.int IntKind.i64 csess)]))
                      PT.nil PT.nil)))))
            (bifP
              (!decide
                  (ordK { sess := asess, pref := apref, plen := Int.ofNat an1, metric := ametric, ext := aext, ident := orA aorig apid, clen := Int.ofNat an3, peer := apeer }
                      { sess := bsess, pref := bpref, plen := Int.ofNat bn1, metric := bmetric, ext := bext, ident := orA borig bpid, clen := Int.ofNat bn3, peer := bpeer } x y <
                    0))
              (bifP
                (!decide
                    (ordK { sess := bsess, pref := bpref, plen := Int.ofNat bn1, metric := bmetric, ext := bext, ident := orA borig bpid, clen := Int.ofNat bn3, peer := bpeer }
                        { sess := asess, pref := apref, plen := Int.ofNat an1, metric := ametric, ext := aext, ident := orA aorig apid, clen := Int.ofNat an3, peer := apeer } y x <
                      0))
                (bifP (asess != -1)
                  (bifP (bsess == asess)
                    (bifP (apref == bpref)
                      (bifP (Int.ofNat an1 == Int.ofNat bn1)
                        (bifP (ametric == bmetric)
                          (bifP (aext == bext)
                            (bifP (x == y)
                              (bifP (Int.ofNat an3 == Int.ofNat bn3)
                                (K H (V.lit (Value.bool (apeer == bpeer))) 3
                                  (PT.nd
                                    (some
                                      (Ob.cells 29
                                        [V.lit (Value.int IntKind.u32 aaddr), V.lit (Value.int IntKind.i64 abits), V.lit (Value.int IntKind.u32 ahop), V.lit (Value.int IntKind.i64 apref),
                                          V.lit (Value.int IntKind.i64 ametric), V.xs ab1 ao1 0 1 an1 ac1 af1, V.xs ab2 ao2 0 1 an2 ac2 af2, V.lit (Value.int IntKind.u32 apeer),
                                          V.lit (Value.int IntKind.u32 apid), V.lit (Value.bool aext), V.lit (Value.int IntKind.u32 aorig), V.xs ab3 ao3 0 1 an3 ac3 af3,
                                          V.lit (Value.int IntKind.i64 asess)]))
                                    (PT.nd
                                      (some
                                        (Ob.cells 29
                                          [V.lit (Value.int IntKind.u32 baddr), V.lit (Value.int IntKind.i64 bbits), V.lit (Value.int IntKind.u32 bhop), V.lit (Value.int IntKind.i64 bpref),
                                            V.lit (Value.int IntKind.i64 bmetric), V.xs bb1 bo1 0 1 bn1 bc1 bf1, V.xs bb2 bo2 0 1 bn2 bc2 bf2, V.lit (Value.int IntKind.u32 bpeer),
                                            V.lit (Value.int IntKind.u32 bpid), V.lit (Value.bool bext), V.lit (Value.int IntKind.u32 borig), V.xs bb3 bo3 0 1 bn3 bc3 bf3,
                                            V.lit (Value.int IntKind.i64 bsess)]))
                                      PT.nil PT.nil)
                                    (PT.nd
                                      (some
                                        (Ob.cells 29
                                          [V.lit (Value.int IntKind.u32 caddr), V.lit (Value.int IntKind.i64 cbits), V.lit (Value.int IntKind.u32 chop), V.lit (Value.int IntKind.i64 cpref),
                                            V.lit (Value.int IntKind.i64 cmetric), V.xs cb1 co1 0 1 cn1 cc1 cf1, V.xs cb2 co2 0 1 cn2 cc2 cf2, V.lit (Value.int IntKind.u32 cpeer),
                                            V.lit (Value.int IntKind.u32 cpid), V.lit (Value.bool cext), V.lit (Value.int IntKind.u32 corig), V.xs cb3 co3 0 1 cn3 cc3 cf3,
                                            V.lit (Value.int IntKind.i64 csess)]))
                                      PT.nil PT.nil)))
                                (K H (V.lit (Value.bool false)) 3
                                  (PT.nd
                                    (some
                                      (Ob.cells 29
                                        [V.lit (Value.int IntKind.u32 aaddr), V.lit (Value.int IntKind.i64 abits), V.lit (Value.int IntKind.u32 ahop), V.lit (Value.int IntKind.i64 apref),
                                          V.lit (Value.int IntKind.i64 ametric), V.xs ab1 ao1 0 1 an1 ac1 af1, V.xs ab2 ao2 0 1 an2 ac2 af2, V.lit (Value.int IntKind.u32 apeer),
                                          V.lit (Value.int IntKind.u32 apid), V.lit (Value.bool aext), V.lit (Value.int IntKind.u32 aorig), V.xs ab3 ao3 0 1 an3 ac3 af3,
                                          V.lit (Value.int IntKind.i64 asess)]))
                                    (PT.nd
                                      (some
                                        (Ob.cells 29
                                          [V.lit (Value.int IntKind.u32 baddr), V.lit (Value.int IntKind.i64 bbits), V.lit (Value.int IntKind.u32 bhop), V.lit (Value.int IntKind.i64 bpref),
                                            V.lit (Value.int IntKind.i64 bmetric), V.xs bb1 bo1 0 1 bn1 bc1 bf1, V.xs bb2 bo2 0 1 bn2 bc2 bf2, V.lit (Value.int IntKind.u32 bpeer),
                                            V.lit (Value.int IntKind.u32 bpid), V.lit (Value.bool bext), V.lit (Value.int IntKind.u32 borig), V.xs bb3 bo3 0 1 bn3 bc3 bf3,
                                            V.lit (Value.int IntKind.i64 bsess)]))
                                      PT.nil PT.nil)
                                    (PT.nd
                                      (some
                                        (Ob.cells 29
                                          [V.lit (Value.int IntKind.u32 caddr), V.lit (Value.int IntKind.i64 cbits), V.lit (Value.int IntKind.u32 chop), V.lit (Value.int IntKind.i64 cpref),
                                            V.lit (Value.int IntKind.i64 cmetric), V.xs cb1 co1 0 1 cn1 cc1 cf1, V.xs cb2 co2 0 1 cn2 cc2 cf2, V.lit (Value.int IntKind.u32 cpeer),
                                            V.lit (Value.int IntKind.u32 cpid), V.lit (Value.bool cext), V.lit (Value.int IntKind.u32 corig), V.xs cb3 co3 0 1 cn3 cc3 cf3,
                                            V.lit (Value.int IntKind.i64 csess)]))
                                      PT.nil PT.nil))))
                              (K H (V.lit (Value.bool false)) 3
                                (PT.nd
                                  (some
                                    (Ob.cells 29
                                      [V.lit (Value.int IntKind.u32 aaddr), V.lit (Value.int IntKind.i64 abits), V.lit (Value.int IntKind.u32 ahop), V.lit (Value.int IntKind.i64 apref),
                                        V.lit (Value.int IntKind.i64 ametric), V.xs ab1 ao1 0 1 an1 ac1 af1, V.xs ab2 ao2 0 1 an2 ac2 af2, V.lit (Value.int IntKind.u32 apeer),
                                        V.lit (Value.int IntKind.u32 apid), V.lit (Value.bool aext), V.lit (Value.int IntKind.u32 aorig), V.xs ab3 ao3 0 1 an3 ac3 af3,
                                        V.lit (Value.int IntKind.i64 asess)]))
                                  (PT.nd
                                    (some
                                      (Ob.cells 29
                                        [V.lit (Value.int IntKind.u32 baddr), V.lit (Value.int IntKind.i64 bbits), V.lit (Value.int IntKind.u32 bhop), V.lit (Value.int IntKind.i64 bpref),
                                          V.lit (Value.int IntKind.i64 bmetric), V.xs bb1 bo1 0 1 bn1 bc1 bf1, V.xs bb2 bo2 0 1 bn2 bc2 bf2, V.lit (Value.int IntKind.u32 bpeer),
                                          V.lit (Value.int IntKind.u32 bpid), V.lit (Value.bool bext), V.lit (Value.int IntKind.u32 borig), V.xs bb3 bo3 0 1 bn3 bc3 bf3,
                                          V.lit (Value.int IntKind.i64 bsess)]))
                                    PT.nil PT.nil)
                                  (PT.nd
                                    (some
                                      (Ob.cells 29
                                        [V.lit (Value.int IntKind.u32 caddr), V.lit (Value.int IntKind.i64 cbits), V.lit (Value.int IntKind.u32 chop), V.lit (Value.int IntKind.i64 cpref),
                                          V.lit (Value.int IntKind.i64 cmetric), V.xs cb1 co1 0 1 cn1 cc1 cf1, V.xs cb2 co2 0 1 cn2 cc2 cf2, V.lit (Value.int IntKind.u32 cpeer),
                                          V.lit (Value.int IntKind.u32 cpid), V.lit (Value.bool cext), V.lit (Value.int IntKind.u32 corig), V.xs cb3 co3 0 1 cn3 cc3 cf3,
                                          V.lit (Value.int IntKind.i64 csess)]))
                                    PT.nil PT.nil))))
                            (K H (V.lit (Value.bool false)) 3
                              (PT.nd
                                (some
                                  (Ob.cells 29
                                    [V.lit (Value.int IntKind.u32 aaddr), V.lit (Value.int IntKind.i64 abits), V.lit (Value.int IntKind.u32 ahop), V.lit (Value.int IntKind.i64 apref),
                                      V.lit (Value.int IntKind.i64 ametric), V.xs ab1 ao1 0 1 an1 ac1 af1, V.xs ab2 ao2 0 1 an2 ac2 af2, V.lit (Value.int IntKind.u32 apeer),
                                      V.lit (Value.int IntKind.u32 apid), V.lit (Value.bool aext), V.lit (Value.int IntKind.u32 aorig), V.xs ab3 ao3 0 1 an3 ac3 af3,
                                      V.lit (Value.int IntKind.i64 asess)]))
                                (PT.nd
                                  (some
                                    (Ob.cells 29
                                      [V.lit (Value.int IntKind.u32 baddr), V.lit (Value.int IntKind.i64 bbits), V.lit (Value.int IntKind.u32 bhop), V.lit (Value.int IntKind.i64 bpref),
                                        V.lit (Value.int IntKind.i64 bmetric), V.xs bb1 bo1 0 1 bn1 bc1 bf1, V.xs bb2 bo2 0 1 bn2 bc2 bf2, V.lit (Value.int IntKind.u32 bpeer),
                                        V.lit (Value.int IntKind.u32 bpid), V.lit (Value.bool bext), V.lit (Value.int IntKind.u32 borig), V.xs bb3 bo3 0 1 bn3 bc3 bf3,
                                        V.lit (Value.int IntKind.i64 bsess)]))
                                  PT.nil PT.nil)
                                (PT.nd
                                  (some
                                    (Ob.cells 29
                                      [V.lit (Value.int IntKind.u32 caddr), V.lit (Value.int IntKind.i64 cbits), V.lit (Value.int IntKind.u32 chop), V.lit (Value.int IntKind.i64 cpref),
                                        V.lit (Value.int IntKind.i64 cmetric), V.xs cb1 co1 0 1 cn1 cc1 cf1, V.xs cb2 co2 0 1 cn2 cc2 cf2, V.lit (Value.int IntKind.u32 cpeer),
                                        V.lit (Value.int IntKind.u32 cpid), V.lit (Value.bool cext), V.lit (Value.int IntKind.u32 corig), V.xs cb3 co3 0 1 cn3 cc3 cf3,
                                        V.lit (Value.int IntKind.i64 csess)]))
                                  PT.nil PT.nil))))
                          (K H (V.lit (Value.bool false)) 3
                            (PT.nd
                              (some
                                (Ob.cells 29
                                  [V.lit (Value.int IntKind.u32 aaddr), V.lit (Value.int IntKind.i64 abits), V.lit (Value.int IntKind.u32 ahop), V.lit (Value.int IntKind.i64 apref),
                                    V.lit (Value.int IntKind.i64 ametric), V.xs ab1 ao1 0 1 an1 ac1 af1, V.xs ab2 ao2 0 1 an2 ac2 af2, V.lit (Value.int IntKind.u32 apeer),
                                    V.lit (Value.int IntKind.u32 apid), V.lit (Value.bool aext), V.lit (Value.int IntKind.u32 aorig), V.xs ab3 ao3 0 1 an3 ac3 af3, V.lit (Value.int IntKind.i64 asess)]))
                              (PT.nd
                                (some
                                  (Ob.cells 29
                                    [V.lit (Value.int IntKind.u32 baddr), V.lit (Value.int IntKind.i64 bbits), V.lit (Value.int IntKind.u32 bhop), V.lit (Value.int IntKind.i64 bpref),
                                      V.lit (Value.int IntKind.i64 bmetric), V.xs bb1 bo1 0 1 bn1 bc1 bf1, V.xs bb2 bo2 0 1 bn2 bc2 bf2, V.lit (Value.int IntKind.u32 bpeer),
                                      V.lit (Value.int IntKind.u32 bpid), V.lit (Value.bool bext), V.lit (Value.int IntKind.u32 borig), V.xs bb3 bo3 0 1 bn3 bc3 bf3,
                                      V.lit (Value.int IntKind.i64 bsess)]))
                                PT.nil PT.nil)
                              (PT.nd
                                (some
                                  (Ob.cells 29
                                    [V.lit (Value.int IntKind.u32 caddr), V.lit (Value.int IntKind.i64 cbits), V.lit (Value.int IntKind.u32 chop), V.lit (Value.int IntKind.i64 cpref),
                                      V.lit (Value.int IntKind.i64 cmetric), V.xs cb1 co1 0 1 cn1 cc1 cf1, V.xs cb2 co2 0 1 cn2 cc2 cf2, V.lit (Value.int IntKind.u32 cpeer),
                                      V.lit (Value.int IntKind.u32 cpid), V.lit (Value.bool cext), V.lit (Value.int IntKind.u32 corig), V.xs cb3 co3 0 1 cn3 cc3 cf3,
                                      V.lit (Value.int IntKind.i64 csess)]))
                                PT.nil PT.nil))))
                        (K H (V.lit (Value.bool false)) 3
                          (PT.nd
                            (some
                              (Ob.cells 29
                                [V.lit (Value.int IntKind.u32 aaddr), V.lit (Value.int IntKind.i64 abits), V.lit (Value.int IntKind.u32 ahop), V.lit (Value.int IntKind.i64 apref),
                                  V.lit (Value.int IntKind.i64 ametric), V.xs ab1 ao1 0 1 an1 ac1 af1, V.xs ab2 ao2 0 1 an2 ac2 af2, V.lit (Value.int IntKind.u32 apeer),
                                  V.lit (Value.int IntKind.u32 apid), V.lit (Value.bool aext), V.lit (Value.int IntKind.u32 aorig), V.xs ab3 ao3 0 1 an3 ac3 af3, V.lit (Value.int IntKind.i64 asess)]))
                            (PT.nd
                              (some
                                (Ob.cells 29
                                  [V.lit (Value.int IntKind.u32 baddr), V.lit (Value.int IntKind.i64 bbits), V.lit (Value.int IntKind.u32 bhop), V.lit (Value.int IntKind.i64 bpref),
                                    V.lit (Value.int IntKind.i64 bmetric), V.xs bb1 bo1 0 1 bn1 bc1 bf1, V.xs bb2 bo2 0 1 bn2 bc2 bf2, V.lit (Value.int IntKind.u32 bpeer),
                                    V.lit (Value.int IntKind.u32 bpid), V.lit (Value.bool bext), V.lit (Value.int IntKind.u32 borig), V.xs bb3 bo3 0 1 bn3 bc3 bf3, V.lit (Value.int IntKind.i64 bsess)]))
                              PT.nil PT.nil)
                            (PT.nd
                              (some
                                (Ob.cells 29
                                  [V.lit (Value.int IntKind.u32 caddr), V.lit (Value.int IntKind.i64 cbits), V.lit (Value.int IntKind.u32 chop), V.lit (Value.int IntKind.i64 cpref),
                                    V.lit (Value.int IntKind.i64 cmetric), V.xs cb1 co1 0 1 cn1 cc1 cf1, V.xs cb2 co2 0 1 cn2 cc2 cf2, V.lit (Value.int IntKind.u32 cpeer),
                                    V.lit (Value.int IntKind.u32 cpid), V.lit (Value.bool cext), V.lit (Value.int IntKind.u32 corig), V.xs cb3 co3 0 1 cn3 cc3 cf3, V.lit (Value.int IntKind.i64 csess)]))
                              PT.nil PT.nil))))
                      (K H (V.lit (Value.bool false)) 3
                        (PT.nd
                          (some
                            (Ob.cells 29
                              [V.lit (Value.int IntKind.u32 aaddr), V.lit (Value.int IntKind.i64 abits), V.lit (Value.int IntKind.u32 ahop), V.lit (Value.int IntKind.i64 apref),
                                V.lit (Value.int IntKind.i64 ametric), V.xs ab1 ao1 0 1 an1 ac1 af1, V.xs ab2 ao2 0 1 an2 ac2 af2, V.lit (Value.int IntKind.u32 apeer),
                                V.lit (Value.int IntKind.u32 apid), V.lit (Value.bool aext), V.lit (Value.int IntKind.u32 aorig), V.xs ab3 ao3 0 1 an3 ac3 af3, V.lit (Value.int IntKind.i64 asess)]))
                          (PT.nd
                            (some
                              (Ob.cells 29
                                [V.lit (Value.int IntKind.u32 baddr), V.lit (Value.int IntKind.i64 bbits), V.lit (Value.int IntKind.u32 bhop), V.lit (Value.int IntKind.i64 bpref),
                                  V.lit (Value.int IntKind.i64 bmetric), V.xs bb1 bo1 0 1 bn1 bc1 bf1, V.xs bb2 bo2 0 1 bn2 bc2 bf2, V.lit (Value.int IntKind.u32 bpeer),
                                  V.lit (Value.int IntKind.u32 bpid), V.lit (Value.bool bext), V.lit (Value.int IntKind.u32 borig), V.xs bb3 bo3 0 1 bn3 bc3 bf3, V.lit (Value.int IntKind.i64 bsess)]))
                            PT.nil PT.nil)
                          (PT.nd
                            (some
                              (Ob.cells 29
                                [V.lit (Value.int IntKind.u32 caddr), V.lit (Value.int IntKind.i64 cbits), V.lit (Value.int IntKind.u32 chop), V.lit (Value.int IntKind.i64 cpref),
                                  V.lit (Value.int IntKind.i64 cmetric), V.xs cb1 co1 0 1 cn1 cc1 cf1, V.xs cb2 co2 0 1 cn2 cc2 cf2, V.lit (Value.int IntKind.u32 cpeer),
                                  V.lit (Value.int IntKind.u32 cpid), V.lit (Value.bool cext), V.lit (Value.int IntKind.u32 corig), V.xs cb3 co3 0 1 cn3 cc3 cf3, V.lit (Value.int IntKind.i64 csess)]))
                            PT.nil PT.nil))))
                    (K H (V.lit (Value.bool false)) 3
                      (PT.nd
                        (some
                          (Ob.cells 29
                            [V.lit (Value.int IntKind.u32 aaddr), V.lit (Value.int IntKind.i64 abits), V.lit (Value.int IntKind.u32 ahop), V.lit (Value.int IntKind.i64 apref),
                              V.lit (Value.int IntKind.i64 ametric), V.xs ab1 ao1 0 1 an1 ac1 af1, V.xs ab2 ao2 0 1 an2 ac2 af2, V.lit (Value.int IntKind.u32 apeer), V.lit (Value.int IntKind.u32 apid),
                              V.lit (Value.bool aext), V.lit (Value.int IntKind.u32 aorig), V.xs ab3 ao3 0 1 an3 ac3 af3, V.lit (Value.int IntKind.i64 asess)]))
                        (PT.nd
                          (some
                            (Ob.cells 29
                              [V.lit (Value.int IntKind.u32 baddr), V.lit (Value.int IntKind.i64 bbits), V.lit (Value.int IntKind.u32 bhop), V.lit (Value.int IntKind.i64 bpref),
                                V.lit (Value.int IntKind.i64 bmetric), V.xs bb1 bo1 0 1 bn1 bc1 bf1, V.xs bb2 bo2 0 1 bn2 bc2 bf2, V.lit (Value.int IntKind.u32 bpeer),
                                V.lit (Value.int IntKind.u32 bpid), V.lit (Value.bool bext), V.lit (Value.int IntKind.u32 borig), V.xs bb3 bo3 0 1 bn3 bc3 bf3, V.lit (Value.int IntKind.i64 bsess)]))
                          PT.nil PT.nil)
                        (PT.nd
                          (some
                            (Ob.cells 29
                              [V.lit (Value.int IntKind.u32 caddr), V.lit (Value.int IntKind.i64 cbits), V.lit (Value.int IntKind.u32 chop), V.lit (Value.int IntKind.i64 cpref),
                                V.lit (Value.int IntKind.i64 cmetric), V.xs cb1 co1 0 1 cn1 cc1 cf1, V.xs cb2 co2 0 1 cn2 cc2 cf2, V.lit (Value.int IntKind.u32 cpeer),
                                V.lit (Value.int IntKind.u32 cpid), V.lit (Value.bool cext), V.lit (Value.int IntKind.u32 corig), V.xs cb3 co3 0 1 cn3 cc3 cf3, V.lit (Value.int IntKind.i64 csess)]))
                          PT.nil PT.nil))))
                  (K H (V.lit (Value.bool true)) 3
                    (PT.nd
                      (some
                        (Ob.cells 29
                          [V.lit (Value.int IntKind.u32 aaddr), V.lit (Value.int IntKind.i64 abits), V.lit (Value.int IntKind.u32 ahop), V.lit (Value.int IntKind.i64 apref),
                            V.lit (Value.int IntKind.i64 ametric), V.xs ab1 ao1 0 1 an1 ac1 af1, V.xs ab2 ao2 0 1 an2 ac2 af2, V.lit (Value.int IntKind.u32 apeer), V.lit (Value.int IntKind.u32 apid),
                            V.lit (Value.bool aext), V.lit (Value.int IntKind.u32 aorig), V.xs ab3 ao3 0 1 an3 ac3 af3, V.lit (Value.int IntKind.i64 asess)]))
                      (PT.nd
                        (some
                          (Ob.cells 29
                            [V.lit (Value.int IntKind.u32 baddr), V.lit (Value.int IntKind.i64 bbits), V.lit (Value.int IntKind.u32 bhop), V.lit (Value.int IntKind.i64 bpref),
                              V.lit (Value.int IntKind.i64 bmetric), V.xs bb1 bo1 0 1 bn1 bc1 bf1, V.xs bb2 bo2 0 1 bn2 bc2 bf2, V.lit (Value.int IntKind.u32 bpeer), V.lit (Value.int IntKind.u32 bpid),
                              V.lit (Value.bool bext), V.lit (Value.int IntKind.u32 borig), V.xs bb3 bo3 0 1 bn3 bc3 bf3, V.lit (Value.int IntKind.i64 bsess)]))
                        PT.nil PT.nil)
                      (PT.nd
                        (some
                          (Ob.cells 29
                            [V.lit (Value.int IntKind.u32 caddr), V.lit (Value.int IntKind.i64 cbits), V.lit (Value.int IntKind.u32 chop), V.lit (Value.int IntKind.i64 cpref),
                              V.lit (Value.int IntKind.i64 cmetric), V.xs cb1 co1 0 1 cn1 cc1 cf1, V.xs cb2 co2 0 1 cn2 cc2 cf2, V.lit (Value.int IntKind.u32 cpeer), V.lit (Value.int IntKind.u32 cpid),
                              V.lit (Value.bool cext), V.lit (Value.int IntKind.u32 corig), V.xs cb3 co3 0 1 cn3 cc3 cf3, V.lit (Value.int IntKind.i64 csess)]))
                        PT.nil PT.nil))))
                (K H (V.lit (Value.bool true)) 3
                  (PT.nd
                    (some
                      (Ob.cells 29
                        [V.lit (Value.int IntKind.u32 aaddr), V.lit (Value.int IntKind.i64 abits), V.lit (Value.int IntKind.u32 ahop), V.lit (Value.int IntKind.i64 apref),
                          V.lit (Value.int IntKind.i64 ametric), V.xs ab1 ao1 0 1 an1 ac1 af1, V.xs ab2 ao2 0 1 an2 ac2 af2, V.lit (Value.int IntKind.u32 apeer), V.lit (Value.int IntKind.u32 apid),
                          V.lit (Value.bool aext), V.lit (Value.int IntKind.u32 aorig), V.xs ab3 ao3 0 1 an3 ac3 af3, V.lit (Value.int IntKind.i64 asess)]))
                    (PT.nd
                      (some
                        (Ob.cells 29
                          [V.lit (Value.int IntKind.u32 baddr), V.lit (Value.int IntKind.i64 bbits), V.lit (Value.int IntKind.u32 bhop), V.lit (Value.int IntKind.i64 bpref),
                            V.lit (Value.int IntKind.i64 bmetric), V.xs bb1 bo1 0 1 bn1 bc1 bf1, V.xs bb2 bo2 0 1 bn2 bc2 bf2, V.lit (Value.int IntKind.u32 bpeer), V.lit (Value.int IntKind.u32 bpid),
                            V.lit (Value.bool bext), V.lit (Value.int IntKind.u32 borig), V.xs bb3 bo3 0 1 bn3 bc3 bf3, V.lit (Value.int IntKind.i64 bsess)]))
                      PT.nil PT.nil)
                    (PT.nd
                      (some
                        (Ob.cells 29
                          [V.lit (Value.int IntKind.u32 caddr), V.lit (Value.int IntKind.i64 cbits), V.lit (Value.int IntKind.u32 chop), V.lit (Value.int IntKind.i64 cpref),
                            V.lit (Value.int IntKind.i64 cmetric), V.xs cb1 co1 0 1 cn1 cc1 cf1, V.xs cb2 co2 0 1 cn2 cc2 cf2, V.lit (Value.int IntKind.u32 cpeer), V.lit (Value.int IntKind.u32 cpid),
                            V.lit (Value.bool cext), V.lit (Value.int IntKind.u32 corig), V.xs cb3 co3 0 1 cn3 cc3 cf3, V.lit (Value.int IntKind.i64 csess)]))
                      PT.nil PT.nil))))
              (K H (V.lit (Value.bool true)) 3
                (PT.nd
                  (some
                    (Ob.cells 29
                      [V.lit (Value.int IntKind.u32 aaddr), V.lit (Value.int IntKind.i64 abits), V.lit (Value.int IntKind.u32 ahop), V.lit (Value.int IntKind.i64 apref),
                        V.lit (Value.int IntKind.i64 ametric), V.xs ab1 ao1 0 1 an1 ac1 af1, V.xs ab2 ao2 0 1 an2 ac2 af2, V.lit (Value.int IntKind.u32 apeer), V.lit (Value.int IntKind.u32 apid),
                        V.lit (Value.bool aext), V.lit (Value.int IntKind.u32 aorig), V.xs ab3 ao3 0 1 an3 ac3 af3, V.lit (Value.int IntKind.i64 asess)]))
                  (PT.nd
                    (some
                      (Ob.cells 29
                        [V.lit (Value.int IntKind.u32 baddr), V.lit (Value.int IntKind.i64 bbits), V.lit (Value.int IntKind.u32 bhop), V.lit (Value.int IntKind.i64 bpref),
                          V.lit (Value.int IntKind.i64 bmetric), V.xs bb1 bo1 0 1 bn1 bc1 bf1, V.xs bb2 bo2 0 1 bn2 bc2 bf2, V.lit (Value.int IntKind.u32 bpeer), V.lit (Value.int IntKind.u32 bpid),
                          V.lit (Value.bool bext), V.lit (Value.int IntKind.u32 borig), V.xs bb3 bo3 0 1 bn3 bc3 bf3, V.lit (Value.int IntKind.i64 bsess)]))
                    PT.nil PT.nil)
                  (PT.nd
                    (some
                      (Ob.cells 29
                        [V.lit (Value.int IntKind.u32 caddr), V.lit (Value.int IntKind.i64 cbits), V.lit (Value.int IntKind.u32 chop), V.lit (Value.int IntKind.i64 cpref),
                          V.lit (Value.int IntKind.i64 cmetric), V.xs cb1 co1 0 1 cn1 cc1 cf1, V.xs cb2 co2 0 1 cn2 cc2 cf2, V.lit (Value.int IntKind.u32 cpeer), V.lit (Value.int IntKind.u32 cpid),
                          V.lit (Value.bool cext), V.lit (Value.int IntKind.u32 corig), V.xs cb3 co3 0 1 cn3 cc3 cf3, V.lit (Value.int IntKind.i64 csess)]))
                    PT.nil PT.nil))))))
        (bifP
          (decide
            (ordK { sess := asess, pref := apref, plen := Int.ofNat an1, metric := ametric, ext := aext, ident := orA aorig apid, clen := Int.ofNat an3, peer := apeer }
                { sess := bsess, pref := bpref, plen := Int.ofNat bn1, metric := bmetric, ext := bext, ident := orA borig bpid, clen := Int.ofNat bn3, peer := bpeer } x y <
              0))
          (bifP
            (decide
              (ordK { sess := bsess, pref := bpref, plen := Int.ofNat bn1, metric := bmetric, ext := bext, ident := orA borig bpid, clen := Int.ofNat bn3, peer := bpeer }
                  { sess := csess, pref := cpref, plen := Int.ofNat cn1, metric := cmetric, ext := cext, ident := orA corig cpid, clen := Int.ofNat cn3, peer := cpeer } y z <
                0))
            (bifP
              (!decide
                  (ordK { sess := asess, pref := apref, plen := Int.ofNat an1, metric := ametric, ext := aext, ident := orA aorig apid, clen := Int.ofNat an3, peer := apeer }
                      { sess := csess, pref := cpref, plen := Int.ofNat cn1, metric := cmetric, ext := cext, ident := orA corig cpid, clen := Int.ofNat cn3, peer := cpeer } x z <
                    0))
              (K H (V.lit (Value.bool false)) 3
                (PT.nd
                  (some
                    (Ob.cells 29
                      [V.lit (Value.int IntKind.u32 aaddr), V.lit (Value.int IntKind.i64 abits), V.lit (Value.int IntKind.u32 ahop), V.lit (Value.int IntKind.i64 apref),
                        V.lit (Value.int IntKind.i64 ametric), V.xs ab1 ao1 0 1 an1 ac1 af1, V.xs ab2 ao2 0 1 an2 ac2 af2, V.lit (Value.int IntKind.u32 apeer), V.lit (Value.int IntKind.u32 apid),
                        V.lit (Value.bool aext), V.lit (Value.int IntKind.u32 aorig), V.xs ab3 ao3 0 1 an3 ac3 af3, V.lit (Value.int IntKind.i64 asess)]))
                  (PT.nd
                    (some
                      (Ob.cells 29
                        [V.lit (Value.int IntKind.u32 baddr), V.lit (Value.int IntKind.i64 bbits), V.lit (Value.int IntKind.u32 bhop), V.lit (Value.int IntKind.i64 bpref),
                          V.lit (Value.int IntKind.i64 bmetric), V.xs bb1 bo1 0 1 bn1 bc1 bf1, V.xs bb2 bo2 0 1 bn2 bc2 bf2, V.lit (Value.int IntKind.u32 bpeer), V.lit (Value.int IntKind.u32 bpid),
                          V.lit (Value.bool bext), V.lit (Value.int IntKind.u32 borig), V.xs bb3 bo3 0 1 bn3 bc3 bf3, V.lit (Value.int IntKind.i64 bsess)]))
                    PT.nil PT.nil)
                  (PT.nd
                    (some
                      (Ob.cells 29
                        [V.lit (Value.int IntKind.u32 caddr), V.lit (Value.int IntKind.i64 cbits), V.lit (Value.int IntKind.u32 chop), V.lit (Value.int IntKind.i64 cpref),
                          V.lit (Value.int IntKind.i64 cmetric), V.xs cb1 co1 0 1 cn1 cc1 cf1, V.xs cb2 co2 0 1 cn2 cc2 cf2, V.lit (Value.int IntKind.u32 cpeer), V.lit (Value.int IntKind.u32 cpid),
                          V.lit (Value.bool cext), V.lit (Value.int IntKind.u32 corig), V.xs cb3 co3 0 1 cn3 cc3 cf3, V.lit (Value.int IntKind.i64 csess)]))
                    PT.nil PT.nil)))
              (bifP
                (!decide
                    (ordK { sess := asess, pref := apref, plen := Int.ofNat an1, metric := ametric, ext := aext, ident := orA aorig apid, clen := Int.ofNat an3, peer := apeer }
                        { sess := bsess, pref := bpref, plen := Int.ofNat bn1, metric := bmetric, ext := bext, ident := orA borig bpid, clen := Int.ofNat bn3, peer := bpeer } x y <
                      0))
                (bifP
                  (!decide
                      (ordK { sess := bsess, pref := bpref, plen := Int.ofNat bn1, metric := bmetric, ext := bext, ident := orA borig bpid, clen := Int.ofNat bn3, peer := bpeer }
                          { sess := asess, pref := apref, plen := Int.ofNat an1, metric := ametric, ext := aext, ident := orA aorig apid, clen := Int.ofNat an3, peer := apeer } y x <
                        0))
                  (bifP (asess != -1)
                    (bifP (bsess == asess)
                      (bifP (apref == bpref)
                        (bifP (Int.ofNat an1 == Int.ofNat bn1)
                          (bifP (ametric == bmetric)
                            (bifP (aext == bext)
                              (bifP (x == y)
                                (bifP (Int.ofNat an3 == Int.ofNat bn3)
                                  (K H (V.lit (Value.bool (apeer == bpeer))) 3
                                    (PT.nd
                                      (some
                                        (Ob.cells 29
                                          [V.lit (Value.int IntKind.u32 aaddr), V.lit (Value.int IntKind.i64 abits), V.lit (Value.int IntKind.u32 ahop), V.lit (Value.int IntKind.i64 apref),
                                            V.lit (Value.int IntKind.i64 ametric), V.xs ab1 ao1 0 1 an1 ac1 af1, V.xs ab2 ao2 0 1 an2 ac2 af2, V.lit (Value.int IntKind.u32 apeer),
                                            V.lit (Value.int IntKind.u32 apid), V.lit (Value.bool aext), V.lit (Value.int IntKind.u32 aorig), V.xs ab3 ao3 0 1 an3 ac3 af3,
                                            V.lit (Value.int IntKind.i64 asess)]))
                                      (PT.nd
                                        (some
                                          (Ob.cells 29
                                            [V.lit (Value.int IntKind.u32 baddr), V.lit (Value.int IntKind.i64 bbits), V.lit (Value.int IntKind.u32 bhop), V.lit (Value.int IntKind.i64 bpref),
                                              V.lit (Value.int IntKind.i64 bmetric), V.xs bb1 bo1 0 1 bn1 bc1 bf1, V.xs bb2 bo2 0 1 bn2 bc2 bf2, V.lit (Value.int IntKind.u32 bpeer),
                                              V.lit (Value.int IntKind.u32 bpid), V.lit (Value.bool bext), V.lit (Value.int IntKind.u32 borig), V.xs bb3 bo3 0 1 bn3 bc3 bf3,
                                              V.lit (Value.int IntKind.i64 bsess)]))
                                        PT.nil PT.nil)
                                      (PT.nd
                                        (some
                                          (Ob.cells 29
                                            [V.lit (Value.int IntKind.u32 caddr), V.lit (Value.int IntKind.i64 cbits), V.lit (Value.int IntKind.u32 chop), V.lit (Value.int IntKind.i64 cpref),
                                              V.lit (Value.int IntKind.i64 cmetric), V.xs cb1 co1 0 1 cn1 cc1 cf1, V.xs cb2 co2 0 1 cn2 cc2 cf2, V.lit (Value.int IntKind.u32 cpeer),
                                              V.lit (Value.int IntKind.u32 cpid), V.lit (Value.bool cext), V.lit (Value.int IntKind.u32 corig), V.xs cb3 co3 0 1 cn3 cc3 cf3,
                                              V.lit (Value.int IntKind.i64 csess)]))
                                        PT.nil PT.nil)))
                                  (K H (V.lit (Value.bool false)) 3
                                    (PT.nd
                                      (some
                                        (Ob.cells 29
                                          [V.lit (Value.int IntKind.u32 aaddr), V.lit (Value.int IntKind.i64 abits), V.lit (Value.int IntKind.u32 ahop), V.lit (Value.int IntKind.i64 apref),
                                            V.lit (Value.int IntKind.i64 ametric), V.xs ab1 ao1 0 1 an1 ac1 af1, V.xs ab2 ao2 0 1 an2 ac2 af2, V.lit (Value.int IntKind.u32 apeer),
                                            V.lit (Value.int IntKind.u32 apid), V.lit (Value.bool aext), V.lit (Value.int IntKind.u32 aorig), V.xs ab3 ao3 0 1 an3 ac3 af3,
                                            V.lit (Value.int IntKind.i64 asess)]))
                                      (PT.nd
                                        (some
                                          (Ob.cells 29
                                            [V.lit (Value.int IntKind.u32 baddr), V.lit (Value.int IntKind.i64 bbits), V.lit (Value.int IntKind.u32 bhop), V.lit (Value.int IntKind.i64 bpref),
                                              V.lit (Value.int IntKind.i64 bmetric), V.xs bb1 bo1 0 1 bn1 bc1 bf1, V.xs bb2 bo2 0 1 bn2 bc2 bf2, V.lit (Value.int IntKind.u32 bpeer),
                                              V.lit (Value.int IntKind.u32 bpid), V.lit (Value.bool bext), V.lit (Value.int IntKind.u32 borig), V.xs bb3 bo3 0 1 bn3 bc3 bf3,
                                              V.lit (Value.int IntKind.i64 bsess)]))
                                        PT.nil PT.nil)
                                      (PT.nd
                                        (some
                                          (Ob.cells 29
                                            [V.lit (Value.int IntKind.u32 caddr), V.lit (Value.int IntKind.i64 cbits), V.lit (Value.int IntKind.u32 chop), V.lit (Value.int IntKind.i64 cpref),
                                              V.lit (Value.int IntKind.i64 cmetric), V.xs cb1 co1 0 1 cn1 cc1 cf1, V.xs cb2 co2 0 1 cn2 cc2 cf2, V.lit (Value.int IntKind.u32 cpeer),
                                              V.lit (Value.int IntKind.u32 cpid), V.lit (Value.bool cext), V.lit (Value.int IntKind.u32 corig), V.xs cb3 co3 0 1 cn3 cc3 cf3,
                                              V.lit (Value.int IntKind.i64 csess)]))
                                        PT.nil PT.nil))))
                                (K H (V.lit (Value.bool false)) 3
                                  (PT.nd
                                    (some
                                      (Ob.cells 29
                                        [V.lit (Value.int IntKind.u32 aaddr), V.lit (Value.int IntKind.i64 abits), V.lit (Value.int IntKind.u32 ahop), V.lit (Value.int IntKind.i64 apref),
                                          V.lit (Value.int IntKind.i64 ametric), V.xs ab1 ao1 0 1 an1 ac1 af1, V.xs ab2 ao2 0 1 an2 ac2 af2, V.lit (Value.int IntKind.u32 apeer),
                                          V.lit (Value.int IntKind.u32 apid), V.lit (Value.bool aext), V.lit (Value.int IntKind.u32 aorig), V.xs ab3 ao3 0 1 an3 ac3 af3,
                                          V.lit (Value.int IntKind.i64 asess)]))
                                    (PT.nd
                                      (some
                                        (Ob.cells 29
                                          [V.lit (Value.int IntKind.u32 baddr), V.lit (Value.int IntKind.i64 bbits), V.lit (Value.int IntKind.u32 bhop), V.lit (Value.int IntKind.i64 bpref),
                                            V.lit (Value.int IntKind.i64 bmetric), V.xs bb1 bo1 0 1 bn1 bc1 bf1, V.xs bb2 bo2 0 1 bn2 bc2 bf2, V.lit (Value.int IntKind.u32 bpeer),
                                            V.lit (Value.int IntKind.u32 bpid), V.lit (Value.bool bext), V.lit (Value.int IntKind.u32 borig), V.xs bb3 bo3 0 1 bn3 bc3 bf3,
                                            V.lit (Value.int IntKind.i64 bsess)]))
                                      PT.nil PT.nil)
                                    (PT.nd
                                      (some
                                        (Ob.cells 29
                                          [V.lit (Value.int IntKind.u32 caddr), V.lit (Value.int IntKind.i64 cbits), V.lit (Value.int IntKind.u32 chop), V.lit (Value.int IntKind.i64 cpref),
                                            V.lit (Value.int IntKind.i64 cmetric), V.xs cb1 co1 0 1 cn1 cc1 cf1, V.xs cb2 co2 0 1 cn2 cc2 cf2, V.lit (Value.int IntKind.u32 cpeer),
                                            V.lit (Value.int IntKind.u32 cpid), V.lit (Value.bool cext), V.lit (Value.int IntKind.u32 corig), V.xs cb3 co3 0 1 cn3 cc3 cf3,
                                            V.lit (Value.int IntKind.i64 csess)]))
                                      PT.nil PT.nil))))
                              (K H (V.lit (Value.bool false)) 3
                                (PT.nd
                                  (some
                                    (Ob.cells 29
                                      [V.lit (Value.int IntKind.u32 aaddr), V.lit (Value.int IntKind.i64 abits), V.lit (Value.int IntKind.u32 ahop), V.lit (Value.int IntKind.i64 apref),
                                        V.lit (Value.int IntKind.i64 ametric), V.xs ab1 ao1 0 1 an1 ac1 af1, V.xs ab2 ao2 0 1 an2 ac2 af2, V.lit (Value.int IntKind.u32 apeer),
                                        V.lit (Value.int IntKind.u32 apid), V.lit (Value.bool aext), V.lit (Value.int IntKind.u32 aorig), V.xs ab3 ao3 0 1 an3 ac3 af3,
                                        V.lit (Value.int IntKind.i64 asess)]))
                                  (PT.nd
                                    (some
                                      (Ob.cells 29
                                        [V.lit (Value.int IntKind.u32 baddr), V.lit (Value.int IntKind.i64 bbits), V.lit (Value.int IntKind.u32 bhop), V.lit (Value.int IntKind.i64 bpref),
                                          V.lit (Value.int IntKind.i64 bmetric), V.xs bb1 bo1 0 1 bn1 bc1 bf1, V.xs bb2 bo2 0 1 bn2 bc2 bf2, V.lit (Value.int IntKind.u32 bpeer),
                                          V.lit (Value.int IntKind.u32 bpid), V.lit (Value.bool bext), V.lit (Value.int IntKind.u32 borig), V.xs bb3 bo3 0 1 bn3 bc3 bf3,
                                          V.lit (Value.int IntKind.i64 bsess)]))
                                    PT.nil PT.nil)
                                  (PT.nd
                                    (some
                                      (Ob.cells 29
                                        [V.lit (Value.int IntKind.u32 caddr), V.lit (Value.int IntKind.i64 cbits), V.lit (Value.int IntKind.u32 chop), V.lit (Value.int IntKind.i64 cpref),
                                          V.lit (Value.int IntKind.i64 cmetric), V.xs cb1 co1 0 1 cn1 cc1 cf1, V.xs cb2 co2 0 1 cn2 cc2 cf2, V.lit (Value.int IntKind.u32 cpeer),
                                          V.lit (Value.int IntKind.u32 cpid), V.lit (Value.bool cext), V.lit (Value.int IntKind.u32 corig), V.xs cb3 co3 0 1 cn3 cc3 cf3,
                                          V.lit (Value.int IntKind.i64 csess)]))
                                    PT.nil PT.nil))))
                            (K H (V.lit (Value.bool false)) 3
                              (PT.nd
                                (some
                                  (Ob.cells 29
                                    [V.lit (Value.int IntKind.u32 aaddr), V.lit (Value.int IntKind.i64 abits), V.lit (Value.int IntKind.u32 ahop), V.lit (Value.int IntKind.i64 apref),
                                      V.lit (Value.int IntKind.i64 ametric), V.xs ab1 ao1 0 1 an1 ac1 af1, V.xs ab2 ao2 0 1 an2 ac2 af2, V.lit (Value.int IntKind.u32 apeer),
                                      V.lit (Value.int IntKind.u32 apid), V.lit (Value.bool aext), V.lit (Value.int IntKind.u32 aorig), V.xs ab3 ao3 0 1 an3 ac3 af3,
                                      V.lit (Value.int IntKind.i64 asess)]))
                                (PT.nd
                                  (some
                                    (Ob.cells 29
                                      [V.lit (Value.int IntKind.u32 baddr), V.lit (Value.int IntKind.i64 bbits), V.lit (Value.int IntKind.u32 bhop), V.lit (Value.int IntKind.i64 bpref),
                                        V.lit (Value.int IntKind.i64 bmetric), V.xs bb1 bo1 0 1 bn1 bc1 bf1, V.xs bb2 bo2 0 1 bn2 bc2 bf2, V.lit (Value.int IntKind.u32 bpeer),
                                        V.lit (Value.int IntKind.u32 bpid), V.lit (Value.bool bext), V.lit (Value.int IntKind.u32 borig), V.xs bb3 bo3 0 1 bn3 bc3 bf3,
                                        V.lit (Value.int IntKind.i64 bsess)]))
                                  PT.nil PT.nil)
                                (PT.nd
                                  (some
                                    (Ob.cells 29
                                      [V.lit (Value.int IntKind.u32 caddr), V.lit (Value.int IntKind.i64 cbits), V.lit (Value.int IntKind.u32 chop), V.lit (Value.int IntKind.i64 cpref),
                                        V.lit (Value.int IntKind.i64 cmetric), V.xs cb1 co1 0 1 cn1 cc1 cf1, V.xs cb2 co2 0 1 cn2 cc2 cf2, V.lit (Value.int IntKind.u32 cpeer),
                                        V.lit (Value.int IntKind.u32 cpid), V.lit (Value.bool cext), V.lit (Value.int IntKind.u32 corig), V.xs cb3 co3 0 1 cn3 cc3 cf3,
                                        V.lit (Value.int IntKind.i64 csess)]))
                                  PT.nil PT.nil))))
                          (K H (V.lit (Value.bool false)) 3
                            (PT.nd
                              (some
                                (Ob.cells 29
                                  [V.lit (Value.int IntKind.u32 aaddr), V.lit (Value.int IntKind.i64 abits), V.lit (Value.int IntKind.u32 ahop), V.lit (Value.int IntKind.i64 apref),
                                    V.lit (Value.int IntKind.i64 ametric), V.xs ab1 ao1 0 1 an1 ac1 af1, V.xs ab2 ao2 0 1 an2 ac2 af2, V.lit (Value.int IntKind.u32 apeer),
                                    V.lit (Value.int IntKind.u32 apid), V.lit (Value.bool aext), V.lit (Value.int IntKind.u32 aorig), V.xs ab3 ao3 0 1 an3 ac3 af3, V.lit (Value.int IntKind.i64 asess)]))
                              (PT.nd
                                (some
                                  (Ob.cells 29
                                    [V.lit (Value.int IntKind.u32 baddr), V.lit (Value.int IntKind.i64 bbits), V.lit (Value.int IntKind.u32 bhop), V.lit (Value.int IntKind.i64 bpref),
                                      V.lit (Value.int IntKind.i64 bmetric), V.xs bb1 bo1 0 1 bn1 bc1 bf1, V.xs bb2 bo2 0 1 bn2 bc2 bf2, V.lit (Value.int IntKind.u32 bpeer),
                                      V.lit (Value.int IntKind.u32 bpid), V.lit (Value.bool bext), V.lit (Value.int IntKind.u32 borig), V.xs bb3 bo3 0 1 bn3 bc3 bf3,
                                      V.lit (Value.int IntKind.i64 bsess)]))
                                PT.nil PT.nil)
                              (PT.nd
                                (some
                                  (Ob.cells 29
                                    [V.lit (Value.int IntKind.u32 caddr), V.lit (Value.int IntKind.i64 cbits), V.lit (Value.int IntKind.u32 chop), V.lit (Value.int IntKind.i64 cpref),
                                      V.lit (Value.int IntKind.i64 cmetric), V.xs cb1 co1 0 1 cn1 cc1 cf1, V.xs cb2 co2 0 1 cn2 cc2 cf2, V.lit (Value.int IntKind.u32 cpeer),
                                      V.lit (Value.int IntKind.u32 cpid), V.lit (Value.bool cext), V.lit (Value.int IntKind.u32 corig), V.xs cb3 co3 0 1 cn3 cc3 cf3,
                                      V.lit (Value.int IntKind.i64 csess)]))
                                PT.nil PT.nil))))
                        (K H (V.lit (Value.bool false)) 3
                          (PT.nd
                            (some
                              (Ob.cells 29
                                [V.lit (Value.int IntKind.u32 aaddr), V.lit (Value.int IntKind.i64 abits), V.lit (Value.int IntKind.u32 ahop), V.lit (Value.int IntKind.i64 apref),
                                  V.lit (Value.int IntKind.i64 ametric), V.xs ab1 ao1 0 1 an1 ac1 af1, V.xs ab2 ao2 0 1 an2 ac2 af2, V.lit (Value.int IntKind.u32 apeer),
                                  V.lit (Value.int IntKind.u32 apid), V.lit (Value.bool aext), V.lit (Value.int IntKind.u32 aorig), V.xs ab3 ao3 0 1 an3 ac3 af3, V.lit (Value.int IntKind.i64 asess)]))
                            (PT.nd
                              (some
                                (Ob.cells 29
                                  [V.lit (Value.int IntKind.u32 baddr), V.lit (Value.int IntKind.i64 bbits), V.lit (Value.int IntKind.u32 bhop), V.lit (Value.int IntKind.i64 bpref),
                                    V.lit (Value.int IntKind.i64 bmetric), V.xs bb1 bo1 0 1 bn1 bc1 bf1, V.xs bb2 bo2 0 1 bn2 bc2 bf2, V.lit (Value.int IntKind.u32 bpeer),
                                    V.lit (Value.int IntKind.u32 bpid), V.lit (Value.bool bext), V.lit (Value.int IntKind.u32 borig), V.xs bb3 bo3 0 1 bn3 bc3 bf3, V.lit (Value.int IntKind.i64 bsess)]))
                              PT.nil PT.nil)
                            (PT.nd
                              (some
                                (Ob.cells 29
                                  [V.lit (Value.int IntKind.u32 caddr), V.lit (Value.int IntKind.i64 cbits), V.lit (Value.int IntKind.u32 chop), V.lit (Value.int IntKind.i64 cpref),
                                    V.lit (Value.int IntKind.i64 cmetric), V.xs cb1 co1 0 1 cn1 cc1 cf1, V.xs cb2 co2 0 1 cn2 cc2 cf2, V.lit (Value.int IntKind.u32 cpeer),
                                    V.lit (Value.int IntKind.u32 cpid), V.lit (Value.bool cext), V.lit (Value.int IntKind.u32 corig), V.xs cb3 co3 0 1 cn3 cc3 cf3, V.lit (Value.int IntKind.i64 csess)]))
                              PT.nil PT.nil))))
                      (K H (V.lit (Value.bool false)) 3
                        (PT.nd
                          (some
                            (Ob.cells 29
                              [V.lit (Value.int IntKind.u32 aaddr), V.lit (Value.int IntKind.i64 abits), V.lit (Value.int IntKind.u32 ahop), V.lit (Value.int IntKind.i64 apref),
                                V.lit (Value.int IntKind.i64 ametric), V.xs ab1 ao1 0 1 an1 ac1 af1, V.xs ab2 ao2 0 1 an2 ac2 af2, V.lit (Value.int IntKind.u32 apeer),
                                V.lit (Value.int IntKind.u32 apid), V.lit (Value.bool aext), V.lit (Value.int IntKind.u32 aorig), V.xs ab3 ao3 0 1 an3 ac3 af3, V.lit (Value.int IntKind.i64 asess)]))
                          (PT.nd
                            (some
                              (Ob.cells 29
                                [V.lit (Value.int IntKind.u32 baddr), V.lit (Value.int IntKind.i64 bbits), V.lit (Value.int IntKind.u32 bhop), V.lit (Value.int IntKind.i64 bpref),
                                  V.lit (Value.int IntKind.i64 bmetric), V.xs bb1 bo1 0 1 bn1 bc1 bf1, V.xs bb2 bo2 0 1 bn2 bc2 bf2, V.lit (Value.int IntKind.u32 bpeer),
                                  V.lit (Value.int IntKind.u32 bpid), V.lit (Value.bool bext), V.lit (Value.int IntKind.u32 borig), V.xs bb3 bo3 0 1 bn3 bc3 bf3, V.lit (Value.int IntKind.i64 bsess)]))
                            PT.nil PT.nil)
                          (PT.nd
                            (some
                              (Ob.cells 29
                                [V.lit (Value.int IntKind.u32 caddr), V.lit (Value.int IntKind.i64 cbits), V.lit (Value.int IntKind.u32 chop), V.lit (Value.int IntKind.i64 cpref),
                                  V.lit (Value.int IntKind.i64 cmetric), V.xs cb1 co1 0 1 cn1 cc1 cf1, V.xs cb2 co2 0 1 cn2 cc2 cf2, V.lit (Value.int IntKind.u32 cpeer),
                                  V.lit (Value.int IntKind.u32 cpid), V.lit (Value.bool cext), V.lit (Value.int IntKind.u32 corig), V.xs cb3 co3 0 1 cn3 cc3 cf3, V.lit (Value.int IntKind.i64 csess)]))
                            PT.nil PT.nil))))
                    (K H (V.lit (Value.bool true)) 3
                      (PT.nd
                        (some
                          (Ob.cells 29
                            [V.lit (Value.int IntKind.u32 aaddr), V.lit (Value.int IntKind.i64 abits), V.lit (Value.int IntKind.u32 ahop), V.lit (Value.int IntKind.i64 apref),
                              V.lit (Value.int IntKind.i64 ametric), V.xs ab1 ao1 0 1 an1 ac1 af1, V.xs ab2 ao2 0 1 an2 ac2 af2, V.lit (Value.int IntKind.u32 apeer), V.lit (Value.int IntKind.u32 apid),
                              V.lit (Value.bool aext), V.lit (Value.int IntKind.u32 aorig), V.xs ab3 ao3 0 1 an3 ac3 af3, V.lit (Value.int IntKind.i64 asess)]))
                        (PT.nd
                          (some
                            (Ob.cells 29
                              [V.lit (Value.int IntKind.u32 baddr), V.lit (Value.int IntKind.i64 bbits), V.lit (Value.int IntKind.u32 bhop), V.lit (Value.int IntKind.i64 bpref),
                                V.lit (Value.int IntKind.i64 bmetric), V.xs bb1 bo1 0 1 bn1 bc1 bf1, V.xs bb2 bo2 0 1 bn2 bc2 bf2, V.lit (Value.int IntKind.u32 bpeer),
                                V.lit (Value.int IntKind.u32 bpid), V.lit (Value.bool bext), V.lit (Value.int IntKind.u32 borig), V.xs bb3 bo3 0 1 bn3 bc3 bf3, V.lit (Value.int IntKind.i64 bsess)]))
                          PT.nil PT.nil)
                        (PT.nd
                          (some
                            (Ob.cells 29
                              [V.lit (Value.int IntKind.u32 caddr), V.lit (Value.int IntKind.i64 cbits), V.lit (Value.int IntKind.u32 chop), V.lit (Value.int IntKind.i64 cpref),
                                V.lit (Value.int IntKind.i64 cmetric), V.xs cb1 co1 0 1 cn1 cc1 cf1, V.xs cb2 co2 0 1 cn2 cc2 cf2, V.lit (Value.int IntKind.u32 cpeer),
                                V.lit (Value.int IntKind.u32 cpid), V.lit (Value.bool cext), V.lit (Value.int IntKind.u32 corig), V.xs cb3 co3 0 1 cn3 cc3 cf3, V.lit (Value.int IntKind.i64 csess)]))
                          PT.nil PT.nil))))
                  (K H (V.lit (Value.bool true)) 3
                    (PT.nd
                      (some
                        (Ob.cells 29
                          [V.lit (Value.int IntKind.u32 aaddr), V.lit (Value.int IntKind.i64 abits), V.lit (Value.int IntKind.u32 ahop), V.lit (Value.int IntKind.i64 apref),
                            V.lit (Value.int IntKind.i64 ametric), V.xs ab1 ao1 0 1 an1 ac1 af1, V.xs ab2 ao2 0 1 an2 ac2 af2, V.lit (Value.int IntKind.u32 apeer), V.lit (Value.int IntKind.u32 apid),
                            V.lit (Value.bool aext), V.lit (Value.int IntKind.u32 aorig), V.xs ab3 ao3 0 1 an3 ac3 af3, V.lit (Value.int IntKind.i64 asess)]))
                      (PT.nd
                        (some
                          (Ob.cells 29
                            [V.lit (Value.int IntKind.u32 baddr), V.lit (Value.int IntKind.i64 bbits), V.lit (Value.int IntKind.u32 bhop), V.lit (Value.int IntKind.i64 bpref),
                              V.lit (Value.int IntKind.i64 bmetric), V.xs bb1 bo1 0 1 bn1 bc1 bf1, V.xs bb2 bo2 0 1 bn2 bc2 bf2, V.lit (Value.int IntKind.u32 bpeer), V.lit (Value.int IntKind.u32 bpid),
                              V.lit (Value.bool bext), V.lit (Value.int IntKind.u32 borig), V.xs bb3 bo3 0 1 bn3 bc3 bf3, V.lit (Value.int IntKind.i64 bsess)]))
                        PT.nil PT.nil)
                      (PT.nd
                        (some
                          (Ob.cells 29
                            [V.lit (Value.int IntKind.u32 caddr), V.lit (Value.int IntKind.i64 cbits), V.lit (Value.int IntKind.u32 chop), V.lit (Value.int IntKind.i64 cpref),
                              V.lit (Value.int IntKind.i64 cmetric), V.xs cb1 co1 0 1 cn1 cc1 cf1, V.xs cb2 co2 0 1 cn2 cc2 cf2, V.lit (Value.int IntKind.u32 cpeer), V.lit (Value.int IntKind.u32 cpid),
                              V.lit (Value.bool cext), V.lit (Value.int IntKind.u32 corig), V.xs cb3 co3 0 1 cn3 cc3 cf3, V.lit (Value.int IntKind.i64 csess)]))
                        PT.nil PT.nil))))
                (K H (V.lit (Value.bool true)) 3
                  (PT.nd
                    (some
                      (Ob.cells 29
                        [V.lit (Value.int IntKind.u32 aaddr), V.lit (Value.int IntKind.i64 abits), V.lit (Value.int IntKind.u32 ahop), V.lit (Value.int IntKind.i64 apref),
                          V.lit (Value.int IntKind.i64 ametric), V.xs ab1 ao1 0 1 an1 ac1 af1, V.xs ab2 ao2 0 1 an2 ac2 af2, V.lit (Value.int IntKind.u32 apeer), V.lit (Value.int IntKind.u32 apid),
                          V.lit (Value.bool aext), V.lit (Value.int IntKind.u32 aorig), V.xs ab3 ao3 0 1 an3 ac3 af3, V.lit (Value.int IntKind.i64 asess)]))
                    (PT.nd
                      (some
                        (Ob.cells 29
                          [V.lit (Value.int IntKind.u32 baddr), V.lit (Value.int IntKind.i64 bbits), V.lit (Value.int IntKind.u32 bhop), V.lit (Value.int IntKind.i64 bpref),
                            V.lit (Value.int IntKind.i64 bmetric), V.xs bb1 bo1 0 1 bn1 bc1 bf1, V.xs bb2 bo2 0 1 bn2 bc2 bf2, V.lit (Value.int IntKind.u32 bpeer), V.lit (Value.int IntKind.u32 bpid),
                            V.lit (Value.bool bext), V.lit (Value.int IntKind.u32 borig), V.xs bb3 bo3 0 1 bn3 bc3 bf3, V.lit (Value.int IntKind.i64 bsess)]))
                      PT.nil PT.nil)
                    (PT.nd
                      (some
                        (Ob.cells 29
                          [V.lit (Value.int IntKind.u32 caddr), V.lit (Value.int IntKind.i64 cbits), V.lit (Value.int IntKind.u32 chop), V.lit (Value.int IntKind.i64 cpref),
                            V.lit (Value.int IntKind.i64 cmetric), V.xs cb1 co1 0 1 cn1 cc1 cf1, V.xs cb2 co2 0 1 cn2 cc2 cf2, V.lit (Value.int IntKind.u32 cpeer), V.lit (Value.int IntKind.u32 cpid),
                            V.lit (Value.bool cext), V.lit (Value.int IntKind.u32 corig), V.xs cb3 co3 0 1 cn3 cc3 cf3, V.lit (Value.int IntKind.i64 csess)]))
                      PT.nil PT.nil)))))
            (bifP
              (!decide
                  (ordK { sess := asess, pref := apref, plen := Int.ofNat an1, metric := ametric, ext := aext, ident := orA aorig apid, clen := Int.ofNat an3, peer := apeer }
                      { sess := bsess, pref := bpref, plen := Int.ofNat bn1, metric := bmetric, ext := bext, ident := orA borig bpid, clen := Int.ofNat bn3, peer := bpeer } x y <
                    0))
              (bifP
                (!decide
                    (ordK { sess := bsess, pref := bpref, plen := Int.ofNat bn1, metric := bmetric, ext := bext, ident := orA borig bpid, clen := Int.ofNat bn3, peer := bpeer }
                        { sess := asess, pref := apref, plen := Int.ofNat an1, metric := ametric, ext := aext, ident := orA aorig apid, clen := Int.ofNat an3, peer := apeer } y x <
                      0))
                (bifP (asess != -1)
                  (bifP (bsess == asess)
                    (bifP (apref == bpref)
                      (bifP (Int.ofNat an1 == Int.ofNat bn1)
                        (bifP (ametric == bmetric)
                          (bifP (aext == bext)
                            (bifP (x == y)
                              (bifP (Int.ofNat an3 == Int.ofNat bn3)
                                (K H (V.lit (Value.bool (apeer == bpeer))) 3
                                  (PT.nd
                                    (some
                                      (Ob.cells 29
                                        [V.lit (Value.int IntKind.u32 aaddr), V.lit (Value.int IntKind.i64 abits), V.lit (Value.int IntKind.u32 ahop), V.lit (Value.int IntKind.i64 apref),
                                          V.lit (Value.int IntKind.i64 ametric), V.xs ab1 ao1 0 1 an1 ac1 af1, V.xs ab2 ao2 0 1 an2 ac2 af2, V.lit (Value.int IntKind.u32 apeer),
                                          V.lit (Value.int IntKind.u32 apid), V.lit (Value.bool aext), V.lit (Value.int IntKind.u32 aorig), V.xs ab3 ao3 0 1 an3 ac3 af3,
                                          V.lit (Value.int IntKind.i64 asess)]))
                                    (PT.nd
                                      (some
                                        (Ob.cells 29
                                          [V.lit (Value.int IntKind.u32 baddr), V.lit (Value.int IntKind.i64 bbits), V.lit (Value.int IntKind.u32 bhop), V.lit (Value.int IntKind.i64 bpref),
                                            V.lit (Value.int IntKind.i64 bmetric), V.xs bb1 bo1 0 1 bn1 bc1 bf1, V.xs bb2 bo2 0 1 bn2 bc2 bf2, V.lit (Value.int IntKind.u32 bpeer),
                                            V.lit (Value.int IntKind.u32 bpid), V.lit (Value.bool bext), V.lit (Value.int IntKind.u32 borig), V.xs bb3 bo3 0 1 bn3 bc3 bf3,
                                            V.lit (Value.int IntKind.i64 bsess)]))
                                      PT.nil PT.nil)
                                    (PT.nd
                                      (some
                                        (Ob.cells 29
                                          [V.lit (Value.int IntKind.u32 caddr), V.lit (Value.int IntKind.i64 cbits), V.lit (Value.int IntKind.u32 chop), V.lit (Value.int IntKind.i64 cpref),
                                            V.lit (Value.int IntKind.i64 cmetric), V.xs cb1 co1 0 1 cn1 cc1 cf1, V.xs cb2 co2 0 1 cn2 cc2 cf2, V.lit (Value.int IntKind.u32 cpeer),
                                            V.lit (Value.int IntKind.u32 cpid), V.lit (Value.bool cext), V.lit (Value.int IntKind.u32 corig), V.xs cb3 co3 0 1 cn3 cc3 cf3,
                                            V.lit (Value.int IntKind.i64 csess)]))
                                      PT.nil PT.nil)))
                                (K H (V.lit (Value.bool false)) 3
                                  (PT.nd
                                    (some
                                      (Ob.cells 29
                                        [V.lit (Value.int IntKind.u32 aaddr), V.lit (Value.int IntKind.i64 abits), V.lit (Value.int IntKind.u32 ahop), V.lit (Value.int IntKind.i64 apref),
                                          V.lit (Value.int IntKind.i64 ametric), V.xs ab1 ao1 0 1 an1 ac1 af1, V.xs ab2 ao2 0 1 an2 ac2 af2, V.lit (Value.int IntKind.u32 apeer),
                                          V.lit (Value.int IntKind.u32 apid), V.lit (Value.bool aext), V.lit (Value.int IntKind.u32 aorig), V.xs ab3 ao3 0 1 an3 ac3 af3,
                                          V.lit (Value.int IntKind.i64 asess)]))
                                    (PT.nd
                                      (some
                                        (Ob.cells 29
                                          [V.lit (Value.int IntKind.u32 baddr), V.lit (Value.int IntKind.i64 bbits), V.lit (Value.int IntKind.u32 bhop), V.lit (Value.int IntKind.i64 bpref),
                                            V.lit (Value.int IntKind.i64 bmetric), V.xs bb1 bo1 0 1 bn1 bc1 bf1, V.xs bb2 bo2 0 1 bn2 bc2 bf2, V.lit (Value.int IntKind.u32 bpeer),
                                            V.lit (Value.int IntKind.u32 bpid), V.lit (Value.bool bext), V.lit (Value.int IntKind.u32 borig), V.xs bb3 bo3 0 1 bn3 bc3 bf3,
                                            V.lit (Value.int IntKind.i64 bsess)]))
                                      PT.nil PT.nil)
                                    (PT.nd
                                      (some
                                        (Ob.cells 29
                                          [V.lit (Value.int IntKind.u32 caddr), V.lit (Value.int IntKind.i64 cbits), V.lit (Value.int IntKind.u32 chop), V.lit (Value.int IntKind.i64 cpref),
                                            V.lit (Value.int IntKind.i64 cmetric), V.xs cb1 co1 0 1 cn1 cc1 cf1, V.xs cb2 co2 0 1 cn2 cc2 cf2, V.lit (Value.int IntKind.u32 cpeer),
                                            V.lit (Value.int IntKind.u32 cpid), V.lit (Value.bool cext), V.lit (Value.int IntKind.u32 corig), V.xs cb3 co3 0 1 cn3 cc3 cf3,
                                            V.lit (Value.int IntKind.i64 csess)]))
                                      PT.nil PT.nil))))
                              (K H (V.lit (Value.bool false)) 3
                                (PT.nd
                                  (some
                                    (Ob.cells 29
                                      [V.lit (Value.int IntKind.u32 aaddr), V.lit (Value.int IntKind.i64 abits), V.lit (Value.int IntKind.u32 ahop), V.lit (Value.int IntKind.i64 apref),
                                        V.lit (Value.int IntKind.i64 ametric), V.xs ab1 ao1 0 1 an1 ac1 af1, V.xs ab2 ao2 0 1 an2 ac2 af2, V.lit (Value.int IntKind.u32 apeer),
                                        V.lit (Value.int IntKind.u32 apid), V.lit (Value.bool aext), V.lit (Value.int IntKind.u32 aorig), V.xs ab3 ao3 0 1 an3 ac3 af3,
                                        V.lit (Value.int IntKind.i64 asess)]))
                                  (PT.nd
                                    (some
                                      (Ob.cells 29
                                        [V.lit (Value.int IntKind.u32 baddr), V.lit (Value.int IntKind.i64 bbits), V.lit (Value.int IntKind.u32 bhop), V.lit (Value.int IntKind.i64 bpref),
                                          V.lit (Value.int IntKind.i64 bmetric), V.xs bb1 bo1 0 1 bn1 bc1 bf1, V.xs bb2 bo2 0 1 bn2 bc2 bf2, V.lit (Value.int IntKind.u32 bpeer),
                                          V.lit (Value.int IntKind.u32 bpid), V.lit (Value.bool bext), V.lit (Value.int IntKind.u32 borig), V.xs bb3 bo3 0 1 bn3 bc3 bf3,
                                          V.lit (Value.int IntKind.i64 bsess)]))
                                    PT.nil PT.nil)
                                  (PT.nd
                                    (some
                                      (Ob.cells 29
                                        [V.lit (Value.int IntKind.u32 caddr), V.lit (Value.int IntKind.i64 cbits), V.lit (Value.int IntKind.u32 chop), V.lit (Value.int IntKind.i64 cpref),
                                          V.lit (Value.int IntKind.i64 cmetric), V.xs cb1 co1 0 1 cn1 cc1 cf1, V.xs cb2 co2 0 1 cn2 cc2 cf2, V.lit (Value.int IntKind.u32 cpeer),
                                          V.lit (Value.int IntKind.u32 cpid), V.lit (Value.bool cext), V.lit (Value.int IntKind.u32 corig), V.xs cb3 co3 0 1 cn3 cc3 cf3,
                                          V.lit (Value.int IntKind.i64 csess)]))
                                    PT.nil PT.nil))))
                            (K H (V.lit (Value.bool false)) 3
                              (PT.nd
                                (some
                                  (Ob.cells 29
                                    [V.lit (Value.int IntKind.u32 aaddr), V.lit (Value.int IntKind.i64 abits), V.lit (Value.int IntKind.u32 ahop), V.lit (Value.int IntKind.i64 apref),
                                      V.lit (Value.int IntKind.i64 ametric), V.xs ab1 ao1 0 1 an1 ac1 af1, V.xs ab2 ao2 0 1 an2 ac2 af2, V.lit (Value.int IntKind.u32 apeer),
                                      V.lit (Value.int IntKind.u32 apid), V.lit (Value.bool aext), V.lit (Value.int IntKind.u32 aorig), V.xs ab3 ao3 0 1 an3 ac3 af3,
                                      V.lit (Value.int IntKind.i64 asess)]))
                                (PT.nd
                                  (some
                                    (Ob.cells 29
                                      [V.lit (Value.int IntKind.u32 baddr), V.lit (Value.int IntKind.i64 bbits), V.lit (Value.int IntKind.u32 bhop), V.lit (Value.int IntKind.i64 bpref),
                                        V.lit (Value.int IntKind.i64 bmetric), V.xs bb1 bo1 0 1 bn1 bc1 bf1, V.xs bb2 bo2 0 1 bn2 bc2 bf2, V.lit (Value.int IntKind.u32 bpeer),
                                        V.lit (Value.int IntKind.u32 bpid), V.lit (Value.bool bext), V.lit (Value.int IntKind.u32 borig), V.xs bb3 bo3 0 1 bn3 bc3 bf3,
                                        V.lit (Value.int IntKind.i64 bsess)]))
                                  PT.nil PT.nil)
                                (PT.nd
                                  (some
                                    (Ob.cells 29
                                      [V.lit (Value.int IntKind.u32 caddr), V.lit (Value.int IntKind.i64 cbits), V.lit (Value.int IntKind.u32 chop), V.lit (Value.int IntKind.i64 cpref),
                                        V.lit (Value.int IntKind.i64 cmetric), V.xs cb1 co1 0 1 cn1 cc1 cf1, V.xs cb2 co2 0 1 cn2 cc2 cf2, V.lit (Value.int IntKind.u32 cpeer),
                                        V.lit (Value.int IntKind.u32 cpid), V.lit (Value.bool cext), V.lit (Value.int IntKind.u32 corig), V.xs cb3 co3 0 1 cn3 cc3 cf3,
                                        V.lit (Value.int IntKind.i64 csess)]))
                                  PT.nil PT.nil))))
                          (K H (V.lit (Value.bool false)) 3
                            (PT.nd
                              (some
                                (Ob.cells 29
                                  [V.lit (Value.int IntKind.u32 aaddr), V.lit (Value.int IntKind.i64 abits), V.lit (Value.int IntKind.u32 ahop), V.lit (Value.int IntKind.i64 apref),
                                    V.lit (Value.int IntKind.i64 ametric), V.xs ab1 ao1 0 1 an1 ac1 af1, V.xs ab2 ao2 0 1 an2 ac2 af2, V.lit (Value.int IntKind.u32 apeer),
                                    V.lit (Value.int IntKind.u32 apid), V.lit (Value.bool aext), V.lit (Value.int IntKind.u32 aorig), V.xs ab3 ao3 0 1 an3 ac3 af3, V.lit (Value.int IntKind.i64 asess)]))
                              (PT.nd
                                (some
                                  (Ob.cells 29
                                    [V.lit (Value.int IntKind.u32 baddr), V.lit (Value.int IntKind.i64 bbits), V.lit (Value.int IntKind.u32 bhop), V.lit (Value.int IntKind.i64 bpref),
                                      V.lit (Value.int IntKind.i64 bmetric), V.xs bb1 bo1 0 1 bn1 bc1 bf1, V.xs bb2 bo2 0 1 bn2 bc2 bf2, V.lit (Value.int IntKind.u32 bpeer),
                                      V.lit (Value.int IntKind.u32 bpid), V.lit (Value.bool bext), V.lit (Value.int IntKind.u32 borig), V.xs bb3 bo3 0 1 bn3 bc3 bf3,
                                      V.lit (Value.int IntKind.i64 bsess)]))
                                PT.nil PT.nil)
                              (PT.nd
                                (some
                                  (Ob.cells 29
                                    [V.lit (Value.int IntKind.u32 caddr), V.lit (Value.int IntKind.i64 cbits), V.lit (Value.int IntKind.u32 chop), V.lit (Value.int IntKind.i64 cpref),
                                      V.lit (Value.int IntKind.i64 cmetric), V.xs cb1 co1 0 1 cn1 cc1 cf1, V.xs cb2 co2 0 1 cn2 cc2 cf2, V.lit (Value.int IntKind.u32 cpeer),
                                      V.lit (Value.int IntKind.u32 cpid), V.lit (Value.bool cext), V.lit (Value.int IntKind.u32 corig), V.xs cb3 co3 0 1 cn3 cc3 cf3,
                                      V.lit (Value.int IntKind.i64 csess)]))
                                PT.nil PT.nil))))
                        (K H (V.lit (Value.bool false)) 3
                          (PT.nd
                            (some
                              (Ob.cells 29
                                [V.lit (Value.int IntKind.u32 aaddr), V.lit (Value.int IntKind.i64 abits), V.lit (Value.int IntKind.u32 ahop), V.lit (Value.int IntKind.i64 apref),
                                  V.lit (Value.int IntKind.i64 ametric), V.xs ab1 ao1 0 1 an1 ac1 af1, V.xs ab2 ao2 0 1 an2 ac2 af2, V.lit (Value.int IntKind.u32 apeer),
                                  V.lit (Value.int IntKind.u32 apid), V.lit (Value.bool aext), V.lit (Value.int IntKind.u32 aorig), V.xs ab3 ao3 0 1 an3 ac3 af3, V.lit (Value.int IntKind.i64 asess)]))
                            (PT.nd
                              (some
                                (Ob.cells 29
                                  [V.lit (Value.int IntKind.u32 baddr), V.lit (Value.int IntKind.i64 bbits), V.lit (Value.int IntKind.u32 bhop), V.lit (Value.int IntKind.i64 bpref),
                                    V.lit (Value.int IntKind.i64 bmetric), V.xs bb1 bo1 0 1 bn1 bc1 bf1, V.xs bb2 bo2 0 1 bn2 bc2 bf2, V.lit (Value.int IntKind.u32 bpeer),
                                    V.lit (Value.int IntKind.u32 bpid), V.lit (Value.bool bext), V.lit (Value.int IntKind.u32 borig), V.xs bb3 bo3 0 1 bn3 bc3 bf3, V.lit (Value.int IntKind.i64 bsess)]))
                              PT.nil PT.nil)
                            (PT.nd
                              (some
                                (Ob.cells 29
                                  [V.lit (Value.int IntKind.u32 caddr), V.lit (Value.int IntKind.i64 cbits), V.lit (Value.int IntKind.u32 chop), V.lit (Value.int IntKind.i64 cpref),
                                    V.lit (Value.int IntKind.i64 cmetric), V.xs cb1 co1 0 1 cn1 cc1 cf1, V.xs cb2 co2 0 1 cn2 cc2 cf2, V.lit (Value.int IntKind.u32 cpeer),
                                    V.lit (Value.int IntKind.u32 cpid), V.lit (Value.bool cext), V.lit (Value.int IntKind.u32 corig), V.xs cb3 co3 0 1 cn3 cc3 cf3, V.lit (Value.int IntKind.i64 csess)]))
                              PT.nil PT.nil))))
                      (K H (V.lit (Value.bool false)) 3
                        (PT.nd
                          (some
                            (Ob.cells 29
                              [V.lit (Value.int IntKind.u32 aaddr), V.lit (Value.int IntKind.i64 abits), V.lit (Value.int IntKind.u32 ahop), V.lit (Value.int IntKind.i64 apref),
                                V.lit (Value.int IntKind.i64 ametric), V.xs ab1 ao1 0 1 an1 ac1 af1, V.xs ab2 ao2 0 1 an2 ac2 af2, V.lit (Value.int IntKind.u32 apeer),
                                V.lit (Value.int IntKind.u32 apid), V.lit (Value.bool aext), V.lit (Value.int IntKind.u32 aorig), V.xs ab3 ao3 0 1 an3 ac3 af3, V.lit (Value.int IntKind.i64 asess)]))
                          (PT.nd
                            (some
                              (Ob.cells 29
                                [V.lit (Value.int IntKind.u32 baddr), V.lit (Value.int IntKind.i64 bbits), V.lit (Value.int IntKind.u32 bhop), V.lit (Value.int IntKind.i64 bpref),
                                  V.lit (Value.int IntKind.i64 bmetric), V.xs bb1 bo1 0 1 bn1 bc1 bf1, V.xs bb2 bo2 0 1 bn2 bc2 bf2, V.lit (Value.int IntKind.u32 bpeer),
                                  V.lit (Value.int IntKind.u32 bpid), V.lit (Value.bool bext), V.lit (Value.int IntKind.u32 borig), V.xs bb3 bo3 0 1 bn3 bc3 bf3, V.lit (Value.int IntKind.i64 bsess)]))
                            PT.nil PT.nil)
                          (PT.nd
                            (some
                              (Ob.cells 29
                                [V.lit (Value.int IntKind.u32 caddr), V.lit (Value.int IntKind.i64 cbits), V.lit (Value.int IntKind.u32 chop), V.lit (Value.int IntKind.i64 cpref),
                                  V.lit (Value.int IntKind.i64 cmetric), V.xs cb1 co1 0 1 cn1 cc1 cf1, V.xs cb2 co2 0 1 cn2 cc2 cf2, V.lit (Value.int IntKind.u32 cpeer),
                                  V.lit (Value.int IntKind.u32 cpid), V.lit (Value.bool cext), V.lit (Value.int IntKind.u32 corig), V.xs cb3 co3 0 1 cn3 cc3 cf3, V.lit (Value.int IntKind.i64 csess)]))
                            PT.nil PT.nil))))
                    (K H (V.lit (Value.bool false)) 3
                      (PT.nd
                        (some
                          (Ob.cells 29
                            [V.lit (Value.int IntKind.u32 aaddr), V.lit (Value.int IntKind.i64 abits), V.lit (Value.int IntKind.u32 ahop), V.lit (Value.int IntKind.i64 apref),
                              V.lit (Value.int IntKind.i64 ametric), V.xs ab1 ao1 0 1 an1 ac1 af1, V.xs ab2 ao2 0 1 an2 ac2 af2, V.lit (Value.int IntKind.u32 apeer), V.lit (Value.int IntKind.u32 apid),
                              V.lit (Value.bool aext), V.lit (Value.int IntKind.u32 aorig), V.xs ab3 ao3 0 1 an3 ac3 af3, V.lit (Value.int IntKind.i64 asess)]))
                        (PT.nd
                          (some
                            (Ob.cells 29
                              [V.lit (Value.int IntKind.u32 baddr), V.lit (Value.int IntKind.i64 bbits), V.lit (Value.int IntKind.u32 bhop), V.lit (Value.int IntKind.i64 bpref),
                                V.lit (Value.int IntKind.i64 bmetric), V.xs bb1 bo1 0 1 bn1 bc1 bf1, V.xs bb2 bo2 0 1 bn2 bc2 bf2, V.lit (Value.int IntKind.u32 bpeer),
                                V.lit (Value.int IntKind.u32 bpid), V.lit (Value.bool bext), V.lit (Value.int IntKind.u32 borig), V.xs bb3 bo3 0 1 bn3 bc3 bf3, V.lit (Value.int IntKind.i64 bsess)]))
                          PT.nil PT.nil)
                        (PT.nd
                          (some
                            (Ob.cells 29
                              [V.lit (Value.int IntKind.u32 caddr), V.lit (Value.int IntKind.i64 cbits), V.lit (Value.int IntKind.u32 chop), V.lit (Value.int IntKind.i64 cpref),
                                V.lit (Value.int IntKind.i64 cmetric), V.xs cb1 co1 0 1 cn1 cc1 cf1, V.xs cb2 co2 0 1 cn2 cc2 cf2, V.lit (Value.int IntKind.u32 cpeer),
                                V.lit (Value.int IntKind.u32 cpid), V.lit (Value.bool cext), V.lit (Value.int IntKind.u32 corig), V.xs cb3 co3 0 1 cn3 cc3 cf3, V.lit (Value.int IntKind.i64 csess)]))
                          PT.nil PT.nil))))
                  (K H (V.lit (Value.bool true)) 3
                    (PT.nd
                      (some
                        (Ob.cells 29
                          [V.lit (Value.int IntKind.u32 aaddr), V.lit (Value.int IntKind.i64 abits), V.lit (Value.int IntKind.u32 ahop), V.lit (Value.int IntKind.i64 apref),
                            V.lit (Value.int IntKind.i64 ametric), V.xs ab1 ao1 0 1 an1 ac1 af1, V.xs ab2 ao2 0 1 an2 ac2 af2, V.lit (Value.int IntKind.u32 apeer), V.lit (Value.int IntKind.u32 apid),
                            V.lit (Value.bool aext), V.lit (Value.int IntKind.u32 aorig), V.xs ab3 ao3 0 1 an3 ac3 af3, V.lit (Value.int IntKind.i64 asess)]))
                      (PT.nd
                        (some
                          (Ob.cells 29
                            [V.lit (Value.int IntKind.u32 baddr), V.lit (Value.int IntKind.i64 bbits), V.lit (Value.int IntKind.u32 bhop), V.lit (Value.int IntKind.i64 bpref),
                              V.lit (Value.int IntKind.i64 bmetric), V.xs bb1 bo1 0 1 bn1 bc1 bf1, V.xs bb2 bo2 0 1 bn2 bc2 bf2, V.lit (Value.int IntKind.u32 bpeer), V.lit (Value.int IntKind.u32 bpid),
                              V.lit (Value.bool bext), V.lit (Value.int IntKind.u32 borig), V.xs bb3 bo3 0 1 bn3 bc3 bf3, V.lit (Value.int IntKind.i64 bsess)]))
                        PT.nil PT.nil)
                      (PT.nd
                        (some
                          (Ob.cells 29
                            [V.lit (Value.int IntKind.u32 caddr), V.lit (Value.int IntKind.i64 cbits), V.lit (Value.int IntKind.u32 chop), V.lit (Value.int IntKind.i64 cpref),
                              V.lit (Value.int IntKind.i64 cmetric), V.xs cb1 co1 0 1 cn1 cc1 cf1, V.xs cb2 co2 0 1 cn2 cc2 cf2, V.lit (Value.int IntKind.u32 cpeer), V.lit (Value.int IntKind.u32 cpid),
                              V.lit (Value.bool cext), V.lit (Value.int IntKind.u32 corig), V.xs cb3 co3 0 1 cn3 cc3 cf3, V.lit (Value.int IntKind.i64 csess)]))
                        PT.nil PT.nil))))
                (K H (V.lit (Value.bool true)) 3
                  (PT.nd
                    (some
                      (Ob.cells 29
                        [V.lit (Value.int IntKind.u32 aaddr), V.lit (Value.int IntKind.i64 abits), V.lit (Value.int IntKind.u32 ahop), V.lit (Value.int IntKind.i64 apref),
                          V.lit (Value.int IntKind.i64 ametric), V.xs ab1 ao1 0 1 an1 ac1 af1, V.xs ab2 ao2 0 1 an2 ac2 af2, V.lit (Value.int IntKind.u32 apeer), V.lit (Value.int IntKind.u32 apid),
                          V.lit (Value.bool aext), V.lit (Value.int IntKind.u32 aorig), V.xs ab3 ao3 0 1 an3 ac3 af3, V.lit (Value.int IntKind.i64 asess)]))
                    (PT.nd
                      (some
                        (Ob.cells 29
                          [V.lit (Value.int IntKind.u32 baddr), V.lit (Value.int IntKind.i64 bbits), V.lit (Value.int IntKind.u32 bhop), V.lit (Value.int IntKind.i64 bpref),
                            V.lit (Value.int IntKind.i64 bmetric), V.xs bb1 bo1 0 1 bn1 bc1 bf1, V.xs bb2 bo2 0 1 bn2 bc2 bf2, V.lit (Value.int IntKind.u32 bpeer), V.lit (Value.int IntKind.u32 bpid),
                            V.lit (Value.bool bext), V.lit (Value.int IntKind.u32 borig), V.xs bb3 bo3 0 1 bn3 bc3 bf3, V.lit (Value.int IntKind.i64 bsess)]))
                      PT.nil PT.nil)
                    (PT.nd
                      (some
                        (Ob.cells 29
                          [V.lit (Value.int IntKind.u32 caddr), V.lit (Value.int IntKind.i64 cbits), V.lit (Value.int IntKind.u32 chop), V.lit (Value.int IntKind.i64 cpref),
                            V.lit (Value.int IntKind.i64 cmetric), V.xs cb1 co1 0 1 cn1 cc1 cf1, V.xs cb2 co2 0 1 cn2 cc2 cf2, V.lit (Value.int IntKind.u32 cpeer), V.lit (Value.int IntKind.u32 cpid),
                            V.lit (Value.bool cext), V.lit (Value.int IntKind.u32 corig), V.xs cb3 co3 0 1 cn3 cc3 cf3, V.lit (Value.int IntKind.i64 csess)]))
                      PT.nil PT.nil))))
              (K H (V.lit (Value.bool true)) 3
                (PT.nd
                  (some
                    (Ob.cells 29
                      [V.lit (Value.int IntKind.u32 aaddr), V.lit (Value.int IntKind.i64 abits), V.lit (Value.int IntKind.u32 ahop), V.lit (Value.int IntKind.i64 apref),
                        V.lit (Value.int IntKind.i64 ametric), V.xs ab1 ao1 0 1 an1 ac1 af1, V.xs ab2 ao2 0 1 an2 ac2 af2, V.lit (Value.int IntKind.u32 apeer), V.lit (Value.int IntKind.u32 apid),
                        V.lit (Value.bool aext), V.lit (Value.int IntKind.u32 aorig), V.xs ab3 ao3 0 1 an3 ac3 af3, V.lit (Value.int IntKind.i64 asess)]))
                  (PT.nd
                    (some
                      (Ob.cells 29
                        [V.lit (Value.int IntKind.u32 baddr), V.lit (Value.int IntKind.i64 bbits), V.lit (Value.int IntKind.u32 bhop), V.lit (Value.int IntKind.i64 bpref),
                          V.lit (Value.int IntKind.i64 bmetric), V.xs bb1 bo1 0 1 bn1 bc1 bf1, V.xs bb2 bo2 0 1 bn2 bc2 bf2, V.lit (Value.int IntKind.u32 bpeer), V.lit (Value.int IntKind.u32 bpid),
                          V.lit (Value.bool bext), V.lit (Value.int IntKind.u32 borig), V.xs bb3 bo3 0 1 bn3 bc3 bf3, V.lit (Value.int IntKind.i64 bsess)]))
                    PT.nil PT.nil)
                  (PT.nd
                    (some
                      (Ob.cells 29
                        [V.lit (Value.int IntKind.u32 caddr), V.lit (Value.int IntKind.i64 cbits), V.lit (Value.int IntKind.u32 chop), V.lit (Value.int IntKind.i64 cpref),
                          V.lit (Value.int IntKind.i64 cmetric), V.xs cb1 co1 0 1 cn1 cc1 cf1, V.xs cb2 co2 0 1 cn2 cc2 cf2, V.lit (Value.int IntKind.u32 cpeer), V.lit (Value.int IntKind.u32 cpid),
                          V.lit (Value.bool cext), V.lit (Value.int IntKind.u32 corig), V.xs cb3 co3 0 1 cn3 cc3 cf3, V.lit (Value.int IntKind.i64 csess)]))
                    PT.nil PT.nil)))))
          (bifP
            (!decide
                (ordK { sess := asess, pref := apref, plen := Int.ofNat an1, metric := ametric, ext := aext, ident := orA aorig apid, clen := Int.ofNat an3, peer := apeer }
                    { sess := bsess, pref := bpref, plen := Int.ofNat bn1, metric := bmetric, ext := bext, ident := orA borig bpid, clen := Int.ofNat bn3, peer := bpeer } x y <
                  0))
            (bifP
              (!decide
                  (ordK { sess := bsess, pref := bpref, plen := Int.ofNat bn1, metric := bmetric, ext := bext, ident := orA borig bpid, clen := Int.ofNat bn3, peer := bpeer }
                      { sess := asess, pref := apref, plen := Int.ofNat an1, metric := ametric, ext := aext, ident := orA aorig apid, clen := Int.ofNat an3, peer := apeer } y x <
                    0))
              (bifP (asess != -1)
                (bifP (bsess == asess)
                  (bifP (apref == bpref)
                    (bifP (Int.ofNat an1 == Int.ofNat bn1)
                      (bifP (ametric == bmetric)
                        (bifP (aext == bext)
                          (bifP (x == y)
                            (bifP (Int.ofNat an3 == Int.ofNat bn3)
                              (K H (V.lit (Value.bool (apeer == bpeer))) 3
                                (PT.nd
                                  (some
                                    (Ob.cells 29
                                      [V.lit (Value.int IntKind.u32 aaddr), V.lit (Value.int IntKind.i64 abits), V.lit (Value.int IntKind.u32 ahop), V.lit (Value.int IntKind.i64 apref),
                                        V.lit (Value.int IntKind.i64 ametric), V.xs ab1 ao1 0 1 an1 ac1 af1, V.xs ab2 ao2 0 1 an2 ac2 af2, V.lit (Value.int IntKind.u32 apeer),
                                        V.lit (Value.int IntKind.u32 apid), V.lit (Value.bool aext), V.lit (Value.int IntKind.u32 aorig), V.xs ab3 ao3 0 1 an3 ac3 af3,
                                        V.lit (Value.int IntKind.i64 asess)]))
                                  (PT.nd
                                    (some
                                      (Ob.cells 29
                                        [V.lit (Value.int IntKind.u32 baddr), V.lit (Value.int IntKind.i64 bbits), V.lit (Value.int IntKind.u32 bhop), V.lit (Value.int IntKind.i64 bpref),
                                          V.lit (Value.int IntKind.i64 bmetric), V.xs bb1 bo1 0 1 bn1 bc1 bf1, V.xs bb2 bo2 0 1 bn2 bc2 bf2, V.lit (Value.int IntKind.u32 bpeer),
                                          V.lit (Value.int IntKind.u32 bpid), V.lit (Value.bool bext), V.lit (Value.int IntKind.u32 borig), V.xs bb3 bo3 0 1 bn3 bc3 bf3,
                                          V.lit (Value.int IntKind.i64 bsess)]))
                                    PT.nil PT.nil)
                                  (PT.nd
                                    (some
                                      (Ob.cells 29
                                        [V.lit (Value.int IntKind.u32 caddr), V.lit (Value.int IntKind.i64 cbits), V.lit (Value.int IntKind.u32 chop), V.lit (Value.int IntKind.i64 cpref),
                                          V.lit (Value.int IntKind.i64 cmetric), V.xs cb1 co1 0 1 cn1 cc1 cf1, V.xs cb2 co2 0 1 cn2 cc2 cf2, V.lit (Value.int IntKind.u32 cpeer),
                                          V.lit (Value.int IntKind.u32 cpid), V.lit (Value.bool cext), V.lit (Value.int IntKind.u32 corig), V.xs cb3 co3 0 1 cn3 cc3 cf3,
                                          V.lit (Value.int IntKind.i64 csess)]))
                                    PT.nil PT.nil)))
                              (K H (V.lit (Value.bool false)) 3
                                (PT.nd
                                  (some
                                    (Ob.cells 29
                                      [V.lit (Value.int IntKind.u32 aaddr), V.lit (Value.int IntKind.i64 abits), V.lit (Value.int IntKind.u32 ahop), V.lit (Value.int IntKind.i64 apref),
                                        V.lit (Value.int IntKind.i64 ametric), V.xs ab1 ao1 0 1 an1 ac1 af1, V.xs ab2 ao2 0 1 an2 ac2 af2, V.lit (Value.int IntKind.u32 apeer),
                                        V.lit (Value.int IntKind.u32 apid), V.lit (Value.bool aext), V.lit (Value.int IntKind.u32 aorig), V.xs ab3 ao3 0 1 an3 ac3 af3,
                                        V.lit (Value.int IntKind.i64 asess)]))
                                  (PT.nd
                                    (some
                                      (Ob.cells 29
                                        [V.lit (Value.int IntKind.u32 baddr), V.lit (Value.int IntKind.i64 bbits), V.lit (Value.int IntKind.u32 bhop), V.lit (Value.int IntKind.i64 bpref),
                                          V.lit (Value.int IntKind.i64 bmetric), V.xs bb1 bo1 0 1 bn1 bc1 bf1, V.xs bb2 bo2 0 1 bn2 bc2 bf2, V.lit (Value.int IntKind.u32 bpeer),
                                          V.lit (Value.int IntKind.u32 bpid), V.lit (Value.bool bext), V.lit (Value.int IntKind.u32 borig), V.xs bb3 bo3 0 1 bn3 bc3 bf3,
                                          V.lit (Value.int IntKind.i64 bsess)]))
                                    PT.nil PT.nil)
                                  (PT.nd
                                    (some
                                      (Ob.cells 29
                                        [V.lit (Value.int IntKind.u32 caddr), V.lit (Value.int IntKind.i64 cbits), V.lit (Value.int IntKind.u32 chop), V.lit (Value.int IntKind.i64 cpref),
                                          V.lit (Value.int IntKind.i64 cmetric), V.xs cb1 co1 0 1 cn1 cc1 cf1, V.xs cb2 co2 0 1 cn2 cc2 cf2, V.lit (Value.int IntKind.u32 cpeer),
                                          V.lit (Value.int IntKind.u32 cpid), V.lit (Value.bool cext), V.lit (Value.int IntKind.u32 corig), V.xs cb3 co3 0 1 cn3 cc3 cf3,
                                          V.lit (Value.int IntKind.i64 csess)]))
                                    PT.nil PT.nil))))
                            (K H (V.lit (Value.bool false)) 3
                              (PT.nd
                                (some
                                  (Ob.cells 29
                                    [V.lit (Value.int IntKind.u32 aaddr), V.lit (Value.int IntKind.i64 abits), V.lit (Value.int IntKind.u32 ahop), V.lit (Value.int IntKind.i64 apref),
                                      V.lit (Value.int IntKind.i64 ametric), V.xs ab1 ao1 0 1 an1 ac1 af1, V.xs ab2 ao2 0 1 an2 ac2 af2, V.lit (Value.int IntKind.u32 apeer),
                                      V.lit (Value.int IntKind.u32 apid), V.lit (Value.bool aext), V.lit (Value.int IntKind.u32 aorig), V.xs ab3 ao3 0 1 an3 ac3 af3,
                                      V.lit (Value.int IntKind.i64 asess)]))
                                (PT.nd
                                  (some
                                    (Ob.cells 29
                                      [V.lit (Value.int IntKind.u32 baddr), V.lit (Value.int IntKind.i64 bbits), V.lit (Value.int IntKind.u32 bhop), V.lit (Value.int IntKind.i64 bpref),
                                        V.lit (Value.int IntKind.i64 bmetric), V.xs bb1 bo1 0 1 bn1 bc1 bf1, V.xs bb2 bo2 0 1 bn2 bc2 bf2, V.lit (Value.int IntKind.u32 bpeer),
                                        V.lit (Value.int IntKind.u32 bpid), V.lit (Value.bool bext), V.lit (Value.int IntKind.u32 borig), V.xs bb3 bo3 0 1 bn3 bc3 bf3,
                                        V.lit (Value.int IntKind.i64 bsess)]))
                                  PT.nil PT.nil)
                                (PT.nd
                                  (some
                                    (Ob.cells 29
                                      [V.lit (Value.int IntKind.u32 caddr), V.lit (Value.int IntKind.i64 cbits), V.lit (Value.int IntKind.u32 chop), V.lit (Value.int IntKind.i64 cpref),
                                        V.lit (Value.int IntKind.i64 cmetric), V.xs cb1 co1 0 1 cn1 cc1 cf1, V.xs cb2 co2 0 1 cn2 cc2 cf2, V.lit (Value.int IntKind.u32 cpeer),
                                        V.lit (Value.int IntKind.u32 cpid), V.lit (Value.bool cext), V.lit (Value.int IntKind.u32 corig), V.xs cb3 co3 0 1 cn3 cc3 cf3,
                                        V.lit (Value.int IntKind.i64 csess)]))
                                  PT.nil PT.nil))))
                          (K H (V.lit (Value.bool false)) 3
                            (PT.nd
                              (some
                                (Ob.cells 29
                                  [V.lit (Value.int IntKind.u32 aaddr), V.lit (Value.int IntKind.i64 abits), V.lit (Value.int IntKind.u32 ahop), V.lit (Value.int IntKind.i64 apref),
                                    V.lit (Value.int IntKind.i64 ametric), V.xs ab1 ao1 0 1 an1 ac1 af1, V.xs ab2 ao2 0 1 an2 ac2 af2, V.lit (Value.int IntKind.u32 apeer),
                                    V.lit (Value.int IntKind.u32 apid), V.lit (Value.bool aext), V.lit (Value.int IntKind.u32 aorig), V.xs ab3 ao3 0 1 an3 ac3 af3, V.lit (Value.int IntKind.i64 asess)]))
                              (PT.nd
                                (some
                                  (Ob.cells 29
                                    [V.lit (Value.int IntKind.u32 baddr), V.lit (Value.int IntKind.i64 bbits), V.lit (Value.int IntKind.u32 bhop), V.lit (Value.int IntKind.i64 bpref),
                                      V.lit (Value.int IntKind.i64 bmetric), V.xs bb1 bo1 0 1 bn1 bc1 bf1, V.xs bb2 bo2 0 1 bn2 bc2 bf2, V.lit (Value.int IntKind.u32 bpeer),
                                      V.lit (Value.int IntKind.u32 bpid), V.lit (Value.bool bext), V.lit (Value.int IntKind.u32 borig), V.xs bb3 bo3 0 1 bn3 bc3 bf3,
                                      V.lit (Value.int IntKind.i64 bsess)]))
                                PT.nil PT.nil)
                              (PT.nd
                                (some
                                  (Ob.cells 29
                                    [V.lit (Value.int IntKind.u32 caddr), V.lit (Value.int IntKind.i64 cbits), V.lit (Value.int IntKind.u32 chop), V.lit (Value.int IntKind.i64 cpref),
                                      V.lit (Value.int IntKind.i64 cmetric), V.xs cb1 co1 0 1 cn1 cc1 cf1, V.xs cb2 co2 0 1 cn2 cc2 cf2, V.lit (Value.int IntKind.u32 cpeer),
                                      V.lit (Value.int IntKind.u32 cpid), V.lit (Value.bool cext), V.lit (Value.int IntKind.u32 corig), V.xs cb3 co3 0 1 cn3 cc3 cf3,
                                      V.lit (Value.int IntKind.i64 csess)]))
                                PT.nil PT.nil))))
                        (K H (V.lit (Value.bool false)) 3
                          (PT.nd
                            (some
                              (Ob.cells 29
                                [V.lit (Value.int IntKind.u32 aaddr), V.lit (Value.int IntKind.i64 abits), V.lit (Value.int IntKind.u32 ahop), V.lit (Value.int IntKind.i64 apref),
                                  V.lit (Value.int IntKind.i64 ametric), V.xs ab1 ao1 0 1 an1 ac1 af1, V.xs ab2 ao2 0 1 an2 ac2 af2, V.lit (Value.int IntKind.u32 apeer),
                                  V.lit (Value.int IntKind.u32 apid), V.lit (Value.bool aext), V.lit (Value.int IntKind.u32 aorig), V.xs ab3 ao3 0 1 an3 ac3 af3, V.lit (Value.int IntKind.i64 asess)]))
                            (PT.nd
                              (some
                                (Ob.cells 29
                                  [V.lit (Value.int IntKind.u32 baddr), V.lit (Value.int IntKind.i64 bbits), V.lit (Value.int IntKind.u32 bhop), V.lit (Value.int IntKind.i64 bpref),
                                    V.lit (Value.int IntKind.i64 bmetric), V.xs bb1 bo1 0 1 bn1 bc1 bf1, V.xs bb2 bo2 0 1 bn2 bc2 bf2, V.lit (Value.int IntKind.u32 bpeer),
                                    V.lit (Value.int IntKind.u32 bpid), V.lit (Value.bool bext), V.lit (Value.int IntKind.u32 borig), V.xs bb3 bo3 0 1 bn3 bc3 bf3, V.lit (Value.int IntKind.i64 bsess)]))
                              PT.nil PT.nil)
                            (PT.nd
                              (some
                                (Ob.cells 29
                                  [V.lit (Value.int IntKind.u32 caddr), V.lit (Value.int IntKind.i64 cbits), V.lit (Value.int IntKind.u32 chop), V.lit (Value.int IntKind.i64 cpref),
                                    V.lit (Value.int IntKind.i64 cmetric), V.xs cb1 co1 0 1 cn1 cc1 cf1, V.xs cb2 co2 0 1 cn2 cc2 cf2, V.lit (Value.int IntKind.u32 cpeer),
                                    V.lit (Value.int IntKind.u32 cpid), V.lit (Value.bool cext), V.lit (Value.int IntKind.u32 corig), V.xs cb3 co3 0 1 cn3 cc3 cf3, V.lit (Value.int IntKind.i64 csess)]))
                              PT.nil PT.nil))))
                      (K H (V.lit (Value.bool false)) 3
                        (PT.nd
                          (some
                            (Ob.cells 29
                              [V.lit (Value.int IntKind.u32 aaddr), V.lit (Value.int IntKind.i64 abits), V.lit (Value.int IntKind.u32 ahop), V.lit (Value.int IntKind.i64 apref),
                                V.lit (Value.int IntKind.i64 ametric), V.xs ab1 ao1 0 1 an1 ac1 af1, V.xs ab2 ao2 0 1 an2 ac2 af2, V.lit (Value.int IntKind.u32 apeer),
                                V.lit (Value.int IntKind.u32 apid), V.lit (Value.bool aext), V.lit (Value.int IntKind.u32 aorig), V.xs ab3 ao3 0 1 an3 ac3 af3, V.lit (Value.int IntKind.i64 asess)]))
                          (PT.nd
                            (some
                              (Ob.cells 29
                                [V.lit (Value.int IntKind.u32 baddr), V.lit (Value.int IntKind.i64 bbits), V.lit (Value.int IntKind.u32 bhop), V.lit (Value.int IntKind.i64 bpref),
                                  V.lit (Value.int IntKind.i64 bmetric), V.xs bb1 bo1 0 1 bn1 bc1 bf1, V.xs bb2 bo2 0 1 bn2 bc2 bf2, V.lit (Value.int IntKind.u32 bpeer),
                                  V.lit (Value.int IntKind.u32 bpid), V.lit (Value.bool bext), V.lit (Value.int IntKind.u32 borig), V.xs bb3 bo3 0 1 bn3 bc3 bf3, V.lit (Value.int IntKind.i64 bsess)]))
                            PT.nil PT.nil)
                          (PT.nd
                            (some
                              (Ob.cells 29
                                [V.lit (Value.int IntKind.u32 caddr), V.lit (Value.int IntKind.i64 cbits), V.lit (Value.int IntKind.u32 chop), V.lit (Value.int IntKind.i64 cpref),
                                  V.lit (Value.int IntKind.i64 cmetric), V.xs cb1 co1 0 1 cn1 cc1 cf1, V.xs cb2 co2 0 1 cn2 cc2 cf2, V.lit (Value.int IntKind.u32 cpeer),
                                  V.lit (Value.int IntKind.u32 cpid), V.lit (Value.bool cext), V.lit (Value.int IntKind.u32 corig), V.xs cb3 co3 0 1 cn3 cc3 cf3, V.lit (Value.int IntKind.i64 csess)]))
                            PT.nil PT.nil))))
                    (K H (V.lit (Value.bool false)) 3
                      (PT.nd
                        (some
                          (Ob.cells 29
                            [V.lit (Value.int IntKind.u32 aaddr), V.lit (Value.int IntKind.i64 abits), V.lit (Value.int IntKind.u32 ahop), V.lit (Value.int IntKind.i64 apref),
                              V.lit (Value.int IntKind.i64 ametric), V.xs ab1 ao1 0 1 an1 ac1 af1, V.xs ab2 ao2 0 1 an2 ac2 af2, V.lit (Value.int IntKind.u32 apeer), V.lit (Value.int IntKind.u32 apid),
                              V.lit (Value.bool aext), V.lit (Value.int IntKind.u32 aorig), V.xs ab3 ao3 0 1 an3 ac3 af3, V.lit (Value.int IntKind.i64 asess)]))
                        (PT.nd
                          (some
                            (Ob.cells 29
                              [V.lit (Value.int IntKind.u32 baddr), V.lit (Value.int IntKind.i64 bbits), V.lit (Value.int IntKind.u32 bhop), V.lit (Value.int IntKind.i64 bpref),
                                V.lit (Value.int IntKind.i64 bmetric), V.xs bb1 bo1 0 1 bn1 bc1 bf1, V.xs bb2 bo2 0 1 bn2 bc2 bf2, V.lit (Value.int IntKind.u32 bpeer),
                                V.lit (Value.int IntKind.u32 bpid), V.lit (Value.bool bext), V.lit (Value.int IntKind.u32 borig), V.xs bb3 bo3 0 1 bn3 bc3 bf3, V.lit (Value.int IntKind.i64 bsess)]))
                          PT.nil PT.nil)
                        (PT.nd
                          (some
                            (Ob.cells 29
                              [V.lit (Value.int IntKind.u32 caddr), V.lit (Value.int IntKind.i64 cbits), V.lit (Value.int IntKind.u32 chop), V.lit (Value.int IntKind.i64 cpref),
                                V.lit (Value.int IntKind.i64 cmetric), V.xs cb1 co1 0 1 cn1 cc1 cf1, V.xs cb2 co2 0 1 cn2 cc2 cf2, V.lit (Value.int IntKind.u32 cpeer),
                                V.lit (Value.int IntKind.u32 cpid), V.lit (Value.bool cext), V.lit (Value.int IntKind.u32 corig), V.xs cb3 co3 0 1 cn3 cc3 cf3, V.lit (Value.int IntKind.i64 csess)]))
                          PT.nil PT.nil))))
                  (K H (V.lit (Value.bool false)) 3
                    (PT.nd
                      (some
                        (Ob.cells 29
                          [V.lit (Value.int IntKind.u32 aaddr), V.lit (Value.int IntKind.i64 abits), V.lit (Value.int IntKind.u32 ahop), V.lit (Value.int IntKind.i64 apref),
                            V.lit (Value.int IntKind.i64 ametric), V.xs ab1 ao1 0 1 an1 ac1 af1, V.xs ab2 ao2 0 1 an2 ac2 af2, V.lit (Value.int IntKind.u32 apeer), V.lit (Value.int IntKind.u32 apid),
                            V.lit (Value.bool aext), V.lit (Value.int IntKind.u32 aorig), V.xs ab3 ao3 0 1 an3 ac3 af3, V.lit (Value.int IntKind.i64 asess)]))
                      (PT.nd
                        (some
                          (Ob.cells 29
                            [V.lit (Value.int IntKind.u32 baddr), V.lit (Value.int IntKind.i64 bbits), V.lit (Value.int IntKind.u32 bhop), V.lit (Value.int IntKind.i64 bpref),
                              V.lit (Value.int IntKind.i64 bmetric), V.xs bb1 bo1 0 1 bn1 bc1 bf1, V.xs bb2 bo2 0 1 bn2 bc2 bf2, V.lit (Value.int IntKind.u32 bpeer), V.lit (Value.int IntKind.u32 bpid),
                              V.lit (Value.bool bext), V.lit (Value.int IntKind.u32 borig), V.xs bb3 bo3 0 1 bn3 bc3 bf3, V.lit (Value.int IntKind.i64 bsess)]))
                        PT.nil PT.nil)
                      (PT.nd
                        (some
                          (Ob.cells 29
                            [V.lit (Value.int IntKind.u32 caddr), V.lit (Value.int IntKind.i64 cbits), V.lit (Value.int IntKind.u32 chop), V.lit (Value.int IntKind.i64 cpref),
                              V.lit (Value.int IntKind.i64 cmetric), V.xs cb1 co1 0 1 cn1 cc1 cf1, V.xs cb2 co2 0 1 cn2 cc2 cf2, V.lit (Value.int IntKind.u32 cpeer), V.lit (Value.int IntKind.u32 cpid),
                              V.lit (Value.bool cext), V.lit (Value.int IntKind.u32 corig), V.xs cb3 co3 0 1 cn3 cc3 cf3, V.lit (Value.int IntKind.i64 csess)]))
                        PT.nil PT.nil))))
                (K H (V.lit (Value.bool true)) 3
                  (PT.nd
                    (some
                      (Ob.cells 29
                        [V.lit (Value.int IntKind.u32 aaddr), V.lit (Value.int IntKind.i64 abits), V.lit (Value.int IntKind.u32 ahop), V.lit (Value.int IntKind.i64 apref),
                          V.lit (Value.int IntKind.i64 ametric), V.xs ab1 ao1 0 1 an1 ac1 af1, V.xs ab2 ao2 0 1 an2 ac2 af2, V.lit (Value.int IntKind.u32 apeer), V.lit (Value.int IntKind.u32 apid),
                          V.lit (Value.bool aext), V.lit (Value.int IntKind.u32 aorig), V.xs ab3 ao3 0 1 an3 ac3 af3, V.lit (Value.int IntKind.i64 asess)]))
                    (PT.nd
                      (some
                        (Ob.cells 29
                          [V.lit (Value.int IntKind.u32 baddr), V.lit (Value.int IntKind.i64 bbits), V.lit (Value.int IntKind.u32 bhop), V.lit (Value.int IntKind.i64 bpref),
                            V.lit (Value.int IntKind.i64 bmetric), V.xs bb1 bo1 0 1 bn1 bc1 bf1, V.xs bb2 bo2 0 1 bn2 bc2 bf2, V.lit (Value.int IntKind.u32 bpeer), V.lit (Value.int IntKind.u32 bpid),
                            V.lit (Value.bool bext), V.lit (Value.int IntKind.u32 borig), V.xs bb3 bo3 0 1 bn3 bc3 bf3, V.lit (Value.int IntKind.i64 bsess)]))
                      PT.nil PT.nil)
                    (PT.nd
                      (some
                        (Ob.cells 29
                          [V.lit (Value.int IntKind.u32 caddr), V.lit (Value.int IntKind.i64 cbits), V.lit (Value.int IntKind.u32 chop), V.lit (Value.int IntKind.i64 cpref),
                            V.lit (Value.int IntKind.i64 cmetric), V.xs cb1 co1 0 1 cn1 cc1 cf1, V.xs cb2 co2 0 1 cn2 cc2 cf2, V.lit (Value.int IntKind.u32 cpeer), V.lit (Value.int IntKind.u32 cpid),
                            V.lit (Value.bool cext), V.lit (Value.int IntKind.u32 corig), V.xs cb3 co3 0 1 cn3 cc3 cf3, V.lit (Value.int IntKind.i64 csess)]))
                      PT.nil PT.nil))))
              (K H (V.lit (Value.bool true)) 3
                (PT.nd
                  (some
                    (Ob.cells 29
                      [V.lit (Value.int IntKind.u32 aaddr), V.lit (Value.int IntKind.i64 abits), V.lit (Value.int IntKind.u32 ahop), V.lit (Value.int IntKind.i64 apref),
                        V.lit (Value.int IntKind.i64 ametric), V.xs ab1 ao1 0 1 an1 ac1 af1, V.xs ab2 ao2 0 1 an2 ac2 af2, V.lit (Value.int IntKind.u32 apeer), V.lit (Value.int IntKind.u32 apid),
                        V.lit (Value.bool aext), V.lit (Value.int IntKind.u32 aorig), V.xs ab3 ao3 0 1 an3 ac3 af3, V.lit (Value.int IntKind.i64 asess)]))
                  (PT.nd
                    (some
                      (Ob.cells 29
                        [V.lit (Value.int IntKind.u32 baddr), V.lit (Value.int IntKind.i64 bbits), V.lit (Value.int IntKind.u32 bhop), V.lit (Value.int IntKind.i64 bpref),
                          V.lit (Value.int IntKind.i64 bmetric), V.xs bb1 bo1 0 1 bn1 bc1 bf1, V.xs bb2 bo2 0 1 bn2 bc2 bf2, V.lit (Value.int IntKind.u32 bpeer), V.lit (Value.int IntKind.u32 bpid),
                          V.lit (Value.bool bext), V.lit (Value.int IntKind.u32 borig), V.xs bb3 bo3 0 1 bn3 bc3 bf3, V.lit (Value.int IntKind.i64 bsess)]))
                    PT.nil PT.nil)
                  (PT.nd
                    (some
                      (Ob.cells 29
                        [V.lit (Value.int IntKind.u32 caddr), V.lit (Value.int IntKind.i64 cbits), V.lit (Value.int IntKind.u32 chop), V.lit (Value.int IntKind.i64 cpref),
                          V.lit (Value.int IntKind.i64 cmetric), V.xs cb1 co1 0 1 cn1 cc1 cf1, V.xs cb2 co2 0 1 cn2 cc2 cf2, V.lit (Value.int IntKind.u32 cpeer), V.lit (Value.int IntKind.u32 cpid),
                          V.lit (Value.bool cext), V.lit (Value.int IntKind.u32 corig), V.xs cb3 co3 0 1 cn3 cc3 cf3, V.lit (Value.int IntKind.i64 csess)]))
                    PT.nil PT.nil))))
            (K H (V.lit (Value.bool true)) 3
              (PT.nd
                (some
                  (Ob.cells 29
                    [V.lit (Value.int IntKind.u32 aaddr), V.lit (Value.int IntKind.i64 abits), V.lit (Value.int IntKind.u32 ahop), V.lit (Value.int IntKind.i64 apref),
                      V.lit (Value.int IntKind.i64 ametric), V.xs ab1 ao1 0 1 an1 ac1 af1, V.xs ab2 ao2 0 1 an2 ac2 af2, V.lit (Value.int IntKind.u32 apeer), V.lit (Value.int IntKind.u32 apid),
                      V.lit (Value.bool aext), V.lit (Value.int IntKind.u32 aorig), V.xs ab3 ao3 0 1 an3 ac3 af3, V.lit (Value.int IntKind.i64 asess)]))
                (PT.nd
                  (some
                    (Ob.cells 29
                      [V.lit (Value.int IntKind.u32 baddr), V.lit (Value.int IntKind.i64 bbits), V.lit (Value.int IntKind.u32 bhop), V.lit (Value.int IntKind.i64 bpref),
                        V.lit (Value.int IntKind.i64 bmetric), V.xs bb1 bo1 0 1 bn1 bc1 bf1, V.xs bb2 bo2 0 1 bn2 bc2 bf2, V.lit (Value.int IntKind.u32 bpeer), V.lit (Value.int IntKind.u32 bpid),
                        V.lit (Value.bool bext), V.lit (Value.int IntKind.u32 borig), V.xs bb3 bo3 0 1 bn3 bc3 bf3, V.lit (Value.int IntKind.i64 bsess)]))
                  PT.nil PT.nil)
                (PT.nd
                  (some
                    (Ob.cells 29
                      [V.lit (Value.int IntKind.u32 caddr), V.lit (Value.int IntKind.i64 cbits), V.lit (Value.int IntKind.u32 chop), V.lit (Value.int IntKind.i64 cpref),
                        V.lit (Value.int IntKind.i64 cmetric), V.xs cb1 co1 0 1 cn1 cc1 cf1, V.xs cb2 co2 0 1 cn2 cc2 cf2, V.lit (Value.int IntKind.u32 cpeer), V.lit (Value.int IntKind.u32 cpid),
                        V.lit (Value.bool cext), V.lit (Value.int IntKind.u32 corig), V.xs cb3 co3 0 1 cn3 cc3 cf3, V.lit (Value.int IntKind.i64 csess)]))
                  PT.nil PT.nil))))))
theorem lawVC_eq (H : View) (aaddr abits ahop apref ametric apeer apid aorig asess : Int) (aext : Bool) (ab1 ao1 an1 ac1 ab2 ao2 an2 ac2 ab3 ao3 an3 ac3 : Nat) (af1 af2 af3 : Nat → List V) (baddr bbits bhop bpref bmetric bpeer bpid borig bsess : Int) (bext : Bool) (bb1 bo1 bn1 bc1 bb2 bo2 bn2 bc2 bb3 bo3 bn3 bc3 : Nat) (bf1 bf2 bf3 : Nat → List V) (caddr cbits chop cpref cmetric cpeer cpid corig csess : Int) (cext : Bool) (cb1 co1 cn1 cc1 cb2 co2 cn2 cc2 cb3 co3 cn3 cc3 : Nat) (cf1 cf2 cf3 : Nat → List V) (x y z : Int) (K : KV) : lawVC H aaddr abits ahop apref ametric apeer apid aorig asess aext ab1 ao1 an1 ac1 ab2 ao2 an2 ac2 ab3 ao3 an3 ac3 af1 af2 af3 baddr bbits bhop bpref bmetric bpeer bpid borig bsess bext bb1 bo1 bn1 bc1 bb2 bo2 bn2 bc2 bb3 bo3 bn3 bc3 bf1 bf2 bf3 caddr cbits chop cpref cmetric cpeer cpid corig csess cext cb1 co1 cn1 cc1 cb2 co2 cn2 cc2 cb3 co3 cn3 cc3 cf1 cf2 cf3 x y z K = (vcFn Go.Proofs.Tryz.prog (pcE pcW) noCt 3 .nil H [.agg [.lit (.int .u32 aaddr), .lit (.int .i64 abits), .lit (.int .u32 ahop), .lit (.int .i64 apref), .lit (.int .i64 ametric), .xs ab1 ao1 0 1 an1 ac1 af1, .xs ab2 ao2 0 1 an2 ac2 af2, .lit (.int .u32 apeer), .lit (.int .u32 apid), .lit (.bool aext), .lit (.int .u32 aorig), .xs ab3 ao3 0 1 an3 ac3 af3, .lit (.int .i64 asess)], .agg [.lit (.int .u32 baddr), .lit (.int .i64 bbits), .lit (.int .u32 bhop), .lit (.int .i64 bpref), .lit (.int .i64 bmetric), .xs bb1 bo1 0 1 bn1 bc1 bf1, .xs bb2 bo2 0 1 bn2 bc2 bf2, .lit (.int .u32 bpeer), .lit (.int .u32 bpid), .lit (.bool bext), .lit (.int .u32 borig), .xs bb3 bo3 0 1 bn3 bc3 bf3, .lit (.int .i64 bsess)], .agg [.lit (.int .u32 caddr), .lit (.int .i64 cbits), .lit (.int .u32 chop), .lit (.int .i64 cpref), .lit (.int .i64 cmetric), .xs cb1 co1 0 1 cn1 cc1 cf1, .xs cb2 co2 0 1 cn2 cc2 cf2, .lit (.int .u32 cpeer), .lit (.int .u32 cpid), .lit (.bool cext), .lit (.int .u32 corig), .xs cb3 co3 0 1 cn3 cc3 cf3, .lit (.int .i64 csess)], .lit (.int .i64 x), .lit (.int .i64 y), .lit (.int .i64 z)] 0 .nil K : Prop) := by kernel_rfl
end Go.Vm
