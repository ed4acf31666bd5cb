/- The functions of the seat, part 3. -/
import Derived.Test.YtcdbmkidaecdiaaGreatC16z
namespace Go.Proofs.YtcdbmkidaecdiaaGreat
open Go Go.Ay
set_option maxRecDepth 100000
noncomputable abbrev zO:=zZ 12
noncomputable abbrev kO:=zZ 22
noncomputable abbrev jT:=zZ 24
noncomputable abbrev kS:=zZ 25
noncomputable abbrev Av:=zZ 28
noncomputable abbrev qT:=zZ 48
noncomputable abbrev dX:=zZ 51
noncomputable abbrev dT:=zZ 54
noncomputable abbrev mU:=zZ 55
noncomputable abbrev qG:=zZ 59
noncomputable abbrev tY:=zZ 71
noncomputable abbrev qH:=zZ 82
noncomputable abbrev qQ:=zZ 85
noncomputable abbrev Dl:=zZ 86
noncomputable abbrev rU:=zZ 88
noncomputable abbrev Fy:=zZ 96
noncomputable abbrev Ko:=zZ 98
noncomputable abbrev Cz:=zZ 99
noncomputable abbrev Fo:=zZ 101
noncomputable abbrev jM:=zZ 103
noncomputable abbrev zU:=zZ 106
noncomputable abbrev mK:=zZ 109
noncomputable abbrev gV:=zZ 117
noncomputable abbrev wH:=zZ 124
noncomputable abbrev jZ:=zZ 135
noncomputable abbrev kP:=zZ 138
noncomputable abbrev lY:=zZ 139
noncomputable abbrev Dh:=zZ 141
noncomputable abbrev Aj:=zZ 144
noncomputable abbrev tW:=zZ 145
noncomputable abbrev uK:=zZ 147
noncomputable abbrev Gm:=zZ 157
noncomputable abbrev pZ:=zZ 159
noncomputable abbrev nL:=zZ 162
noncomputable abbrev zW:=zZ 180
noncomputable abbrev Gb:=zZ 185
noncomputable abbrev rH:=zZ 189
noncomputable abbrev pD:=zZ 190
noncomputable abbrev Ih:=zZ 191
noncomputable abbrev Oy:=zZ 204
noncomputable abbrev gO:=zZ 217
noncomputable abbrev Bm:=zZ 218
noncomputable abbrev xG:=zZ 220
noncomputable abbrev sL:=zZ 221
noncomputable abbrev Df:=zZ 225
noncomputable abbrev gK:=zZ 227
noncomputable abbrev rX:=zZ 230
noncomputable abbrev eZ:=zZ 236
noncomputable abbrev cV:=zZ 250
noncomputable abbrev kV:=zZ 263
end Go.Proofs.YtcdbmkidaecdiaaGreat
