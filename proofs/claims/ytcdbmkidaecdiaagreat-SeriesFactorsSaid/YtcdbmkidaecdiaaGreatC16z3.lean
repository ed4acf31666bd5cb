/- The functions of the seat, part 3. -/
import Derived.Test.YtcdbmkidaecdiaaGreatC16z
namespace Go.Proofs.YtcdbmkidaecdiaaGreat
open Go Go.Ay
set_option maxRecDepth 100000
noncomputable abbrev Lx:=zZ 8
noncomputable abbrev wI:=zZ 18
noncomputable abbrev yS:=zZ 26
noncomputable abbrev Du:=zZ 29
noncomputable abbrev ajB:=zZ 34
noncomputable abbrev yT:=zZ 45
noncomputable abbrev rZ:=zZ 46
noncomputable abbrev qT:=zZ 48
noncomputable abbrev pX:=zZ 50
noncomputable abbrev fO:=zZ 52
noncomputable abbrev nH:=zZ 55
noncomputable abbrev tV:=zZ 69
noncomputable abbrev vY:=zZ 81
noncomputable abbrev qQ:=zZ 85
noncomputable abbrev Db:=zZ 99
noncomputable abbrev Au:=zZ 100
noncomputable abbrev kE:=zZ 105
noncomputable abbrev Bh:=zZ 106
noncomputable abbrev mX:=zZ 109
noncomputable abbrev aiY:=zZ 119
noncomputable abbrev tJ:=zZ 120
noncomputable abbrev wK:=zZ 122
noncomputable abbrev Ka:=zZ 123
noncomputable abbrev iB:=zZ 127
noncomputable abbrev rU:=zZ 133
noncomputable abbrev lD:=zZ 138
noncomputable abbrev pV:=zZ 143
noncomputable abbrev tC:=zZ 145
noncomputable abbrev fJ:=zZ 155
noncomputable abbrev oT:=zZ 162
noncomputable abbrev fS:=zZ 172
noncomputable abbrev ajT:=zZ 181
noncomputable abbrev oY:=zZ 182
noncomputable abbrev Br:=zZ 187
noncomputable abbrev pQ:=zZ 190
noncomputable abbrev uH:=zZ 193
noncomputable abbrev pF:=zZ 213
noncomputable abbrev wE:=zZ 220
noncomputable abbrev agO:=zZ 221
noncomputable abbrev tH:=zZ 229
noncomputable abbrev qW:=zZ 231
noncomputable abbrev iZ:=zZ 234
noncomputable abbrev kQ:=zZ 235
noncomputable abbrev jY:=zZ 241
noncomputable abbrev yP:=zZ 246
noncomputable abbrev sH:=zZ 250
noncomputable abbrev dU:=zZ 252
noncomputable abbrev kO:=zZ 257
noncomputable abbrev iR:=zZ 258
noncomputable abbrev iF:=zZ 262
end Go.Proofs.YtcdbmkidaecdiaaGreat
