/- Printed by program (axgen): pure functions, and that the Go functions compute them. -/
import Derived.Test.YtmihoieaiojbhaaCF1
set_option linter.unusedVariables false
set_option linter.unusedSimpArgs false
namespace Go.Proofs.Try
open Go Go.AX
noncomputable section
def spec_shSimplest_l0_3 (k : Nat) (a1 : Rw) (a2 : Rw) (K0 : Option (Int × Int × Bool)) : Nat → Int → Int → Int → Int → Int → Int → Int → Bool → Bool → Option (Int × Int × Bool)
  | 0, _, _, _, _, _, _, _, _, _ => none
  | n + 1, v3618, v3619, v3620, v3621, v3622, v3623, v3624, v3625, v3626 => (cond v3625 (cond v3626 (if v3618 ≤ (20 : Int) then (if (0 : Int) < (a1.length : Int) then ((spec_shMost a1).bind fun y4292 => ((spec_shCmp y4292.1 y4292.2 v3619 v3620).bind fun y4294 => (if (0 : Int) ≤ y4294 then (if (0 : Int) < (a2.length : Int) then ((spec_shNegAll a2).bind fun y4298 => ((spec_shMost y4298).bind fun y4300 => ((spec_shNeg y4300.1 y4300.2).bind fun y4302 => ((spec_shCmp y4302.1 y4302.2 v3619 v3620).bind fun y4304 => (if y4304 ≤ (0 : Int) then some (0, 0, false) else ((spec_shWalk_step k v3619 v3620 v3621 v3622 v3623 v3624 true true true).bind fun y4307 => (if y4307.2.2.2.2.2.2.1 = true then (if y4307.2.2.2.2.2.2.2 = true then (spec_shSimplest_l0_3 k a1 a2 K0 n (IntKind.i64.wrap (v3618 + 1)) y4307.1 y4307.2.1 y4307.2.2.1 y4307.2.2.2.1 y4307.2.2.2.2.1 y4307.2.2.2.2.2.1 true true) else (spec_shSimplest_l0_3 k a1 a2 K0 n (IntKind.i64.wrap (v3618 + 1)) y4307.1 y4307.2.1 y4307.2.2.1 y4307.2.2.2.1 y4307.2.2.2.2.1 y4307.2.2.2.2.2.1 true false)) else (if y4307.2.2.2.2.2.2.2 = true then (spec_shSimplest_l0_3 k a1 a2 K0 n (IntKind.i64.wrap (v3618 + 1)) y4307.1 y4307.2.1 y4307.2.2.1 y4307.2.2.2.1 y4307.2.2.2.2.1 y4307.2.2.2.2.2.1 false true) else (spec_shSimplest_l0_3 k a1 a2 K0 n (IntKind.i64.wrap (v3618 + 1)) y4307.1 y4307.2.1 y4307.2.2.1 y4307.2.2.2.1 y4307.2.2.2.2.1 y4307.2.2.2.2.2.1 false false))))))))) else ((spec_shWalk_step k v3619 v3620 v3621 v3622 v3623 v3624 true true true).bind fun y4312 => (if y4312.2.2.2.2.2.2.1 = true then (if y4312.2.2.2.2.2.2.2 = true then (spec_shSimplest_l0_3 k a1 a2 K0 n (IntKind.i64.wrap (v3618 + 1)) y4312.1 y4312.2.1 y4312.2.2.1 y4312.2.2.2.1 y4312.2.2.2.2.1 y4312.2.2.2.2.2.1 true true) else (spec_shSimplest_l0_3 k a1 a2 K0 n (IntKind.i64.wrap (v3618 + 1)) y4312.1 y4312.2.1 y4312.2.2.1 y4312.2.2.2.1 y4312.2.2.2.2.1 y4312.2.2.2.2.2.1 true false)) else (if y4312.2.2.2.2.2.2.2 = true then (spec_shSimplest_l0_3 k a1 a2 K0 n (IntKind.i64.wrap (v3618 + 1)) y4312.1 y4312.2.1 y4312.2.2.1 y4312.2.2.2.1 y4312.2.2.2.2.1 y4312.2.2.2.2.2.1 false true) else (spec_shSimplest_l0_3 k a1 a2 K0 n (IntKind.i64.wrap (v3618 + 1)) y4312.1 y4312.2.1 y4312.2.2.1 y4312.2.2.2.1 y4312.2.2.2.2.1 y4312.2.2.2.2.2.1 false false))))) else (if (0 : Int) < (a2.length : Int) then ((spec_shNegAll a2).bind fun y4318 => ((spec_shMost y4318).bind fun y4320 => ((spec_shNeg y4320.1 y4320.2).bind fun y4322 => ((spec_shCmp y4322.1 y4322.2 v3619 v3620).bind fun y4324 => (if y4324 ≤ (0 : Int) then ((spec_shWalk_step k v3619 v3620 v3621 v3622 v3623 v3624 true true false).bind fun y4327 => (if y4327.2.2.2.2.2.2.1 = true then (if y4327.2.2.2.2.2.2.2 = true then (spec_shSimplest_l0_3 k a1 a2 K0 n (IntKind.i64.wrap (v3618 + 1)) y4327.1 y4327.2.1 y4327.2.2.1 y4327.2.2.2.1 y4327.2.2.2.2.1 y4327.2.2.2.2.2.1 true true) else (spec_shSimplest_l0_3 k a1 a2 K0 n (IntKind.i64.wrap (v3618 + 1)) y4327.1 y4327.2.1 y4327.2.2.1 y4327.2.2.2.1 y4327.2.2.2.2.1 y4327.2.2.2.2.2.1 true false)) else (if y4327.2.2.2.2.2.2.2 = true then (spec_shSimplest_l0_3 k a1 a2 K0 n (IntKind.i64.wrap (v3618 + 1)) y4327.1 y4327.2.1 y4327.2.2.1 y4327.2.2.2.1 y4327.2.2.2.2.1 y4327.2.2.2.2.2.1 false true) else (spec_shSimplest_l0_3 k a1 a2 K0 n (IntKind.i64.wrap (v3618 + 1)) y4327.1 y4327.2.1 y4327.2.2.1 y4327.2.2.2.1 y4327.2.2.2.2.1 y4327.2.2.2.2.2.1 false false)))) else some (v3619, v3620, true)))))) else some (v3619, v3620, true))))) else (if (0 : Int) < (a2.length : Int) then ((spec_shNegAll a2).bind fun y4333 => ((spec_shMost y4333).bind fun y4335 => ((spec_shNeg y4335.1 y4335.2).bind fun y4337 => ((spec_shCmp y4337.1 y4337.2 v3619 v3620).bind fun y4339 => (if y4339 ≤ (0 : Int) then ((spec_shWalk_step k v3619 v3620 v3621 v3622 v3623 v3624 true true false).bind fun y4342 => (if y4342.2.2.2.2.2.2.1 = true then (if y4342.2.2.2.2.2.2.2 = true then (spec_shSimplest_l0_3 k a1 a2 K0 n (IntKind.i64.wrap (v3618 + 1)) y4342.1 y4342.2.1 y4342.2.2.1 y4342.2.2.2.1 y4342.2.2.2.2.1 y4342.2.2.2.2.2.1 true true) else (spec_shSimplest_l0_3 k a1 a2 K0 n (IntKind.i64.wrap (v3618 + 1)) y4342.1 y4342.2.1 y4342.2.2.1 y4342.2.2.2.1 y4342.2.2.2.2.1 y4342.2.2.2.2.2.1 true false)) else (if y4342.2.2.2.2.2.2.2 = true then (spec_shSimplest_l0_3 k a1 a2 K0 n (IntKind.i64.wrap (v3618 + 1)) y4342.1 y4342.2.1 y4342.2.2.1 y4342.2.2.2.1 y4342.2.2.2.2.1 y4342.2.2.2.2.2.1 false true) else (spec_shSimplest_l0_3 k a1 a2 K0 n (IntKind.i64.wrap (v3618 + 1)) y4342.1 y4342.2.1 y4342.2.2.1 y4342.2.2.2.1 y4342.2.2.2.2.1 y4342.2.2.2.2.2.1 false false)))) else some (v3619, v3620, true)))))) else some (v3619, v3620, true))) else (K0)) (if v3618 ≤ (20 : Int) then (if (0 : Int) < (a1.length : Int) then ((spec_shMost a1).bind fun y4235 => ((spec_shCmp y4235.1 y4235.2 v3619 v3620).bind fun y4237 => (if (0 : Int) ≤ y4237 then (if (0 : Int) < (a2.length : Int) then ((spec_shNegAll a2).bind fun y4241 => ((spec_shMost y4241).bind fun y4243 => ((spec_shNeg y4243.1 y4243.2).bind fun y4245 => ((spec_shCmp y4245.1 y4245.2 v3619 v3620).bind fun y4247 => (if y4247 ≤ (0 : Int) then some (0, 0, false) else ((spec_shWalk_step k v3619 v3620 v3621 v3622 v3623 v3624 true false true).bind fun y4250 => (if y4250.2.2.2.2.2.2.1 = true then (if y4250.2.2.2.2.2.2.2 = true then (spec_shSimplest_l0_3 k a1 a2 K0 n (IntKind.i64.wrap (v3618 + 1)) y4250.1 y4250.2.1 y4250.2.2.1 y4250.2.2.2.1 y4250.2.2.2.2.1 y4250.2.2.2.2.2.1 true true) else (spec_shSimplest_l0_3 k a1 a2 K0 n (IntKind.i64.wrap (v3618 + 1)) y4250.1 y4250.2.1 y4250.2.2.1 y4250.2.2.2.1 y4250.2.2.2.2.1 y4250.2.2.2.2.2.1 true false)) else (if y4250.2.2.2.2.2.2.2 = true then (spec_shSimplest_l0_3 k a1 a2 K0 n (IntKind.i64.wrap (v3618 + 1)) y4250.1 y4250.2.1 y4250.2.2.1 y4250.2.2.2.1 y4250.2.2.2.2.1 y4250.2.2.2.2.2.1 false true) else (spec_shSimplest_l0_3 k a1 a2 K0 n (IntKind.i64.wrap (v3618 + 1)) y4250.1 y4250.2.1 y4250.2.2.1 y4250.2.2.2.1 y4250.2.2.2.2.1 y4250.2.2.2.2.2.1 false false))))))))) else ((spec_shWalk_step k v3619 v3620 v3621 v3622 v3623 v3624 true false true).bind fun y4255 => (if y4255.2.2.2.2.2.2.1 = true then (if y4255.2.2.2.2.2.2.2 = true then (spec_shSimplest_l0_3 k a1 a2 K0 n (IntKind.i64.wrap (v3618 + 1)) y4255.1 y4255.2.1 y4255.2.2.1 y4255.2.2.2.1 y4255.2.2.2.2.1 y4255.2.2.2.2.2.1 true true) else (spec_shSimplest_l0_3 k a1 a2 K0 n (IntKind.i64.wrap (v3618 + 1)) y4255.1 y4255.2.1 y4255.2.2.1 y4255.2.2.2.1 y4255.2.2.2.2.1 y4255.2.2.2.2.2.1 true false)) else (if y4255.2.2.2.2.2.2.2 = true then (spec_shSimplest_l0_3 k a1 a2 K0 n (IntKind.i64.wrap (v3618 + 1)) y4255.1 y4255.2.1 y4255.2.2.1 y4255.2.2.2.1 y4255.2.2.2.2.1 y4255.2.2.2.2.2.1 false true) else (spec_shSimplest_l0_3 k a1 a2 K0 n (IntKind.i64.wrap (v3618 + 1)) y4255.1 y4255.2.1 y4255.2.2.1 y4255.2.2.2.1 y4255.2.2.2.2.1 y4255.2.2.2.2.2.1 false false))))) else (if (0 : Int) < (a2.length : Int) then ((spec_shNegAll a2).bind fun y4261 => ((spec_shMost y4261).bind fun y4263 => ((spec_shNeg y4263.1 y4263.2).bind fun y4265 => ((spec_shCmp y4265.1 y4265.2 v3619 v3620).bind fun y4267 => (if y4267 ≤ (0 : Int) then ((spec_shWalk_step k v3619 v3620 v3621 v3622 v3623 v3624 true false false).bind fun y4270 => (if y4270.2.2.2.2.2.2.1 = true then (if y4270.2.2.2.2.2.2.2 = true then (spec_shSimplest_l0_3 k a1 a2 K0 n (IntKind.i64.wrap (v3618 + 1)) y4270.1 y4270.2.1 y4270.2.2.1 y4270.2.2.2.1 y4270.2.2.2.2.1 y4270.2.2.2.2.2.1 true true) else (spec_shSimplest_l0_3 k a1 a2 K0 n (IntKind.i64.wrap (v3618 + 1)) y4270.1 y4270.2.1 y4270.2.2.1 y4270.2.2.2.1 y4270.2.2.2.2.1 y4270.2.2.2.2.2.1 true false)) else (if y4270.2.2.2.2.2.2.2 = true then (spec_shSimplest_l0_3 k a1 a2 K0 n (IntKind.i64.wrap (v3618 + 1)) y4270.1 y4270.2.1 y4270.2.2.1 y4270.2.2.2.1 y4270.2.2.2.2.1 y4270.2.2.2.2.2.1 false true) else (spec_shSimplest_l0_3 k a1 a2 K0 n (IntKind.i64.wrap (v3618 + 1)) y4270.1 y4270.2.1 y4270.2.2.1 y4270.2.2.2.1 y4270.2.2.2.2.1 y4270.2.2.2.2.2.1 false false)))) else some (v3619, v3620, true)))))) else some (v3619, v3620, true))))) else (if (0 : Int) < (a2.length : Int) then ((spec_shNegAll a2).bind fun y4276 => ((spec_shMost y4276).bind fun y4278 => ((spec_shNeg y4278.1 y4278.2).bind fun y4280 => ((spec_shCmp y4280.1 y4280.2 v3619 v3620).bind fun y4282 => (if y4282 ≤ (0 : Int) then ((spec_shWalk_step k v3619 v3620 v3621 v3622 v3623 v3624 true false false).bind fun y4285 => (if y4285.2.2.2.2.2.2.1 = true then (if y4285.2.2.2.2.2.2.2 = true then (spec_shSimplest_l0_3 k a1 a2 K0 n (IntKind.i64.wrap (v3618 + 1)) y4285.1 y4285.2.1 y4285.2.2.1 y4285.2.2.2.1 y4285.2.2.2.2.1 y4285.2.2.2.2.2.1 true true) else (spec_shSimplest_l0_3 k a1 a2 K0 n (IntKind.i64.wrap (v3618 + 1)) y4285.1 y4285.2.1 y4285.2.2.1 y4285.2.2.2.1 y4285.2.2.2.2.1 y4285.2.2.2.2.2.1 true false)) else (if y4285.2.2.2.2.2.2.2 = true then (spec_shSimplest_l0_3 k a1 a2 K0 n (IntKind.i64.wrap (v3618 + 1)) y4285.1 y4285.2.1 y4285.2.2.1 y4285.2.2.2.1 y4285.2.2.2.2.1 y4285.2.2.2.2.2.1 false true) else (spec_shSimplest_l0_3 k a1 a2 K0 n (IntKind.i64.wrap (v3618 + 1)) y4285.1 y4285.2.1 y4285.2.2.1 y4285.2.2.2.1 y4285.2.2.2.2.1 y4285.2.2.2.2.2.1 false false)))) else some (v3619, v3620, true)))))) else some (v3619, v3620, true))) else (K0))) (cond v3626 (if v3618 ≤ (20 : Int) then (if (0 : Int) < (a1.length : Int) then ((spec_shMost a1).bind fun y4178 => ((spec_shCmp y4178.1 y4178.2 v3619 v3620).bind fun y4180 => (if (0 : Int) ≤ y4180 then (if (0 : Int) < (a2.length : Int) then ((spec_shNegAll a2).bind fun y4184 => ((spec_shMost y4184).bind fun y4186 => ((spec_shNeg y4186.1 y4186.2).bind fun y4188 => ((spec_shCmp y4188.1 y4188.2 v3619 v3620).bind fun y4190 => (if y4190 ≤ (0 : Int) then some (0, 0, false) else ((spec_shWalk_step k v3619 v3620 v3621 v3622 v3623 v3624 false true true).bind fun y4193 => (if y4193.2.2.2.2.2.2.1 = true then (if y4193.2.2.2.2.2.2.2 = true then (spec_shSimplest_l0_3 k a1 a2 K0 n (IntKind.i64.wrap (v3618 + 1)) y4193.1 y4193.2.1 y4193.2.2.1 y4193.2.2.2.1 y4193.2.2.2.2.1 y4193.2.2.2.2.2.1 true true) else (spec_shSimplest_l0_3 k a1 a2 K0 n (IntKind.i64.wrap (v3618 + 1)) y4193.1 y4193.2.1 y4193.2.2.1 y4193.2.2.2.1 y4193.2.2.2.2.1 y4193.2.2.2.2.2.1 true false)) else (if y4193.2.2.2.2.2.2.2 = true then (spec_shSimplest_l0_3 k a1 a2 K0 n (IntKind.i64.wrap (v3618 + 1)) y4193.1 y4193.2.1 y4193.2.2.1 y4193.2.2.2.1 y4193.2.2.2.2.1 y4193.2.2.2.2.2.1 false true) else (spec_shSimplest_l0_3 k a1 a2 K0 n (IntKind.i64.wrap (v3618 + 1)) y4193.1 y4193.2.1 y4193.2.2.1 y4193.2.2.2.1 y4193.2.2.2.2.1 y4193.2.2.2.2.2.1 false false))))))))) else ((spec_shWalk_step k v3619 v3620 v3621 v3622 v3623 v3624 false true true).bind fun y4198 => (if y4198.2.2.2.2.2.2.1 = true then (if y4198.2.2.2.2.2.2.2 = true then (spec_shSimplest_l0_3 k a1 a2 K0 n (IntKind.i64.wrap (v3618 + 1)) y4198.1 y4198.2.1 y4198.2.2.1 y4198.2.2.2.1 y4198.2.2.2.2.1 y4198.2.2.2.2.2.1 true true) else (spec_shSimplest_l0_3 k a1 a2 K0 n (IntKind.i64.wrap (v3618 + 1)) y4198.1 y4198.2.1 y4198.2.2.1 y4198.2.2.2.1 y4198.2.2.2.2.1 y4198.2.2.2.2.2.1 true false)) else (if y4198.2.2.2.2.2.2.2 = true then (spec_shSimplest_l0_3 k a1 a2 K0 n (IntKind.i64.wrap (v3618 + 1)) y4198.1 y4198.2.1 y4198.2.2.1 y4198.2.2.2.1 y4198.2.2.2.2.1 y4198.2.2.2.2.2.1 false true) else (spec_shSimplest_l0_3 k a1 a2 K0 n (IntKind.i64.wrap (v3618 + 1)) y4198.1 y4198.2.1 y4198.2.2.1 y4198.2.2.2.1 y4198.2.2.2.2.1 y4198.2.2.2.2.2.1 false false))))) else (if (0 : Int) < (a2.length : Int) then ((spec_shNegAll a2).bind fun y4204 => ((spec_shMost y4204).bind fun y4206 => ((spec_shNeg y4206.1 y4206.2).bind fun y4208 => ((spec_shCmp y4208.1 y4208.2 v3619 v3620).bind fun y4210 => (if y4210 ≤ (0 : Int) then ((spec_shWalk_step k v3619 v3620 v3621 v3622 v3623 v3624 false true false).bind fun y4213 => (if y4213.2.2.2.2.2.2.1 = true then (if y4213.2.2.2.2.2.2.2 = true then (spec_shSimplest_l0_3 k a1 a2 K0 n (IntKind.i64.wrap (v3618 + 1)) y4213.1 y4213.2.1 y4213.2.2.1 y4213.2.2.2.1 y4213.2.2.2.2.1 y4213.2.2.2.2.2.1 true true) else (spec_shSimplest_l0_3 k a1 a2 K0 n (IntKind.i64.wrap (v3618 + 1)) y4213.1 y4213.2.1 y4213.2.2.1 y4213.2.2.2.1 y4213.2.2.2.2.1 y4213.2.2.2.2.2.1 true false)) else (if y4213.2.2.2.2.2.2.2 = true then (spec_shSimplest_l0_3 k a1 a2 K0 n (IntKind.i64.wrap (v3618 + 1)) y4213.1 y4213.2.1 y4213.2.2.1 y4213.2.2.2.1 y4213.2.2.2.2.1 y4213.2.2.2.2.2.1 false true) else (spec_shSimplest_l0_3 k a1 a2 K0 n (IntKind.i64.wrap (v3618 + 1)) y4213.1 y4213.2.1 y4213.2.2.1 y4213.2.2.2.1 y4213.2.2.2.2.1 y4213.2.2.2.2.2.1 false false)))) else some (v3619, v3620, true)))))) else some (v3619, v3620, true))))) else (if (0 : Int) < (a2.length : Int) then ((spec_shNegAll a2).bind fun y4219 => ((spec_shMost y4219).bind fun y4221 => ((spec_shNeg y4221.1 y4221.2).bind fun y4223 => ((spec_shCmp y4223.1 y4223.2 v3619 v3620).bind fun y4225 => (if y4225 ≤ (0 : Int) then ((spec_shWalk_step k v3619 v3620 v3621 v3622 v3623 v3624 false true false).bind fun y4228 => (if y4228.2.2.2.2.2.2.1 = true then (if y4228.2.2.2.2.2.2.2 = true then (spec_shSimplest_l0_3 k a1 a2 K0 n (IntKind.i64.wrap (v3618 + 1)) y4228.1 y4228.2.1 y4228.2.2.1 y4228.2.2.2.1 y4228.2.2.2.2.1 y4228.2.2.2.2.2.1 true true) else (spec_shSimplest_l0_3 k a1 a2 K0 n (IntKind.i64.wrap (v3618 + 1)) y4228.1 y4228.2.1 y4228.2.2.1 y4228.2.2.2.1 y4228.2.2.2.2.1 y4228.2.2.2.2.2.1 true false)) else (if y4228.2.2.2.2.2.2.2 = true then (spec_shSimplest_l0_3 k a1 a2 K0 n (IntKind.i64.wrap (v3618 + 1)) y4228.1 y4228.2.1 y4228.2.2.1 y4228.2.2.2.1 y4228.2.2.2.2.1 y4228.2.2.2.2.2.1 false true) else (spec_shSimplest_l0_3 k a1 a2 K0 n (IntKind.i64.wrap (v3618 + 1)) y4228.1 y4228.2.1 y4228.2.2.1 y4228.2.2.2.1 y4228.2.2.2.2.1 y4228.2.2.2.2.2.1 false false)))) else some (v3619, v3620, true)))))) else some (v3619, v3620, true))) else (K0)) (if v3618 ≤ (20 : Int) then (if (0 : Int) < (a1.length : Int) then ((spec_shMost a1).bind fun y4121 => ((spec_shCmp y4121.1 y4121.2 v3619 v3620).bind fun y4123 => (if (0 : Int) ≤ y4123 then (if (0 : Int) < (a2.length : Int) then ((spec_shNegAll a2).bind fun y4127 => ((spec_shMost y4127).bind fun y4129 => ((spec_shNeg y4129.1 y4129.2).bind fun y4131 => ((spec_shCmp y4131.1 y4131.2 v3619 v3620).bind fun y4133 => (if y4133 ≤ (0 : Int) then some (0, 0, false) else ((spec_shWalk_step k v3619 v3620 v3621 v3622 v3623 v3624 false false true).bind fun y4136 => (if y4136.2.2.2.2.2.2.1 = true then (if y4136.2.2.2.2.2.2.2 = true then (spec_shSimplest_l0_3 k a1 a2 K0 n (IntKind.i64.wrap (v3618 + 1)) y4136.1 y4136.2.1 y4136.2.2.1 y4136.2.2.2.1 y4136.2.2.2.2.1 y4136.2.2.2.2.2.1 true true) else (spec_shSimplest_l0_3 k a1 a2 K0 n (IntKind.i64.wrap (v3618 + 1)) y4136.1 y4136.2.1 y4136.2.2.1 y4136.2.2.2.1 y4136.2.2.2.2.1 y4136.2.2.2.2.2.1 true false)) else (if y4136.2.2.2.2.2.2.2 = true then (spec_shSimplest_l0_3 k a1 a2 K0 n (IntKind.i64.wrap (v3618 + 1)) y4136.1 y4136.2.1 y4136.2.2.1 y4136.2.2.2.1 y4136.2.2.2.2.1 y4136.2.2.2.2.2.1 false true) else (spec_shSimplest_l0_3 k a1 a2 K0 n (IntKind.i64.wrap (v3618 + 1)) y4136.1 y4136.2.1 y4136.2.2.1 y4136.2.2.2.1 y4136.2.2.2.2.1 y4136.2.2.2.2.2.1 false false))))))))) else ((spec_shWalk_step k v3619 v3620 v3621 v3622 v3623 v3624 false false true).bind fun y4141 => (if y4141.2.2.2.2.2.2.1 = true then (if y4141.2.2.2.2.2.2.2 = true then (spec_shSimplest_l0_3 k a1 a2 K0 n (IntKind.i64.wrap (v3618 + 1)) y4141.1 y4141.2.1 y4141.2.2.1 y4141.2.2.2.1 y4141.2.2.2.2.1 y4141.2.2.2.2.2.1 true true) else (spec_shSimplest_l0_3 k a1 a2 K0 n (IntKind.i64.wrap (v3618 + 1)) y4141.1 y4141.2.1 y4141.2.2.1 y4141.2.2.2.1 y4141.2.2.2.2.1 y4141.2.2.2.2.2.1 true false)) else (if y4141.2.2.2.2.2.2.2 = true then (spec_shSimplest_l0_3 k a1 a2 K0 n (IntKind.i64.wrap (v3618 + 1)) y4141.1 y4141.2.1 y4141.2.2.1 y4141.2.2.2.1 y4141.2.2.2.2.1 y4141.2.2.2.2.2.1 false true) else (spec_shSimplest_l0_3 k a1 a2 K0 n (IntKind.i64.wrap (v3618 + 1)) y4141.1 y4141.2.1 y4141.2.2.1 y4141.2.2.2.1 y4141.2.2.2.2.1 y4141.2.2.2.2.2.1 false false))))) else (if (0 : Int) < (a2.length : Int) then ((spec_shNegAll a2).bind fun y4147 => ((spec_shMost y4147).bind fun y4149 => ((spec_shNeg y4149.1 y4149.2).bind fun y4151 => ((spec_shCmp y4151.1 y4151.2 v3619 v3620).bind fun y4153 => (if y4153 ≤ (0 : Int) then ((spec_shWalk_step k v3619 v3620 v3621 v3622 v3623 v3624 false false false).bind fun y4156 => (if y4156.2.2.2.2.2.2.1 = true then (if y4156.2.2.2.2.2.2.2 = true then (spec_shSimplest_l0_3 k a1 a2 K0 n (IntKind.i64.wrap (v3618 + 1)) y4156.1 y4156.2.1 y4156.2.2.1 y4156.2.2.2.1 y4156.2.2.2.2.1 y4156.2.2.2.2.2.1 true true) else (spec_shSimplest_l0_3 k a1 a2 K0 n (IntKind.i64.wrap (v3618 + 1)) y4156.1 y4156.2.1 y4156.2.2.1 y4156.2.2.2.1 y4156.2.2.2.2.1 y4156.2.2.2.2.2.1 true false)) else (if y4156.2.2.2.2.2.2.2 = true then (spec_shSimplest_l0_3 k a1 a2 K0 n (IntKind.i64.wrap (v3618 + 1)) y4156.1 y4156.2.1 y4156.2.2.1 y4156.2.2.2.1 y4156.2.2.2.2.1 y4156.2.2.2.2.2.1 false true) else (spec_shSimplest_l0_3 k a1 a2 K0 n (IntKind.i64.wrap (v3618 + 1)) y4156.1 y4156.2.1 y4156.2.2.1 y4156.2.2.2.1 y4156.2.2.2.2.1 y4156.2.2.2.2.2.1 false false)))) else some (v3619, v3620, true)))))) else some (v3619, v3620, true))))) else (if (0 : Int) < (a2.length : Int) then ((spec_shNegAll a2).bind fun y4162 => ((spec_shMost y4162).bind fun y4164 => ((spec_shNeg y4164.1 y4164.2).bind fun y4166 => ((spec_shCmp y4166.1 y4166.2 v3619 v3620).bind fun y4168 => (if y4168 ≤ (0 : Int) then ((spec_shWalk_step k v3619 v3620 v3621 v3622 v3623 v3624 false false false).bind fun y4171 => (if y4171.2.2.2.2.2.2.1 = true then (if y4171.2.2.2.2.2.2.2 = true then (spec_shSimplest_l0_3 k a1 a2 K0 n (IntKind.i64.wrap (v3618 + 1)) y4171.1 y4171.2.1 y4171.2.2.1 y4171.2.2.2.1 y4171.2.2.2.2.1 y4171.2.2.2.2.2.1 true true) else (spec_shSimplest_l0_3 k a1 a2 K0 n (IntKind.i64.wrap (v3618 + 1)) y4171.1 y4171.2.1 y4171.2.2.1 y4171.2.2.2.1 y4171.2.2.2.2.1 y4171.2.2.2.2.2.1 true false)) else (if y4171.2.2.2.2.2.2.2 = true then (spec_shSimplest_l0_3 k a1 a2 K0 n (IntKind.i64.wrap (v3618 + 1)) y4171.1 y4171.2.1 y4171.2.2.1 y4171.2.2.2.1 y4171.2.2.2.2.1 y4171.2.2.2.2.2.1 false true) else (spec_shSimplest_l0_3 k a1 a2 K0 n (IntKind.i64.wrap (v3618 + 1)) y4171.1 y4171.2.1 y4171.2.2.1 y4171.2.2.2.1 y4171.2.2.2.2.1 y4171.2.2.2.2.2.1 false false)))) else some (v3619, v3620, true)))))) else some (v3619, v3620, true))) else (K0))))
set_option maxHeartbeats 4000000 in
set_option maxRecDepth 100000 in
theorem spec_shSimplest_l0_3_ct {k : Nat} {a1 : Rw} {a2 : Rw} {K0 : Option (Int × Int × Bool)} {r : Int × Int × Bool} : ∀ (n : Nat) (v3618 : Int) (v3619 : Int) (v3620 : Int) (v3621 : Int) (v3622 : Int) (v3623 : Int) (v3624 : Int) (v3625 : Bool) (v3626 : Bool), spec_shSimplest_l0_3 k a1 a2 K0 n v3618 v3619 v3620 v3621 v3622 v3623 v3624 v3625 v3626 = some r → LoopOk prog 0 (lp f46 0) (mk 56 [(0, .d (D.sl a1)), (1, .d (D.sl a2)), (4, .ptr 256 0), (6, .ptr 384 0), (7, .d (D.int .i64 v3618))] [(256, .box 28 [.d (D.int .i64 0), .d (D.int .i64 0)]), (384, .box 139 [.d (D.int .i64 v3619), .d (D.int .i64 v3620), .d (D.int .i64 v3621), .d (D.int .i64 v3622), .d (D.int .i64 v3623), .d (D.int .i64 v3624), .d (D.bool v3625), .d (D.bool v3626)])]) (LoopEnd prog f46 0 56 (.tup [.agg [.d (D.int .i64 r.1), .d (D.int .i64 r.2.1)], .d (D.bool r.2.2)]) (⟨[], []⟩) (fun i ts os => (i = 0 ∧ K0 = some r ∧ ts = [(4, .ptr 256 0)] ∧ os = [(256, .box 28 [.d (D.int .i64 0), .d (D.int .i64 0)])])))
  | 0, _, _, _, _, _, _, _, _, _, h => by
      rw [spec_shSimplest_l0_3] at h; cases h
  | n + 1, v3618, v3619, v3620, v3621, v3622, v3623, v3624, v3625, v3626, h => by
      rw [spec_shSimplest_l0_3] at h
      cases v3625
      · replace h := condF h
        cases v3626
        · replace h := condF h
          refine LoopOk.step ?_
          conv => whnf
          refine splD (fun g4119 => ?_) (fun g4119 => ?_)
          · replace h := iteP h g4119
            conv => whnf
            refine splD (fun g4120 => ?_) (fun g4120 => ?_)
            · replace h := iteP h g4120
              conv => whnf
              refine Pick.no ?_
              conv => whnf
              obtain ⟨y4121, e4122, h⟩ := bind_ex h
              refine CallOk.of (spec_shMost_ct e4122) ?_
              conv => whnf
              refine Pick.no ?_
              conv => whnf
              obtain ⟨y4123, e4124, h⟩ := bind_ex h
              refine CallOk.of (spec_shCmp_ct e4124) ?_
              conv => whnf
              refine splD (fun g4125 => ?_) (fun g4125 => ?_)
              · replace h := iteP h g4125
                conv => whnf
                refine CutK.norm [0, 1, 4, 6, 7, 8] [256, 384] ?_
                conv => whnf
                refine splD (fun g4126 => ?_) (fun g4126 => ?_)
                · replace h := iteP h g4126
                  conv => whnf
                  refine Pick.no ?_
                  conv => whnf
                  obtain ⟨y4127, e4128, h⟩ := bind_ex h
                  refine CallOk.of (spec_shNegAll_ct e4128) ?_
                  conv => whnf
                  refine Pick.no ?_
                  conv => whnf
                  refine Take.all (rfl) ?_
                  conv => whnf
                  obtain ⟨y4129, e4130, h⟩ := bind_ex h
                  refine CallOk.of (spec_shMost_ct e4130) ?_
                  conv => whnf
                  refine Pick.no ?_
                  conv => whnf
                  obtain ⟨y4131, e4132, h⟩ := bind_ex h
                  refine CallOk.of (spec_shNeg_ct e4132) ?_
                  conv => whnf
                  refine Pick.no ?_
                  conv => whnf
                  obtain ⟨y4133, e4134, h⟩ := bind_ex h
                  refine CallOk.of (spec_shCmp_ct e4134) ?_
                  conv => whnf
                  refine splD (fun g4135 => ?_) (fun g4135 => ?_)
                  · replace h := iteP h g4135
                    conv => whnf
                    refine CutK.norm [0, 1, 4, 6, 7, 8, 9] [256, 384] ?_
                    conv => whnf
                    cases h
                    exact Done.of [] [] rfl rfl ⟨⟨rfl, rfl⟩, ⟨rfl, trivial⟩, ⟨⟨rfl, rfl, trivial⟩, rfl, trivial⟩, trivial⟩
                  · replace h := iteN h g4135
                    conv => whnf
                    refine CutK.norm [0, 1, 4, 6, 7, 8, 9] [256, 384] ?_
                    conv => whnf
                    refine splF ?_
                    conv => whnf
                    refine splF ?_
                    conv => whnf
                    refine Pick.no ?_
                    conv => whnf
                    obtain ⟨y4136, e4137, h⟩ := bind_ex h
                    refine CallOk.of (spec_shWalk_step_ct e4137) ?_
                    conv => whnf
                    refine spl (fun g4138 => ?_) (fun g4138 => ?_)
                    · replace h := iteT h g4138
                      conv => whnf
                      refine spl (fun g4139 => ?_) (fun g4139 => ?_)
                      · replace h := iteT h g4139
                        conv => whnf
                        refine CutK.norm [0, 1, 4, 6, 7] [256, 384] ?_
                        conv => whnf
                        exact LoopOk.back (spec_shSimplest_l0_3_ct  n _ _ _ _ _ _ _ _ _ h) [some 256, some 384] [] ⟨⟨rfl, rfl⟩, ⟨rfl, ⟨rfl, rfl, rfl, trivial⟩, ⟨rfl, rfl, rfl, rfl, rfl, rfl, rfl, rfl, rfl, trivial⟩, trivial⟩, rfl, rfl, ⟨rfl, rfl⟩, ⟨rfl, rfl⟩, rfl, trivial⟩
                      · replace h := iteF h g4139
                        conv => whnf
                        refine CutK.norm [0, 1, 4, 6, 7] [256, 384] ?_
                        conv => whnf
                        exact LoopOk.back (spec_shSimplest_l0_3_ct  n _ _ _ _ _ _ _ _ _ h) [some 256, some 384] [] ⟨⟨rfl, rfl⟩, ⟨rfl, ⟨rfl, rfl, rfl, trivial⟩, ⟨rfl, rfl, rfl, rfl, rfl, rfl, rfl, rfl, rfl, trivial⟩, trivial⟩, rfl, rfl, ⟨rfl, rfl⟩, ⟨rfl, rfl⟩, rfl, trivial⟩
                    · replace h := iteF h g4138
                      conv => whnf
                      refine spl (fun g4140 => ?_) (fun g4140 => ?_)
                      · replace h := iteT h g4140
                        conv => whnf
                        refine CutK.norm [0, 1, 4, 6, 7] [256, 384] ?_
                        conv => whnf
                        exact LoopOk.back (spec_shSimplest_l0_3_ct  n _ _ _ _ _ _ _ _ _ h) [some 256, some 384] [] ⟨⟨rfl, rfl⟩, ⟨rfl, ⟨rfl, rfl, rfl, trivial⟩, ⟨rfl, rfl, rfl, rfl, rfl, rfl, rfl, rfl, rfl, trivial⟩, trivial⟩, rfl, rfl, ⟨rfl, rfl⟩, ⟨rfl, rfl⟩, rfl, trivial⟩
                      · replace h := iteF h g4140
                        conv => whnf
                        refine CutK.norm [0, 1, 4, 6, 7] [256, 384] ?_
                        conv => whnf
                        exact LoopOk.back (spec_shSimplest_l0_3_ct  n _ _ _ _ _ _ _ _ _ h) [some 256, some 384] [] ⟨⟨rfl, rfl⟩, ⟨rfl, ⟨rfl, rfl, rfl, trivial⟩, ⟨rfl, rfl, rfl, rfl, rfl, rfl, rfl, rfl, rfl, trivial⟩, trivial⟩, rfl, rfl, ⟨rfl, rfl⟩, ⟨rfl, rfl⟩, rfl, trivial⟩
                · replace h := iteN h g4126
                  conv => whnf
                  refine CutK.norm [0, 1, 4, 6, 7, 8, 9] [256, 384] ?_
                  conv => whnf
                  refine splF ?_
                  conv => whnf
                  refine splF ?_
                  conv => whnf
                  refine Pick.no ?_
                  conv => whnf
                  obtain ⟨y4141, e4142, h⟩ := bind_ex h
                  refine CallOk.of (spec_shWalk_step_ct e4142) ?_
                  conv => whnf
                  refine spl (fun g4143 => ?_) (fun g4143 => ?_)
                  · replace h := iteT h g4143
                    conv => whnf
                    refine spl (fun g4144 => ?_) (fun g4144 => ?_)
                    · replace h := iteT h g4144
                      conv => whnf
                      refine CutK.norm [0, 1, 4, 6, 7] [256, 384] ?_
                      conv => whnf
                      exact LoopOk.back (spec_shSimplest_l0_3_ct  n _ _ _ _ _ _ _ _ _ h) [some 256, some 384] [] ⟨⟨rfl, rfl⟩, ⟨rfl, ⟨rfl, rfl, rfl, trivial⟩, ⟨rfl, rfl, rfl, rfl, rfl, rfl, rfl, rfl, rfl, trivial⟩, trivial⟩, rfl, rfl, ⟨rfl, rfl⟩, ⟨rfl, rfl⟩, rfl, trivial⟩
                    · replace h := iteF h g4144
                      conv => whnf
                      refine CutK.norm [0, 1, 4, 6, 7] [256, 384] ?_
                      conv => whnf
                      exact LoopOk.back (spec_shSimplest_l0_3_ct  n _ _ _ _ _ _ _ _ _ h) [some 256, some 384] [] ⟨⟨rfl, rfl⟩, ⟨rfl, ⟨rfl, rfl, rfl, trivial⟩, ⟨rfl, rfl, rfl, rfl, rfl, rfl, rfl, rfl, rfl, trivial⟩, trivial⟩, rfl, rfl, ⟨rfl, rfl⟩, ⟨rfl, rfl⟩, rfl, trivial⟩
                  · replace h := iteF h g4143
                    conv => whnf
                    refine spl (fun g4145 => ?_) (fun g4145 => ?_)
                    · replace h := iteT h g4145
                      conv => whnf
                      refine CutK.norm [0, 1, 4, 6, 7] [256, 384] ?_
                      conv => whnf
                      exact LoopOk.back (spec_shSimplest_l0_3_ct  n _ _ _ _ _ _ _ _ _ h) [some 256, some 384] [] ⟨⟨rfl, rfl⟩, ⟨rfl, ⟨rfl, rfl, rfl, trivial⟩, ⟨rfl, rfl, rfl, rfl, rfl, rfl, rfl, rfl, rfl, trivial⟩, trivial⟩, rfl, rfl, ⟨rfl, rfl⟩, ⟨rfl, rfl⟩, rfl, trivial⟩
                    · replace h := iteF h g4145
                      conv => whnf
                      refine CutK.norm [0, 1, 4, 6, 7] [256, 384] ?_
                      conv => whnf
                      exact LoopOk.back (spec_shSimplest_l0_3_ct  n _ _ _ _ _ _ _ _ _ h) [some 256, some 384] [] ⟨⟨rfl, rfl⟩, ⟨rfl, ⟨rfl, rfl, rfl, trivial⟩, ⟨rfl, rfl, rfl, rfl, rfl, rfl, rfl, rfl, rfl, trivial⟩, trivial⟩, rfl, rfl, ⟨rfl, rfl⟩, ⟨rfl, rfl⟩, rfl, trivial⟩
              · replace h := iteN h g4125
                conv => whnf
                refine CutK.norm [0, 1, 4, 6, 7, 8] [256, 384] ?_
                conv => whnf
                refine splD (fun g4146 => ?_) (fun g4146 => ?_)
                · replace h := iteP h g4146
                  conv => whnf
                  refine Pick.no ?_
                  conv => whnf
                  obtain ⟨y4147, e4148, h⟩ := bind_ex h
                  refine CallOk.of (spec_shNegAll_ct e4148) ?_
                  conv => whnf
                  refine Pick.no ?_
                  conv => whnf
                  refine Take.all (rfl) ?_
                  conv => whnf
                  obtain ⟨y4149, e4150, h⟩ := bind_ex h
                  refine CallOk.of (spec_shMost_ct e4150) ?_
                  conv => whnf
                  refine Pick.no ?_
                  conv => whnf
                  obtain ⟨y4151, e4152, h⟩ := bind_ex h
                  refine CallOk.of (spec_shNeg_ct e4152) ?_
                  conv => whnf
                  refine Pick.no ?_
                  conv => whnf
                  obtain ⟨y4153, e4154, h⟩ := bind_ex h
                  refine CallOk.of (spec_shCmp_ct e4154) ?_
                  conv => whnf
                  refine splD (fun g4155 => ?_) (fun g4155 => ?_)
                  · replace h := iteP h g4155
                    conv => whnf
                    refine CutK.norm [0, 1, 4, 6, 7, 8, 9] [256, 384] ?_
                    conv => whnf
                    refine splF ?_
                    conv => whnf
                    refine splF ?_
                    conv => whnf
                    refine Pick.no ?_
                    conv => whnf
                    obtain ⟨y4156, e4157, h⟩ := bind_ex h
                    refine CallOk.of (spec_shWalk_step_ct e4157) ?_
                    conv => whnf
                    refine spl (fun g4158 => ?_) (fun g4158 => ?_)
                    · replace h := iteT h g4158
                      conv => whnf
                      refine spl (fun g4159 => ?_) (fun g4159 => ?_)
                      · replace h := iteT h g4159
                        conv => whnf
                        refine CutK.norm [0, 1, 4, 6, 7] [256, 384] ?_
                        conv => whnf
                        exact LoopOk.back (spec_shSimplest_l0_3_ct  n _ _ _ _ _ _ _ _ _ h) [some 256, some 384] [] ⟨⟨rfl, rfl⟩, ⟨rfl, ⟨rfl, rfl, rfl, trivial⟩, ⟨rfl, rfl, rfl, rfl, rfl, rfl, rfl, rfl, rfl, trivial⟩, trivial⟩, rfl, rfl, ⟨rfl, rfl⟩, ⟨rfl, rfl⟩, rfl, trivial⟩
                      · replace h := iteF h g4159
                        conv => whnf
                        refine CutK.norm [0, 1, 4, 6, 7] [256, 384] ?_
                        conv => whnf
                        exact LoopOk.back (spec_shSimplest_l0_3_ct  n _ _ _ _ _ _ _ _ _ h) [some 256, some 384] [] ⟨⟨rfl, rfl⟩, ⟨rfl, ⟨rfl, rfl, rfl, trivial⟩, ⟨rfl, rfl, rfl, rfl, rfl, rfl, rfl, rfl, rfl, trivial⟩, trivial⟩, rfl, rfl, ⟨rfl, rfl⟩, ⟨rfl, rfl⟩, rfl, trivial⟩
                    · replace h := iteF h g4158
                      conv => whnf
                      refine spl (fun g4160 => ?_) (fun g4160 => ?_)
                      · replace h := iteT h g4160
                        conv => whnf
                        refine CutK.norm [0, 1, 4, 6, 7] [256, 384] ?_
                        conv => whnf
                        exact LoopOk.back (spec_shSimplest_l0_3_ct  n _ _ _ _ _ _ _ _ _ h) [some 256, some 384] [] ⟨⟨rfl, rfl⟩, ⟨rfl, ⟨rfl, rfl, rfl, trivial⟩, ⟨rfl, rfl, rfl, rfl, rfl, rfl, rfl, rfl, rfl, trivial⟩, trivial⟩, rfl, rfl, ⟨rfl, rfl⟩, ⟨rfl, rfl⟩, rfl, trivial⟩
                      · replace h := iteF h g4160
                        conv => whnf
                        refine CutK.norm [0, 1, 4, 6, 7] [256, 384] ?_
                        conv => whnf
                        exact LoopOk.back (spec_shSimplest_l0_3_ct  n _ _ _ _ _ _ _ _ _ h) [some 256, some 384] [] ⟨⟨rfl, rfl⟩, ⟨rfl, ⟨rfl, rfl, rfl, trivial⟩, ⟨rfl, rfl, rfl, rfl, rfl, rfl, rfl, rfl, rfl, trivial⟩, trivial⟩, rfl, rfl, ⟨rfl, rfl⟩, ⟨rfl, rfl⟩, rfl, trivial⟩
                  · replace h := iteN h g4155
                    conv => whnf
                    refine CutK.norm [0, 1, 4, 6, 7, 8, 9] [256, 384] ?_
                    conv => whnf
                    cases h
                    exact Done.of [] [] rfl rfl ⟨⟨rfl, rfl⟩, ⟨rfl, trivial⟩, ⟨⟨rfl, rfl, trivial⟩, rfl, trivial⟩, trivial⟩
                · replace h := iteN h g4146
                  conv => whnf
                  refine CutK.norm [0, 1, 4, 6, 7, 8, 9] [256, 384] ?_
                  conv => whnf
                  cases h
                  exact Done.of [] [] rfl rfl ⟨⟨rfl, rfl⟩, ⟨rfl, trivial⟩, ⟨⟨rfl, rfl, trivial⟩, rfl, trivial⟩, trivial⟩
            · replace h := iteN h g4120
              conv => whnf
              refine CutK.norm [0, 1, 4, 6, 7, 8] [256, 384] ?_
              conv => whnf
              refine splD (fun g4161 => ?_) (fun g4161 => ?_)
              · replace h := iteP h g4161
                conv => whnf
                refine Pick.no ?_
                conv => whnf
                obtain ⟨y4162, e4163, h⟩ := bind_ex h
                refine CallOk.of (spec_shNegAll_ct e4163) ?_
                conv => whnf
                refine Pick.no ?_
                conv => whnf
                refine Take.all (rfl) ?_
                conv => whnf
                obtain ⟨y4164, e4165, h⟩ := bind_ex h
                refine CallOk.of (spec_shMost_ct e4165) ?_
                conv => whnf
                refine Pick.no ?_
                conv => whnf
                obtain ⟨y4166, e4167, h⟩ := bind_ex h
                refine CallOk.of (spec_shNeg_ct e4167) ?_
                conv => whnf
                refine Pick.no ?_
                conv => whnf
                obtain ⟨y4168, e4169, h⟩ := bind_ex h
                refine CallOk.of (spec_shCmp_ct e4169) ?_
                conv => whnf
                refine splD (fun g4170 => ?_) (fun g4170 => ?_)
                · replace h := iteP h g4170
                  conv => whnf
                  refine CutK.norm [0, 1, 4, 6, 7, 8, 9] [256, 384] ?_
                  conv => whnf
                  refine splF ?_
                  conv => whnf
                  refine splF ?_
                  conv => whnf
                  refine Pick.no ?_
                  conv => whnf
                  obtain ⟨y4171, e4172, h⟩ := bind_ex h
                  refine CallOk.of (spec_shWalk_step_ct e4172) ?_
                  conv => whnf
                  refine spl (fun g4173 => ?_) (fun g4173 => ?_)
                  · replace h := iteT h g4173
                    conv => whnf
                    refine spl (fun g4174 => ?_) (fun g4174 => ?_)
                    · replace h := iteT h g4174
                      conv => whnf
                      refine CutK.norm [0, 1, 4, 6, 7] [256, 384] ?_
                      conv => whnf
                      exact LoopOk.back (spec_shSimplest_l0_3_ct  n _ _ _ _ _ _ _ _ _ h) [some 256, some 384] [] ⟨⟨rfl, rfl⟩, ⟨rfl, ⟨rfl, rfl, rfl, trivial⟩, ⟨rfl, rfl, rfl, rfl, rfl, rfl, rfl, rfl, rfl, trivial⟩, trivial⟩, rfl, rfl, ⟨rfl, rfl⟩, ⟨rfl, rfl⟩, rfl, trivial⟩
                    · replace h := iteF h g4174
                      conv => whnf
                      refine CutK.norm [0, 1, 4, 6, 7] [256, 384] ?_
                      conv => whnf
                      exact LoopOk.back (spec_shSimplest_l0_3_ct  n _ _ _ _ _ _ _ _ _ h) [some 256, some 384] [] ⟨⟨rfl, rfl⟩, ⟨rfl, ⟨rfl, rfl, rfl, trivial⟩, ⟨rfl, rfl, rfl, rfl, rfl, rfl, rfl, rfl, rfl, trivial⟩, trivial⟩, rfl, rfl, ⟨rfl, rfl⟩, ⟨rfl, rfl⟩, rfl, trivial⟩
                  · replace h := iteF h g4173
                    conv => whnf
                    refine spl (fun g4175 => ?_) (fun g4175 => ?_)
                    · replace h := iteT h g4175
                      conv => whnf
                      refine CutK.norm [0, 1, 4, 6, 7] [256, 384] ?_
                      conv => whnf
                      exact LoopOk.back (spec_shSimplest_l0_3_ct  n _ _ _ _ _ _ _ _ _ h) [some 256, some 384] [] ⟨⟨rfl, rfl⟩, ⟨rfl, ⟨rfl, rfl, rfl, trivial⟩, ⟨rfl, rfl, rfl, rfl, rfl, rfl, rfl, rfl, rfl, trivial⟩, trivial⟩, rfl, rfl, ⟨rfl, rfl⟩, ⟨rfl, rfl⟩, rfl, trivial⟩
                    · replace h := iteF h g4175
                      conv => whnf
                      refine CutK.norm [0, 1, 4, 6, 7] [256, 384] ?_
                      conv => whnf
                      exact LoopOk.back (spec_shSimplest_l0_3_ct  n _ _ _ _ _ _ _ _ _ h) [some 256, some 384] [] ⟨⟨rfl, rfl⟩, ⟨rfl, ⟨rfl, rfl, rfl, trivial⟩, ⟨rfl, rfl, rfl, rfl, rfl, rfl, rfl, rfl, rfl, trivial⟩, trivial⟩, rfl, rfl, ⟨rfl, rfl⟩, ⟨rfl, rfl⟩, rfl, trivial⟩
                · replace h := iteN h g4170
                  conv => whnf
                  refine CutK.norm [0, 1, 4, 6, 7, 8, 9] [256, 384] ?_
                  conv => whnf
                  cases h
                  exact Done.of [] [] rfl rfl ⟨⟨rfl, rfl⟩, ⟨rfl, trivial⟩, ⟨⟨rfl, rfl, trivial⟩, rfl, trivial⟩, trivial⟩
              · replace h := iteN h g4161
                conv => whnf
                refine CutK.norm [0, 1, 4, 6, 7, 8, 9] [256, 384] ?_
                conv => whnf
                cases h
                exact Done.of [] [] rfl rfl ⟨⟨rfl, rfl⟩, ⟨rfl, trivial⟩, ⟨⟨rfl, rfl, trivial⟩, rfl, trivial⟩, trivial⟩
          · replace h := iteN h g4119
            conv => whnf
            exact ⟨_, _, [some 256], [], ⟨rfl, h, rfl, rfl⟩, ⟨⟨rfl, rfl⟩, ⟨rfl, ⟨rfl, rfl, rfl, trivial⟩, trivial⟩, ⟨rfl, rfl⟩, trivial⟩⟩
        · replace h := condT h
          refine LoopOk.step ?_
          conv => whnf
          refine splD (fun g4176 => ?_) (fun g4176 => ?_)
          · replace h := iteP h g4176
            conv => whnf
            refine splD (fun g4177 => ?_) (fun g4177 => ?_)
            · replace h := iteP h g4177
              conv => whnf
              refine Pick.no ?_
              conv => whnf
              obtain ⟨y4178, e4179, h⟩ := bind_ex h
              refine CallOk.of (spec_shMost_ct e4179) ?_
              conv => whnf
              refine Pick.no ?_
              conv => whnf
              obtain ⟨y4180, e4181, h⟩ := bind_ex h
              refine CallOk.of (spec_shCmp_ct e4181) ?_
              conv => whnf
              refine splD (fun g4182 => ?_) (fun g4182 => ?_)
              · replace h := iteP h g4182
                conv => whnf
                refine CutK.norm [0, 1, 4, 6, 7, 8] [256, 384] ?_
                conv => whnf
                refine splD (fun g4183 => ?_) (fun g4183 => ?_)
                · replace h := iteP h g4183
                  conv => whnf
                  refine Pick.no ?_
                  conv => whnf
                  obtain ⟨y4184, e4185, h⟩ := bind_ex h
                  refine CallOk.of (spec_shNegAll_ct e4185) ?_
                  conv => whnf
                  refine Pick.no ?_
                  conv => whnf
                  refine Take.all (rfl) ?_
                  conv => whnf
                  obtain ⟨y4186, e4187, h⟩ := bind_ex h
                  refine CallOk.of (spec_shMost_ct e4187) ?_
                  conv => whnf
                  refine Pick.no ?_
                  conv => whnf
                  obtain ⟨y4188, e4189, h⟩ := bind_ex h
                  refine CallOk.of (spec_shNeg_ct e4189) ?_
                  conv => whnf
                  refine Pick.no ?_
                  conv => whnf
                  obtain ⟨y4190, e4191, h⟩ := bind_ex h
                  refine CallOk.of (spec_shCmp_ct e4191) ?_
                  conv => whnf
                  refine splD (fun g4192 => ?_) (fun g4192 => ?_)
                  · replace h := iteP h g4192
                    conv => whnf
                    refine CutK.norm [0, 1, 4, 6, 7, 8, 9] [256, 384] ?_
                    conv => whnf
                    cases h
                    exact Done.of [] [] rfl rfl ⟨⟨rfl, rfl⟩, ⟨rfl, trivial⟩, ⟨⟨rfl, rfl, trivial⟩, rfl, trivial⟩, trivial⟩
                  · replace h := iteN h g4192
                    conv => whnf
                    refine CutK.norm [0, 1, 4, 6, 7, 8, 9] [256, 384] ?_
                    conv => whnf
                    refine splF ?_
                    conv => whnf
                    refine splT ?_
                    conv => whnf
                    refine Pick.no ?_
                    conv => whnf
                    obtain ⟨y4193, e4194, h⟩ := bind_ex h
                    refine CallOk.of (spec_shWalk_step_ct e4194) ?_
                    conv => whnf
                    refine spl (fun g4195 => ?_) (fun g4195 => ?_)
                    · replace h := iteT h g4195
                      conv => whnf
                      refine spl (fun g4196 => ?_) (fun g4196 => ?_)
                      · replace h := iteT h g4196
                        conv => whnf
                        refine CutK.norm [0, 1, 4, 6, 7] [256, 384] ?_
                        conv => whnf
                        exact LoopOk.back (spec_shSimplest_l0_3_ct  n _ _ _ _ _ _ _ _ _ h) [some 256, some 384] [] ⟨⟨rfl, rfl⟩, ⟨rfl, ⟨rfl, rfl, rfl, trivial⟩, ⟨rfl, rfl, rfl, rfl, rfl, rfl, rfl, rfl, rfl, trivial⟩, trivial⟩, rfl, rfl, ⟨rfl, rfl⟩, ⟨rfl, rfl⟩, rfl, trivial⟩
                      · replace h := iteF h g4196
                        conv => whnf
                        refine CutK.norm [0, 1, 4, 6, 7] [256, 384] ?_
                        conv => whnf
                        exact LoopOk.back (spec_shSimplest_l0_3_ct  n _ _ _ _ _ _ _ _ _ h) [some 256, some 384] [] ⟨⟨rfl, rfl⟩, ⟨rfl, ⟨rfl, rfl, rfl, trivial⟩, ⟨rfl, rfl, rfl, rfl, rfl, rfl, rfl, rfl, rfl, trivial⟩, trivial⟩, rfl, rfl, ⟨rfl, rfl⟩, ⟨rfl, rfl⟩, rfl, trivial⟩
                    · replace h := iteF h g4195
                      conv => whnf
                      refine spl (fun g4197 => ?_) (fun g4197 => ?_)
                      · replace h := iteT h g4197
                        conv => whnf
                        refine CutK.norm [0, 1, 4, 6, 7] [256, 384] ?_
                        conv => whnf
                        exact LoopOk.back (spec_shSimplest_l0_3_ct  n _ _ _ _ _ _ _ _ _ h) [some 256, some 384] [] ⟨⟨rfl, rfl⟩, ⟨rfl, ⟨rfl, rfl, rfl, trivial⟩, ⟨rfl, rfl, rfl, rfl, rfl, rfl, rfl, rfl, rfl, trivial⟩, trivial⟩, rfl, rfl, ⟨rfl, rfl⟩, ⟨rfl, rfl⟩, rfl, trivial⟩
                      · replace h := iteF h g4197
                        conv => whnf
                        refine CutK.norm [0, 1, 4, 6, 7] [256, 384] ?_
                        conv => whnf
                        exact LoopOk.back (spec_shSimplest_l0_3_ct  n _ _ _ _ _ _ _ _ _ h) [some 256, some 384] [] ⟨⟨rfl, rfl⟩, ⟨rfl, ⟨rfl, rfl, rfl, trivial⟩, ⟨rfl, rfl, rfl, rfl, rfl, rfl, rfl, rfl, rfl, trivial⟩, trivial⟩, rfl, rfl, ⟨rfl, rfl⟩, ⟨rfl, rfl⟩, rfl, trivial⟩
                · replace h := iteN h g4183
                  conv => whnf
                  refine CutK.norm [0, 1, 4, 6, 7, 8, 9] [256, 384] ?_
                  conv => whnf
                  refine splF ?_
                  conv => whnf
                  refine splT ?_
                  conv => whnf
                  refine Pick.no ?_
                  conv => whnf
                  obtain ⟨y4198, e4199, h⟩ := bind_ex h
                  refine CallOk.of (spec_shWalk_step_ct e4199) ?_
                  conv => whnf
                  refine spl (fun g4200 => ?_) (fun g4200 => ?_)
                  · replace h := iteT h g4200
                    conv => whnf
                    refine spl (fun g4201 => ?_) (fun g4201 => ?_)
                    · replace h := iteT h g4201
                      conv => whnf
                      refine CutK.norm [0, 1, 4, 6, 7] [256, 384] ?_
                      conv => whnf
                      exact LoopOk.back (spec_shSimplest_l0_3_ct  n _ _ _ _ _ _ _ _ _ h) [some 256, some 384] [] ⟨⟨rfl, rfl⟩, ⟨rfl, ⟨rfl, rfl, rfl, trivial⟩, ⟨rfl, rfl, rfl, rfl, rfl, rfl, rfl, rfl, rfl, trivial⟩, trivial⟩, rfl, rfl, ⟨rfl, rfl⟩, ⟨rfl, rfl⟩, rfl, trivial⟩
                    · replace h := iteF h g4201
                      conv => whnf
                      refine CutK.norm [0, 1, 4, 6, 7] [256, 384] ?_
                      conv => whnf
                      exact LoopOk.back (spec_shSimplest_l0_3_ct  n _ _ _ _ _ _ _ _ _ h) [some 256, some 384] [] ⟨⟨rfl, rfl⟩, ⟨rfl, ⟨rfl, rfl, rfl, trivial⟩, ⟨rfl, rfl, rfl, rfl, rfl, rfl, rfl, rfl, rfl, trivial⟩, trivial⟩, rfl, rfl, ⟨rfl, rfl⟩, ⟨rfl, rfl⟩, rfl, trivial⟩
                  · replace h := iteF h g4200
                    conv => whnf
                    refine spl (fun g4202 => ?_) (fun g4202 => ?_)
                    · replace h := iteT h g4202
                      conv => whnf
                      refine CutK.norm [0, 1, 4, 6, 7] [256, 384] ?_
                      conv => whnf
                      exact LoopOk.back (spec_shSimplest_l0_3_ct  n _ _ _ _ _ _ _ _ _ h) [some 256, some 384] [] ⟨⟨rfl, rfl⟩, ⟨rfl, ⟨rfl, rfl, rfl, trivial⟩, ⟨rfl, rfl, rfl, rfl, rfl, rfl, rfl, rfl, rfl, trivial⟩, trivial⟩, rfl, rfl, ⟨rfl, rfl⟩, ⟨rfl, rfl⟩, rfl, trivial⟩
                    · replace h := iteF h g4202
                      conv => whnf
                      refine CutK.norm [0, 1, 4, 6, 7] [256, 384] ?_
                      conv => whnf
                      exact LoopOk.back (spec_shSimplest_l0_3_ct  n _ _ _ _ _ _ _ _ _ h) [some 256, some 384] [] ⟨⟨rfl, rfl⟩, ⟨rfl, ⟨rfl, rfl, rfl, trivial⟩, ⟨rfl, rfl, rfl, rfl, rfl, rfl, rfl, rfl, rfl, trivial⟩, trivial⟩, rfl, rfl, ⟨rfl, rfl⟩, ⟨rfl, rfl⟩, rfl, trivial⟩
              · replace h := iteN h g4182
                conv => whnf
                refine CutK.norm [0, 1, 4, 6, 7, 8] [256, 384] ?_
                conv => whnf
                refine splD (fun g4203 => ?_) (fun g4203 => ?_)
                · replace h := iteP h g4203
                  conv => whnf
                  refine Pick.no ?_
                  conv => whnf
                  obtain ⟨y4204, e4205, h⟩ := bind_ex h
                  refine CallOk.of (spec_shNegAll_ct e4205) ?_
                  conv => whnf
                  refine Pick.no ?_
                  conv => whnf
                  refine Take.all (rfl) ?_
                  conv => whnf
                  obtain ⟨y4206, e4207, h⟩ := bind_ex h
                  refine CallOk.of (spec_shMost_ct e4207) ?_
                  conv => whnf
                  refine Pick.no ?_
                  conv => whnf
                  obtain ⟨y4208, e4209, h⟩ := bind_ex h
                  refine CallOk.of (spec_shNeg_ct e4209) ?_
                  conv => whnf
                  refine Pick.no ?_
                  conv => whnf
                  obtain ⟨y4210, e4211, h⟩ := bind_ex h
                  refine CallOk.of (spec_shCmp_ct e4211) ?_
                  conv => whnf
                  refine splD (fun g4212 => ?_) (fun g4212 => ?_)
                  · replace h := iteP h g4212
                    conv => whnf
                    refine CutK.norm [0, 1, 4, 6, 7, 8, 9] [256, 384] ?_
                    conv => whnf
                    refine splF ?_
                    conv => whnf
                    refine splT ?_
                    conv => whnf
                    refine Pick.no ?_
                    conv => whnf
                    obtain ⟨y4213, e4214, h⟩ := bind_ex h
                    refine CallOk.of (spec_shWalk_step_ct e4214) ?_
                    conv => whnf
                    refine spl (fun g4215 => ?_) (fun g4215 => ?_)
                    · replace h := iteT h g4215
                      conv => whnf
                      refine spl (fun g4216 => ?_) (fun g4216 => ?_)
                      · replace h := iteT h g4216
                        conv => whnf
                        refine CutK.norm [0, 1, 4, 6, 7] [256, 384] ?_
                        conv => whnf
                        exact LoopOk.back (spec_shSimplest_l0_3_ct  n _ _ _ _ _ _ _ _ _ h) [some 256, some 384] [] ⟨⟨rfl, rfl⟩, ⟨rfl, ⟨rfl, rfl, rfl, trivial⟩, ⟨rfl, rfl, rfl, rfl, rfl, rfl, rfl, rfl, rfl, trivial⟩, trivial⟩, rfl, rfl, ⟨rfl, rfl⟩, ⟨rfl, rfl⟩, rfl, trivial⟩
                      · replace h := iteF h g4216
                        conv => whnf
                        refine CutK.norm [0, 1, 4, 6, 7] [256, 384] ?_
                        conv => whnf
                        exact LoopOk.back (spec_shSimplest_l0_3_ct  n _ _ _ _ _ _ _ _ _ h) [some 256, some 384] [] ⟨⟨rfl, rfl⟩, ⟨rfl, ⟨rfl, rfl, rfl, trivial⟩, ⟨rfl, rfl, rfl, rfl, rfl, rfl, rfl, rfl, rfl, trivial⟩, trivial⟩, rfl, rfl, ⟨rfl, rfl⟩, ⟨rfl, rfl⟩, rfl, trivial⟩
                    · replace h := iteF h g4215
                      conv => whnf
                      refine spl (fun g4217 => ?_) (fun g4217 => ?_)
                      · replace h := iteT h g4217
                        conv => whnf
                        refine CutK.norm [0, 1, 4, 6, 7] [256, 384] ?_
                        conv => whnf
                        exact LoopOk.back (spec_shSimplest_l0_3_ct  n _ _ _ _ _ _ _ _ _ h) [some 256, some 384] [] ⟨⟨rfl, rfl⟩, ⟨rfl, ⟨rfl, rfl, rfl, trivial⟩, ⟨rfl, rfl, rfl, rfl, rfl, rfl, rfl, rfl, rfl, trivial⟩, trivial⟩, rfl, rfl, ⟨rfl, rfl⟩, ⟨rfl, rfl⟩, rfl, trivial⟩
                      · replace h := iteF h g4217
                        conv => whnf
                        refine CutK.norm [0, 1, 4, 6, 7] [256, 384] ?_
                        conv => whnf
                        exact LoopOk.back (spec_shSimplest_l0_3_ct  n _ _ _ _ _ _ _ _ _ h) [some 256, some 384] [] ⟨⟨rfl, rfl⟩, ⟨rfl, ⟨rfl, rfl, rfl, trivial⟩, ⟨rfl, rfl, rfl, rfl, rfl, rfl, rfl, rfl, rfl, trivial⟩, trivial⟩, rfl, rfl, ⟨rfl, rfl⟩, ⟨rfl, rfl⟩, rfl, trivial⟩
                  · replace h := iteN h g4212
                    conv => whnf
                    refine CutK.norm [0, 1, 4, 6, 7, 8, 9] [256, 384] ?_
                    conv => whnf
                    cases h
                    exact Done.of [] [] rfl rfl ⟨⟨rfl, rfl⟩, ⟨rfl, trivial⟩, ⟨⟨rfl, rfl, trivial⟩, rfl, trivial⟩, trivial⟩
                · replace h := iteN h g4203
                  conv => whnf
                  refine CutK.norm [0, 1, 4, 6, 7, 8, 9] [256, 384] ?_
                  conv => whnf
                  cases h
                  exact Done.of [] [] rfl rfl ⟨⟨rfl, rfl⟩, ⟨rfl, trivial⟩, ⟨⟨rfl, rfl, trivial⟩, rfl, trivial⟩, trivial⟩
            · replace h := iteN h g4177
              conv => whnf
              refine CutK.norm [0, 1, 4, 6, 7, 8] [256, 384] ?_
              conv => whnf
              refine splD (fun g4218 => ?_) (fun g4218 => ?_)
              · replace h := iteP h g4218
                conv => whnf
                refine Pick.no ?_
                conv => whnf
                obtain ⟨y4219, e4220, h⟩ := bind_ex h
                refine CallOk.of (spec_shNegAll_ct e4220) ?_
                conv => whnf
                refine Pick.no ?_
                conv => whnf
                refine Take.all (rfl) ?_
                conv => whnf
                obtain ⟨y4221, e4222, h⟩ := bind_ex h
                refine CallOk.of (spec_shMost_ct e4222) ?_
                conv => whnf
                refine Pick.no ?_
                conv => whnf
                obtain ⟨y4223, e4224, h⟩ := bind_ex h
                refine CallOk.of (spec_shNeg_ct e4224) ?_
                conv => whnf
                refine Pick.no ?_
                conv => whnf
                obtain ⟨y4225, e4226, h⟩ := bind_ex h
                refine CallOk.of (spec_shCmp_ct e4226) ?_
                conv => whnf
                refine splD (fun g4227 => ?_) (fun g4227 => ?_)
                · replace h := iteP h g4227
                  conv => whnf
                  refine CutK.norm [0, 1, 4, 6, 7, 8, 9] [256, 384] ?_
                  conv => whnf
                  refine splF ?_
                  conv => whnf
                  refine splT ?_
                  conv => whnf
                  refine Pick.no ?_
                  conv => whnf
                  obtain ⟨y4228, e4229, h⟩ := bind_ex h
                  refine CallOk.of (spec_shWalk_step_ct e4229) ?_
                  conv => whnf
                  refine spl (fun g4230 => ?_) (fun g4230 => ?_)
                  · replace h := iteT h g4230
                    conv => whnf
                    refine spl (fun g4231 => ?_) (fun g4231 => ?_)
                    · replace h := iteT h g4231
                      conv => whnf
                      refine CutK.norm [0, 1, 4, 6, 7] [256, 384] ?_
                      conv => whnf
                      exact LoopOk.back (spec_shSimplest_l0_3_ct  n _ _ _ _ _ _ _ _ _ h) [some 256, some 384] [] ⟨⟨rfl, rfl⟩, ⟨rfl, ⟨rfl, rfl, rfl, trivial⟩, ⟨rfl, rfl, rfl, rfl, rfl, rfl, rfl, rfl, rfl, trivial⟩, trivial⟩, rfl, rfl, ⟨rfl, rfl⟩, ⟨rfl, rfl⟩, rfl, trivial⟩
                    · replace h := iteF h g4231
                      conv => whnf
                      refine CutK.norm [0, 1, 4, 6, 7] [256, 384] ?_
                      conv => whnf
                      exact LoopOk.back (spec_shSimplest_l0_3_ct  n _ _ _ _ _ _ _ _ _ h) [some 256, some 384] [] ⟨⟨rfl, rfl⟩, ⟨rfl, ⟨rfl, rfl, rfl, trivial⟩, ⟨rfl, rfl, rfl, rfl, rfl, rfl, rfl, rfl, rfl, trivial⟩, trivial⟩, rfl, rfl, ⟨rfl, rfl⟩, ⟨rfl, rfl⟩, rfl, trivial⟩
                  · replace h := iteF h g4230
                    conv => whnf
                    refine spl (fun g4232 => ?_) (fun g4232 => ?_)
                    · replace h := iteT h g4232
                      conv => whnf
                      refine CutK.norm [0, 1, 4, 6, 7] [256, 384] ?_
                      conv => whnf
                      exact LoopOk.back (spec_shSimplest_l0_3_ct  n _ _ _ _ _ _ _ _ _ h) [some 256, some 384] [] ⟨⟨rfl, rfl⟩, ⟨rfl, ⟨rfl, rfl, rfl, trivial⟩, ⟨rfl, rfl, rfl, rfl, rfl, rfl, rfl, rfl, rfl, trivial⟩, trivial⟩, rfl, rfl, ⟨rfl, rfl⟩, ⟨rfl, rfl⟩, rfl, trivial⟩
                    · replace h := iteF h g4232
                      conv => whnf
                      refine CutK.norm [0, 1, 4, 6, 7] [256, 384] ?_
                      conv => whnf
                      exact LoopOk.back (spec_shSimplest_l0_3_ct  n _ _ _ _ _ _ _ _ _ h) [some 256, some 384] [] ⟨⟨rfl, rfl⟩, ⟨rfl, ⟨rfl, rfl, rfl, trivial⟩, ⟨rfl, rfl, rfl, rfl, rfl, rfl, rfl, rfl, rfl, trivial⟩, trivial⟩, rfl, rfl, ⟨rfl, rfl⟩, ⟨rfl, rfl⟩, rfl, trivial⟩
                · replace h := iteN h g4227
                  conv => whnf
                  refine CutK.norm [0, 1, 4, 6, 7, 8, 9] [256, 384] ?_
                  conv => whnf
                  cases h
                  exact Done.of [] [] rfl rfl ⟨⟨rfl, rfl⟩, ⟨rfl, trivial⟩, ⟨⟨rfl, rfl, trivial⟩, rfl, trivial⟩, trivial⟩
              · replace h := iteN h g4218
                conv => whnf
                refine CutK.norm [0, 1, 4, 6, 7, 8, 9] [256, 384] ?_
                conv => whnf
                cases h
                exact Done.of [] [] rfl rfl ⟨⟨rfl, rfl⟩, ⟨rfl, trivial⟩, ⟨⟨rfl, rfl, trivial⟩, rfl, trivial⟩, trivial⟩
          · replace h := iteN h g4176
            conv => whnf
            exact ⟨_, _, [some 256], [], ⟨rfl, h, rfl, rfl⟩, ⟨⟨rfl, rfl⟩, ⟨rfl, ⟨rfl, rfl, rfl, trivial⟩, trivial⟩, ⟨rfl, rfl⟩, trivial⟩⟩
      · replace h := condT h
        cases v3626
        · replace h := condF h
          refine LoopOk.step ?_
          conv => whnf
          refine splD (fun g4233 => ?_) (fun g4233 => ?_)
          · replace h := iteP h g4233
            conv => whnf
            refine splD (fun g4234 => ?_) (fun g4234 => ?_)
            · replace h := iteP h g4234
              conv => whnf
              refine Pick.no ?_
              conv => whnf
              obtain ⟨y4235, e4236, h⟩ := bind_ex h
              refine CallOk.of (spec_shMost_ct e4236) ?_
              conv => whnf
              refine Pick.no ?_
              conv => whnf
              obtain ⟨y4237, e4238, h⟩ := bind_ex h
              refine CallOk.of (spec_shCmp_ct e4238) ?_
              conv => whnf
              refine splD (fun g4239 => ?_) (fun g4239 => ?_)
              · replace h := iteP h g4239
                conv => whnf
                refine CutK.norm [0, 1, 4, 6, 7, 8] [256, 384] ?_
                conv => whnf
                refine splD (fun g4240 => ?_) (fun g4240 => ?_)
                · replace h := iteP h g4240
                  conv => whnf
                  refine Pick.no ?_
                  conv => whnf
                  obtain ⟨y4241, e4242, h⟩ := bind_ex h
                  refine CallOk.of (spec_shNegAll_ct e4242) ?_
                  conv => whnf
                  refine Pick.no ?_
                  conv => whnf
                  refine Take.all (rfl) ?_
                  conv => whnf
                  obtain ⟨y4243, e4244, h⟩ := bind_ex h
                  refine CallOk.of (spec_shMost_ct e4244) ?_
                  conv => whnf
                  refine Pick.no ?_
                  conv => whnf
                  obtain ⟨y4245, e4246, h⟩ := bind_ex h
                  refine CallOk.of (spec_shNeg_ct e4246) ?_
                  conv => whnf
                  refine Pick.no ?_
                  conv => whnf
                  obtain ⟨y4247, e4248, h⟩ := bind_ex h
                  refine CallOk.of (spec_shCmp_ct e4248) ?_
                  conv => whnf
                  refine splD (fun g4249 => ?_) (fun g4249 => ?_)
                  · replace h := iteP h g4249
                    conv => whnf
                    refine CutK.norm [0, 1, 4, 6, 7, 8, 9] [256, 384] ?_
                    conv => whnf
                    cases h
                    exact Done.of [] [] rfl rfl ⟨⟨rfl, rfl⟩, ⟨rfl, trivial⟩, ⟨⟨rfl, rfl, trivial⟩, rfl, trivial⟩, trivial⟩
                  · replace h := iteN h g4249
                    conv => whnf
                    refine CutK.norm [0, 1, 4, 6, 7, 8, 9] [256, 384] ?_
                    conv => whnf
                    refine splT ?_
                    conv => whnf
                    refine splF ?_
                    conv => whnf
                    refine Pick.no ?_
                    conv => whnf
                    obtain ⟨y4250, e4251, h⟩ := bind_ex h
                    refine CallOk.of (spec_shWalk_step_ct e4251) ?_
                    conv => whnf
                    refine spl (fun g4252 => ?_) (fun g4252 => ?_)
                    · replace h := iteT h g4252
                      conv => whnf
                      refine spl (fun g4253 => ?_) (fun g4253 => ?_)
                      · replace h := iteT h g4253
                        conv => whnf
                        refine CutK.norm [0, 1, 4, 6, 7] [256, 384] ?_
                        conv => whnf
                        exact LoopOk.back (spec_shSimplest_l0_3_ct  n _ _ _ _ _ _ _ _ _ h) [some 256, some 384] [] ⟨⟨rfl, rfl⟩, ⟨rfl, ⟨rfl, rfl, rfl, trivial⟩, ⟨rfl, rfl, rfl, rfl, rfl, rfl, rfl, rfl, rfl, trivial⟩, trivial⟩, rfl, rfl, ⟨rfl, rfl⟩, ⟨rfl, rfl⟩, rfl, trivial⟩
                      · replace h := iteF h g4253
                        conv => whnf
                        refine CutK.norm [0, 1, 4, 6, 7] [256, 384] ?_
                        conv => whnf
                        exact LoopOk.back (spec_shSimplest_l0_3_ct  n _ _ _ _ _ _ _ _ _ h) [some 256, some 384] [] ⟨⟨rfl, rfl⟩, ⟨rfl, ⟨rfl, rfl, rfl, trivial⟩, ⟨rfl, rfl, rfl, rfl, rfl, rfl, rfl, rfl, rfl, trivial⟩, trivial⟩, rfl, rfl, ⟨rfl, rfl⟩, ⟨rfl, rfl⟩, rfl, trivial⟩
                    · replace h := iteF h g4252
                      conv => whnf
                      refine spl (fun g4254 => ?_) (fun g4254 => ?_)
                      · replace h := iteT h g4254
                        conv => whnf
                        refine CutK.norm [0, 1, 4, 6, 7] [256, 384] ?_
                        conv => whnf
                        exact LoopOk.back (spec_shSimplest_l0_3_ct  n _ _ _ _ _ _ _ _ _ h) [some 256, some 384] [] ⟨⟨rfl, rfl⟩, ⟨rfl, ⟨rfl, rfl, rfl, trivial⟩, ⟨rfl, rfl, rfl, rfl, rfl, rfl, rfl, rfl, rfl, trivial⟩, trivial⟩, rfl, rfl, ⟨rfl, rfl⟩, ⟨rfl, rfl⟩, rfl, trivial⟩
                      · replace h := iteF h g4254
                        conv => whnf
                        refine CutK.norm [0, 1, 4, 6, 7] [256, 384] ?_
                        conv => whnf
                        exact LoopOk.back (spec_shSimplest_l0_3_ct  n _ _ _ _ _ _ _ _ _ h) [some 256, some 384] [] ⟨⟨rfl, rfl⟩, ⟨rfl, ⟨rfl, rfl, rfl, trivial⟩, ⟨rfl, rfl, rfl, rfl, rfl, rfl, rfl, rfl, rfl, trivial⟩, trivial⟩, rfl, rfl, ⟨rfl, rfl⟩, ⟨rfl, rfl⟩, rfl, trivial⟩
                · replace h := iteN h g4240
                  conv => whnf
                  refine CutK.norm [0, 1, 4, 6, 7, 8, 9] [256, 384] ?_
                  conv => whnf
                  refine splT ?_
                  conv => whnf
                  refine splF ?_
                  conv => whnf
                  refine Pick.no ?_
                  conv => whnf
                  obtain ⟨y4255, e4256, h⟩ := bind_ex h
                  refine CallOk.of (spec_shWalk_step_ct e4256) ?_
                  conv => whnf
                  refine spl (fun g4257 => ?_) (fun g4257 => ?_)
                  · replace h := iteT h g4257
                    conv => whnf
                    refine spl (fun g4258 => ?_) (fun g4258 => ?_)
                    · replace h := iteT h g4258
                      conv => whnf
                      refine CutK.norm [0, 1, 4, 6, 7] [256, 384] ?_
                      conv => whnf
                      exact LoopOk.back (spec_shSimplest_l0_3_ct  n _ _ _ _ _ _ _ _ _ h) [some 256, some 384] [] ⟨⟨rfl, rfl⟩, ⟨rfl, ⟨rfl, rfl, rfl, trivial⟩, ⟨rfl, rfl, rfl, rfl, rfl, rfl, rfl, rfl, rfl, trivial⟩, trivial⟩, rfl, rfl, ⟨rfl, rfl⟩, ⟨rfl, rfl⟩, rfl, trivial⟩
                    · replace h := iteF h g4258
                      conv => whnf
                      refine CutK.norm [0, 1, 4, 6, 7] [256, 384] ?_
                      conv => whnf
                      exact LoopOk.back (spec_shSimplest_l0_3_ct  n _ _ _ _ _ _ _ _ _ h) [some 256, some 384] [] ⟨⟨rfl, rfl⟩, ⟨rfl, ⟨rfl, rfl, rfl, trivial⟩, ⟨rfl, rfl, rfl, rfl, rfl, rfl, rfl, rfl, rfl, trivial⟩, trivial⟩, rfl, rfl, ⟨rfl, rfl⟩, ⟨rfl, rfl⟩, rfl, trivial⟩
                  · replace h := iteF h g4257
                    conv => whnf
                    refine spl (fun g4259 => ?_) (fun g4259 => ?_)
                    · replace h := iteT h g4259
                      conv => whnf
                      refine CutK.norm [0, 1, 4, 6, 7] [256, 384] ?_
                      conv => whnf
                      exact LoopOk.back (spec_shSimplest_l0_3_ct  n _ _ _ _ _ _ _ _ _ h) [some 256, some 384] [] ⟨⟨rfl, rfl⟩, ⟨rfl, ⟨rfl, rfl, rfl, trivial⟩, ⟨rfl, rfl, rfl, rfl, rfl, rfl, rfl, rfl, rfl, trivial⟩, trivial⟩, rfl, rfl, ⟨rfl, rfl⟩, ⟨rfl, rfl⟩, rfl, trivial⟩
                    · replace h := iteF h g4259
                      conv => whnf
                      refine CutK.norm [0, 1, 4, 6, 7] [256, 384] ?_
                      conv => whnf
                      exact LoopOk.back (spec_shSimplest_l0_3_ct  n _ _ _ _ _ _ _ _ _ h) [some 256, some 384] [] ⟨⟨rfl, rfl⟩, ⟨rfl, ⟨rfl, rfl, rfl, trivial⟩, ⟨rfl, rfl, rfl, rfl, rfl, rfl, rfl, rfl, rfl, trivial⟩, trivial⟩, rfl, rfl, ⟨rfl, rfl⟩, ⟨rfl, rfl⟩, rfl, trivial⟩
              · replace h := iteN h g4239
                conv => whnf
                refine CutK.norm [0, 1, 4, 6, 7, 8] [256, 384] ?_
                conv => whnf
                refine splD (fun g4260 => ?_) (fun g4260 => ?_)
                · replace h := iteP h g4260
                  conv => whnf
                  refine Pick.no ?_
                  conv => whnf
                  obtain ⟨y4261, e4262, h⟩ := bind_ex h
                  refine CallOk.of (spec_shNegAll_ct e4262) ?_
                  conv => whnf
                  refine Pick.no ?_
                  conv => whnf
                  refine Take.all (rfl) ?_
                  conv => whnf
                  obtain ⟨y4263, e4264, h⟩ := bind_ex h
                  refine CallOk.of (spec_shMost_ct e4264) ?_
                  conv => whnf
                  refine Pick.no ?_
                  conv => whnf
                  obtain ⟨y4265, e4266, h⟩ := bind_ex h
                  refine CallOk.of (spec_shNeg_ct e4266) ?_
                  conv => whnf
                  refine Pick.no ?_
                  conv => whnf
                  obtain ⟨y4267, e4268, h⟩ := bind_ex h
                  refine CallOk.of (spec_shCmp_ct e4268) ?_
                  conv => whnf
                  refine splD (fun g4269 => ?_) (fun g4269 => ?_)
                  · replace h := iteP h g4269
                    conv => whnf
                    refine CutK.norm [0, 1, 4, 6, 7, 8, 9] [256, 384] ?_
                    conv => whnf
                    refine splT ?_
                    conv => whnf
                    refine splF ?_
                    conv => whnf
                    refine Pick.no ?_
                    conv => whnf
                    obtain ⟨y4270, e4271, h⟩ := bind_ex h
                    refine CallOk.of (spec_shWalk_step_ct e4271) ?_
                    conv => whnf
                    refine spl (fun g4272 => ?_) (fun g4272 => ?_)
                    · replace h := iteT h g4272
                      conv => whnf
                      refine spl (fun g4273 => ?_) (fun g4273 => ?_)
                      · replace h := iteT h g4273
                        conv => whnf
                        refine CutK.norm [0, 1, 4, 6, 7] [256, 384] ?_
                        conv => whnf
                        exact LoopOk.back (spec_shSimplest_l0_3_ct  n _ _ _ _ _ _ _ _ _ h) [some 256, some 384] [] ⟨⟨rfl, rfl⟩, ⟨rfl, ⟨rfl, rfl, rfl, trivial⟩, ⟨rfl, rfl, rfl, rfl, rfl, rfl, rfl, rfl, rfl, trivial⟩, trivial⟩, rfl, rfl, ⟨rfl, rfl⟩, ⟨rfl, rfl⟩, rfl, trivial⟩
                      · replace h := iteF h g4273
                        conv => whnf
                        refine CutK.norm [0, 1, 4, 6, 7] [256, 384] ?_
                        conv => whnf
                        exact LoopOk.back (spec_shSimplest_l0_3_ct  n _ _ _ _ _ _ _ _ _ h) [some 256, some 384] [] ⟨⟨rfl, rfl⟩, ⟨rfl, ⟨rfl, rfl, rfl, trivial⟩, ⟨rfl, rfl, rfl, rfl, rfl, rfl, rfl, rfl, rfl, trivial⟩, trivial⟩, rfl, rfl, ⟨rfl, rfl⟩, ⟨rfl, rfl⟩, rfl, trivial⟩
                    · replace h := iteF h g4272
                      conv => whnf
                      refine spl (fun g4274 => ?_) (fun g4274 => ?_)
                      · replace h := iteT h g4274
                        conv => whnf
                        refine CutK.norm [0, 1, 4, 6, 7] [256, 384] ?_
                        conv => whnf
                        exact LoopOk.back (spec_shSimplest_l0_3_ct  n _ _ _ _ _ _ _ _ _ h) [some 256, some 384] [] ⟨⟨rfl, rfl⟩, ⟨rfl, ⟨rfl, rfl, rfl, trivial⟩, ⟨rfl, rfl, rfl, rfl, rfl, rfl, rfl, rfl, rfl, trivial⟩, trivial⟩, rfl, rfl, ⟨rfl, rfl⟩, ⟨rfl, rfl⟩, rfl, trivial⟩
                      · replace h := iteF h g4274
                        conv => whnf
                        refine CutK.norm [0, 1, 4, 6, 7] [256, 384] ?_
                        conv => whnf
                        exact LoopOk.back (spec_shSimplest_l0_3_ct  n _ _ _ _ _ _ _ _ _ h) [some 256, some 384] [] ⟨⟨rfl, rfl⟩, ⟨rfl, ⟨rfl, rfl, rfl, trivial⟩, ⟨rfl, rfl, rfl, rfl, rfl, rfl, rfl, rfl, rfl, trivial⟩, trivial⟩, rfl, rfl, ⟨rfl, rfl⟩, ⟨rfl, rfl⟩, rfl, trivial⟩
                  · replace h := iteN h g4269
                    conv => whnf
                    refine CutK.norm [0, 1, 4, 6, 7, 8, 9] [256, 384] ?_
                    conv => whnf
                    cases h
                    exact Done.of [] [] rfl rfl ⟨⟨rfl, rfl⟩, ⟨rfl, trivial⟩, ⟨⟨rfl, rfl, trivial⟩, rfl, trivial⟩, trivial⟩
                · replace h := iteN h g4260
                  conv => whnf
                  refine CutK.norm [0, 1, 4, 6, 7, 8, 9] [256, 384] ?_
                  conv => whnf
                  cases h
                  exact Done.of [] [] rfl rfl ⟨⟨rfl, rfl⟩, ⟨rfl, trivial⟩, ⟨⟨rfl, rfl, trivial⟩, rfl, trivial⟩, trivial⟩
            · replace h := iteN h g4234
              conv => whnf
              refine CutK.norm [0, 1, 4, 6, 7, 8] [256, 384] ?_
              conv => whnf
              refine splD (fun g4275 => ?_) (fun g4275 => ?_)
              · replace h := iteP h g4275
                conv => whnf
                refine Pick.no ?_
                conv => whnf
                obtain ⟨y4276, e4277, h⟩ := bind_ex h
                refine CallOk.of (spec_shNegAll_ct e4277) ?_
                conv => whnf
                refine Pick.no ?_
                conv => whnf
                refine Take.all (rfl) ?_
                conv => whnf
                obtain ⟨y4278, e4279, h⟩ := bind_ex h
                refine CallOk.of (spec_shMost_ct e4279) ?_
                conv => whnf
                refine Pick.no ?_
                conv => whnf
                obtain ⟨y4280, e4281, h⟩ := bind_ex h
                refine CallOk.of (spec_shNeg_ct e4281) ?_
                conv => whnf
                refine Pick.no ?_
                conv => whnf
                obtain ⟨y4282, e4283, h⟩ := bind_ex h
                refine CallOk.of (spec_shCmp_ct e4283) ?_
                conv => whnf
                refine splD (fun g4284 => ?_) (fun g4284 => ?_)
                · replace h := iteP h g4284
                  conv => whnf
                  refine CutK.norm [0, 1, 4, 6, 7, 8, 9] [256, 384] ?_
                  conv => whnf
                  refine splT ?_
                  conv => whnf
                  refine splF ?_
                  conv => whnf
                  refine Pick.no ?_
                  conv => whnf
                  obtain ⟨y4285, e4286, h⟩ := bind_ex h
                  refine CallOk.of (spec_shWalk_step_ct e4286) ?_
                  conv => whnf
                  refine spl (fun g4287 => ?_) (fun g4287 => ?_)
                  · replace h := iteT h g4287
                    conv => whnf
                    refine spl (fun g4288 => ?_) (fun g4288 => ?_)
                    · replace h := iteT h g4288
                      conv => whnf
                      refine CutK.norm [0, 1, 4, 6, 7] [256, 384] ?_
                      conv => whnf
                      exact LoopOk.back (spec_shSimplest_l0_3_ct  n _ _ _ _ _ _ _ _ _ h) [some 256, some 384] [] ⟨⟨rfl, rfl⟩, ⟨rfl, ⟨rfl, rfl, rfl, trivial⟩, ⟨rfl, rfl, rfl, rfl, rfl, rfl, rfl, rfl, rfl, trivial⟩, trivial⟩, rfl, rfl, ⟨rfl, rfl⟩, ⟨rfl, rfl⟩, rfl, trivial⟩
                    · replace h := iteF h g4288
                      conv => whnf
                      refine CutK.norm [0, 1, 4, 6, 7] [256, 384] ?_
                      conv => whnf
                      exact LoopOk.back (spec_shSimplest_l0_3_ct  n _ _ _ _ _ _ _ _ _ h) [some 256, some 384] [] ⟨⟨rfl, rfl⟩, ⟨rfl, ⟨rfl, rfl, rfl, trivial⟩, ⟨rfl, rfl, rfl, rfl, rfl, rfl, rfl, rfl, rfl, trivial⟩, trivial⟩, rfl, rfl, ⟨rfl, rfl⟩, ⟨rfl, rfl⟩, rfl, trivial⟩
                  · replace h := iteF h g4287
                    conv => whnf
                    refine spl (fun g4289 => ?_) (fun g4289 => ?_)
                    · replace h := iteT h g4289
                      conv => whnf
                      refine CutK.norm [0, 1, 4, 6, 7] [256, 384] ?_
                      conv => whnf
                      exact LoopOk.back (spec_shSimplest_l0_3_ct  n _ _ _ _ _ _ _ _ _ h) [some 256, some 384] [] ⟨⟨rfl, rfl⟩, ⟨rfl, ⟨rfl, rfl, rfl, trivial⟩, ⟨rfl, rfl, rfl, rfl, rfl, rfl, rfl, rfl, rfl, trivial⟩, trivial⟩, rfl, rfl, ⟨rfl, rfl⟩, ⟨rfl, rfl⟩, rfl, trivial⟩
                    · replace h := iteF h g4289
                      conv => whnf
                      refine CutK.norm [0, 1, 4, 6, 7] [256, 384] ?_
                      conv => whnf
                      exact LoopOk.back (spec_shSimplest_l0_3_ct  n _ _ _ _ _ _ _ _ _ h) [some 256, some 384] [] ⟨⟨rfl, rfl⟩, ⟨rfl, ⟨rfl, rfl, rfl, trivial⟩, ⟨rfl, rfl, rfl, rfl, rfl, rfl, rfl, rfl, rfl, trivial⟩, trivial⟩, rfl, rfl, ⟨rfl, rfl⟩, ⟨rfl, rfl⟩, rfl, trivial⟩
                · replace h := iteN h g4284
                  conv => whnf
                  refine CutK.norm [0, 1, 4, 6, 7, 8, 9] [256, 384] ?_
                  conv => whnf
                  cases h
                  exact Done.of [] [] rfl rfl ⟨⟨rfl, rfl⟩, ⟨rfl, trivial⟩, ⟨⟨rfl, rfl, trivial⟩, rfl, trivial⟩, trivial⟩
              · replace h := iteN h g4275
                conv => whnf
                refine CutK.norm [0, 1, 4, 6, 7, 8, 9] [256, 384] ?_
                conv => whnf
                cases h
                exact Done.of [] [] rfl rfl ⟨⟨rfl, rfl⟩, ⟨rfl, trivial⟩, ⟨⟨rfl, rfl, trivial⟩, rfl, trivial⟩, trivial⟩
          · replace h := iteN h g4233
            conv => whnf
            exact ⟨_, _, [some 256], [], ⟨rfl, h, rfl, rfl⟩, ⟨⟨rfl, rfl⟩, ⟨rfl, ⟨rfl, rfl, rfl, trivial⟩, trivial⟩, ⟨rfl, rfl⟩, trivial⟩⟩
        · replace h := condT h
          refine LoopOk.step ?_
          conv => whnf
          refine splD (fun g4290 => ?_) (fun g4290 => ?_)
          · replace h := iteP h g4290
            conv => whnf
            refine splD (fun g4291 => ?_) (fun g4291 => ?_)
            · replace h := iteP h g4291
              conv => whnf
              refine Pick.no ?_
              conv => whnf
              obtain ⟨y4292, e4293, h⟩ := bind_ex h
              refine CallOk.of (spec_shMost_ct e4293) ?_
              conv => whnf
              refine Pick.no ?_
              conv => whnf
              obtain ⟨y4294, e4295, h⟩ := bind_ex h
              refine CallOk.of (spec_shCmp_ct e4295) ?_
              conv => whnf
              refine splD (fun g4296 => ?_) (fun g4296 => ?_)
              · replace h := iteP h g4296
                conv => whnf
                refine CutK.norm [0, 1, 4, 6, 7, 8] [256, 384] ?_
                conv => whnf
                refine splD (fun g4297 => ?_) (fun g4297 => ?_)
                · replace h := iteP h g4297
                  conv => whnf
                  refine Pick.no ?_
                  conv => whnf
                  obtain ⟨y4298, e4299, h⟩ := bind_ex h
                  refine CallOk.of (spec_shNegAll_ct e4299) ?_
                  conv => whnf
                  refine Pick.no ?_
                  conv => whnf
                  refine Take.all (rfl) ?_
                  conv => whnf
                  obtain ⟨y4300, e4301, h⟩ := bind_ex h
                  refine CallOk.of (spec_shMost_ct e4301) ?_
                  conv => whnf
                  refine Pick.no ?_
                  conv => whnf
                  obtain ⟨y4302, e4303, h⟩ := bind_ex h
                  refine CallOk.of (spec_shNeg_ct e4303) ?_
                  conv => whnf
                  refine Pick.no ?_
                  conv => whnf
                  obtain ⟨y4304, e4305, h⟩ := bind_ex h
                  refine CallOk.of (spec_shCmp_ct e4305) ?_
                  conv => whnf
                  refine splD (fun g4306 => ?_) (fun g4306 => ?_)
                  · replace h := iteP h g4306
                    conv => whnf
                    refine CutK.norm [0, 1, 4, 6, 7, 8, 9] [256, 384] ?_
                    conv => whnf
                    cases h
                    exact Done.of [] [] rfl rfl ⟨⟨rfl, rfl⟩, ⟨rfl, trivial⟩, ⟨⟨rfl, rfl, trivial⟩, rfl, trivial⟩, trivial⟩
                  · replace h := iteN h g4306
                    conv => whnf
                    refine CutK.norm [0, 1, 4, 6, 7, 8, 9] [256, 384] ?_
                    conv => whnf
                    refine splT ?_
                    conv => whnf
                    refine splT ?_
                    conv => whnf
                    refine Pick.no ?_
                    conv => whnf
                    obtain ⟨y4307, e4308, h⟩ := bind_ex h
                    refine CallOk.of (spec_shWalk_step_ct e4308) ?_
                    conv => whnf
                    refine spl (fun g4309 => ?_) (fun g4309 => ?_)
                    · replace h := iteT h g4309
                      conv => whnf
                      refine spl (fun g4310 => ?_) (fun g4310 => ?_)
                      · replace h := iteT h g4310
                        conv => whnf
                        refine CutK.norm [0, 1, 4, 6, 7] [256, 384] ?_
                        conv => whnf
                        exact LoopOk.back (spec_shSimplest_l0_3_ct  n _ _ _ _ _ _ _ _ _ h) [some 256, some 384] [] ⟨⟨rfl, rfl⟩, ⟨rfl, ⟨rfl, rfl, rfl, trivial⟩, ⟨rfl, rfl, rfl, rfl, rfl, rfl, rfl, rfl, rfl, trivial⟩, trivial⟩, rfl, rfl, ⟨rfl, rfl⟩, ⟨rfl, rfl⟩, rfl, trivial⟩
                      · replace h := iteF h g4310
                        conv => whnf
                        refine CutK.norm [0, 1, 4, 6, 7] [256, 384] ?_
                        conv => whnf
                        exact LoopOk.back (spec_shSimplest_l0_3_ct  n _ _ _ _ _ _ _ _ _ h) [some 256, some 384] [] ⟨⟨rfl, rfl⟩, ⟨rfl, ⟨rfl, rfl, rfl, trivial⟩, ⟨rfl, rfl, rfl, rfl, rfl, rfl, rfl, rfl, rfl, trivial⟩, trivial⟩, rfl, rfl, ⟨rfl, rfl⟩, ⟨rfl, rfl⟩, rfl, trivial⟩
                    · replace h := iteF h g4309
                      conv => whnf
                      refine spl (fun g4311 => ?_) (fun g4311 => ?_)
                      · replace h := iteT h g4311
                        conv => whnf
                        refine CutK.norm [0, 1, 4, 6, 7] [256, 384] ?_
                        conv => whnf
                        exact LoopOk.back (spec_shSimplest_l0_3_ct  n _ _ _ _ _ _ _ _ _ h) [some 256, some 384] [] ⟨⟨rfl, rfl⟩, ⟨rfl, ⟨rfl, rfl, rfl, trivial⟩, ⟨rfl, rfl, rfl, rfl, rfl, rfl, rfl, rfl, rfl, trivial⟩, trivial⟩, rfl, rfl, ⟨rfl, rfl⟩, ⟨rfl, rfl⟩, rfl, trivial⟩
                      · replace h := iteF h g4311
                        conv => whnf
                        refine CutK.norm [0, 1, 4, 6, 7] [256, 384] ?_
                        conv => whnf
                        exact LoopOk.back (spec_shSimplest_l0_3_ct  n _ _ _ _ _ _ _ _ _ h) [some 256, some 384] [] ⟨⟨rfl, rfl⟩, ⟨rfl, ⟨rfl, rfl, rfl, trivial⟩, ⟨rfl, rfl, rfl, rfl, rfl, rfl, rfl, rfl, rfl, trivial⟩, trivial⟩, rfl, rfl, ⟨rfl, rfl⟩, ⟨rfl, rfl⟩, rfl, trivial⟩
                · replace h := iteN h g4297
                  conv => whnf
                  refine CutK.norm [0, 1, 4, 6, 7, 8, 9] [256, 384] ?_
                  conv => whnf
                  refine splT ?_
                  conv => whnf
                  refine splT ?_
                  conv => whnf
                  refine Pick.no ?_
                  conv => whnf
                  obtain ⟨y4312, e4313, h⟩ := bind_ex h
                  refine CallOk.of (spec_shWalk_step_ct e4313) ?_
                  conv => whnf
                  refine spl (fun g4314 => ?_) (fun g4314 => ?_)
                  · replace h := iteT h g4314
                    conv => whnf
                    refine spl (fun g4315 => ?_) (fun g4315 => ?_)
                    · replace h := iteT h g4315
                      conv => whnf
                      refine CutK.norm [0, 1, 4, 6, 7] [256, 384] ?_
                      conv => whnf
                      exact LoopOk.back (spec_shSimplest_l0_3_ct  n _ _ _ _ _ _ _ _ _ h) [some 256, some 384] [] ⟨⟨rfl, rfl⟩, ⟨rfl, ⟨rfl, rfl, rfl, trivial⟩, ⟨rfl, rfl, rfl, rfl, rfl, rfl, rfl, rfl, rfl, trivial⟩, trivial⟩, rfl, rfl, ⟨rfl, rfl⟩, ⟨rfl, rfl⟩, rfl, trivial⟩
                    · replace h := iteF h g4315
                      conv => whnf
                      refine CutK.norm [0, 1, 4, 6, 7] [256, 384] ?_
                      conv => whnf
                      exact LoopOk.back (spec_shSimplest_l0_3_ct  n _ _ _ _ _ _ _ _ _ h) [some 256, some 384] [] ⟨⟨rfl, rfl⟩, ⟨rfl, ⟨rfl, rfl, rfl, trivial⟩, ⟨rfl, rfl, rfl, rfl, rfl, rfl, rfl, rfl, rfl, trivial⟩, trivial⟩, rfl, rfl, ⟨rfl, rfl⟩, ⟨rfl, rfl⟩, rfl, trivial⟩
                  · replace h := iteF h g4314
                    conv => whnf
                    refine spl (fun g4316 => ?_) (fun g4316 => ?_)
                    · replace h := iteT h g4316
                      conv => whnf
                      refine CutK.norm [0, 1, 4, 6, 7] [256, 384] ?_
                      conv => whnf
                      exact LoopOk.back (spec_shSimplest_l0_3_ct  n _ _ _ _ _ _ _ _ _ h) [some 256, some 384] [] ⟨⟨rfl, rfl⟩, ⟨rfl, ⟨rfl, rfl, rfl, trivial⟩, ⟨rfl, rfl, rfl, rfl, rfl, rfl, rfl, rfl, rfl, trivial⟩, trivial⟩, rfl, rfl, ⟨rfl, rfl⟩, ⟨rfl, rfl⟩, rfl, trivial⟩
                    · replace h := iteF h g4316
                      conv => whnf
                      refine CutK.norm [0, 1, 4, 6, 7] [256, 384] ?_
                      conv => whnf
                      exact LoopOk.back (spec_shSimplest_l0_3_ct  n _ _ _ _ _ _ _ _ _ h) [some 256, some 384] [] ⟨⟨rfl, rfl⟩, ⟨rfl, ⟨rfl, rfl, rfl, trivial⟩, ⟨rfl, rfl, rfl, rfl, rfl, rfl, rfl, rfl, rfl, trivial⟩, trivial⟩, rfl, rfl, ⟨rfl, rfl⟩, ⟨rfl, rfl⟩, rfl, trivial⟩
              · replace h := iteN h g4296
                conv => whnf
                refine CutK.norm [0, 1, 4, 6, 7, 8] [256, 384] ?_
                conv => whnf
                refine splD (fun g4317 => ?_) (fun g4317 => ?_)
                · replace h := iteP h g4317
                  conv => whnf
                  refine Pick.no ?_
                  conv => whnf
                  obtain ⟨y4318, e4319, h⟩ := bind_ex h
                  refine CallOk.of (spec_shNegAll_ct e4319) ?_
                  conv => whnf
                  refine Pick.no ?_
                  conv => whnf
                  refine Take.all (rfl) ?_
                  conv => whnf
                  obtain ⟨y4320, e4321, h⟩ := bind_ex h
                  refine CallOk.of (spec_shMost_ct e4321) ?_
                  conv => whnf
                  refine Pick.no ?_
                  conv => whnf
                  obtain ⟨y4322, e4323, h⟩ := bind_ex h
                  refine CallOk.of (spec_shNeg_ct e4323) ?_
                  conv => whnf
                  refine Pick.no ?_
                  conv => whnf
                  obtain ⟨y4324, e4325, h⟩ := bind_ex h
                  refine CallOk.of (spec_shCmp_ct e4325) ?_
                  conv => whnf
                  refine splD (fun g4326 => ?_) (fun g4326 => ?_)
                  · replace h := iteP h g4326
                    conv => whnf
                    refine CutK.norm [0, 1, 4, 6, 7, 8, 9] [256, 384] ?_
                    conv => whnf
                    refine splT ?_
                    conv => whnf
                    refine splT ?_
                    conv => whnf
                    refine Pick.no ?_
                    conv => whnf
                    obtain ⟨y4327, e4328, h⟩ := bind_ex h
                    refine CallOk.of (spec_shWalk_step_ct e4328) ?_
                    conv => whnf
                    refine spl (fun g4329 => ?_) (fun g4329 => ?_)
                    · replace h := iteT h g4329
                      conv => whnf
                      refine spl (fun g4330 => ?_) (fun g4330 => ?_)
                      · replace h := iteT h g4330
                        conv => whnf
                        refine CutK.norm [0, 1, 4, 6, 7] [256, 384] ?_
                        conv => whnf
                        exact LoopOk.back (spec_shSimplest_l0_3_ct  n _ _ _ _ _ _ _ _ _ h) [some 256, some 384] [] ⟨⟨rfl, rfl⟩, ⟨rfl, ⟨rfl, rfl, rfl, trivial⟩, ⟨rfl, rfl, rfl, rfl, rfl, rfl, rfl, rfl, rfl, trivial⟩, trivial⟩, rfl, rfl, ⟨rfl, rfl⟩, ⟨rfl, rfl⟩, rfl, trivial⟩
                      · replace h := iteF h g4330
                        conv => whnf
                        refine CutK.norm [0, 1, 4, 6, 7] [256, 384] ?_
                        conv => whnf
                        exact LoopOk.back (spec_shSimplest_l0_3_ct  n _ _ _ _ _ _ _ _ _ h) [some 256, some 384] [] ⟨⟨rfl, rfl⟩, ⟨rfl, ⟨rfl, rfl, rfl, trivial⟩, ⟨rfl, rfl, rfl, rfl, rfl, rfl, rfl, rfl, rfl, trivial⟩, trivial⟩, rfl, rfl, ⟨rfl, rfl⟩, ⟨rfl, rfl⟩, rfl, trivial⟩
                    · replace h := iteF h g4329
                      conv => whnf
                      refine spl (fun g4331 => ?_) (fun g4331 => ?_)
                      · replace h := iteT h g4331
                        conv => whnf
                        refine CutK.norm [0, 1, 4, 6, 7] [256, 384] ?_
                        conv => whnf
                        exact LoopOk.back (spec_shSimplest_l0_3_ct  n _ _ _ _ _ _ _ _ _ h) [some 256, some 384] [] ⟨⟨rfl, rfl⟩, ⟨rfl, ⟨rfl, rfl, rfl, trivial⟩, ⟨rfl, rfl, rfl, rfl, rfl, rfl, rfl, rfl, rfl, trivial⟩, trivial⟩, rfl, rfl, ⟨rfl, rfl⟩, ⟨rfl, rfl⟩, rfl, trivial⟩
                      · replace h := iteF h g4331
                        conv => whnf
                        refine CutK.norm [0, 1, 4, 6, 7] [256, 384] ?_
                        conv => whnf
                        exact LoopOk.back (spec_shSimplest_l0_3_ct  n _ _ _ _ _ _ _ _ _ h) [some 256, some 384] [] ⟨⟨rfl, rfl⟩, ⟨rfl, ⟨rfl, rfl, rfl, trivial⟩, ⟨rfl, rfl, rfl, rfl, rfl, rfl, rfl, rfl, rfl, trivial⟩, trivial⟩, rfl, rfl, ⟨rfl, rfl⟩, ⟨rfl, rfl⟩, rfl, trivial⟩
                  · replace h := iteN h g4326
                    conv => whnf
                    refine CutK.norm [0, 1, 4, 6, 7, 8, 9] [256, 384] ?_
                    conv => whnf
                    cases h
                    exact Done.of [] [] rfl rfl ⟨⟨rfl, rfl⟩, ⟨rfl, trivial⟩, ⟨⟨rfl, rfl, trivial⟩, rfl, trivial⟩, trivial⟩
                · replace h := iteN h g4317
                  conv => whnf
                  refine CutK.norm [0, 1, 4, 6, 7, 8, 9] [256, 384] ?_
                  conv => whnf
                  cases h
                  exact Done.of [] [] rfl rfl ⟨⟨rfl, rfl⟩, ⟨rfl, trivial⟩, ⟨⟨rfl, rfl, trivial⟩, rfl, trivial⟩, trivial⟩
            · replace h := iteN h g4291
              conv => whnf
              refine CutK.norm [0, 1, 4, 6, 7, 8] [256, 384] ?_
              conv => whnf
              refine splD (fun g4332 => ?_) (fun g4332 => ?_)
              · replace h := iteP h g4332
                conv => whnf
                refine Pick.no ?_
                conv => whnf
                obtain ⟨y4333, e4334, h⟩ := bind_ex h
                refine CallOk.of (spec_shNegAll_ct e4334) ?_
                conv => whnf
                refine Pick.no ?_
                conv => whnf
                refine Take.all (rfl) ?_
                conv => whnf
                obtain ⟨y4335, e4336, h⟩ := bind_ex h
                refine CallOk.of (spec_shMost_ct e4336) ?_
                conv => whnf
                refine Pick.no ?_
                conv => whnf
                obtain ⟨y4337, e4338, h⟩ := bind_ex h
                refine CallOk.of (spec_shNeg_ct e4338) ?_
                conv => whnf
                refine Pick.no ?_
                conv => whnf
                obtain ⟨y4339, e4340, h⟩ := bind_ex h
                refine CallOk.of (spec_shCmp_ct e4340) ?_
                conv => whnf
                refine splD (fun g4341 => ?_) (fun g4341 => ?_)
                · replace h := iteP h g4341
                  conv => whnf
                  refine CutK.norm [0, 1, 4, 6, 7, 8, 9] [256, 384] ?_
                  conv => whnf
                  refine splT ?_
                  conv => whnf
                  refine splT ?_
                  conv => whnf
                  refine Pick.no ?_
                  conv => whnf
                  obtain ⟨y4342, e4343, h⟩ := bind_ex h
                  refine CallOk.of (spec_shWalk_step_ct e4343) ?_
                  conv => whnf
                  refine spl (fun g4344 => ?_) (fun g4344 => ?_)
                  · replace h := iteT h g4344
                    conv => whnf
                    refine spl (fun g4345 => ?_) (fun g4345 => ?_)
                    · replace h := iteT h g4345
                      conv => whnf
                      refine CutK.norm [0, 1, 4, 6, 7] [256, 384] ?_
                      conv => whnf
                      exact LoopOk.back (spec_shSimplest_l0_3_ct  n _ _ _ _ _ _ _ _ _ h) [some 256, some 384] [] ⟨⟨rfl, rfl⟩, ⟨rfl, ⟨rfl, rfl, rfl, trivial⟩, ⟨rfl, rfl, rfl, rfl, rfl, rfl, rfl, rfl, rfl, trivial⟩, trivial⟩, rfl, rfl, ⟨rfl, rfl⟩, ⟨rfl, rfl⟩, rfl, trivial⟩
                    · replace h := iteF h g4345
                      conv => whnf
                      refine CutK.norm [0, 1, 4, 6, 7] [256, 384] ?_
                      conv => whnf
                      exact LoopOk.back (spec_shSimplest_l0_3_ct  n _ _ _ _ _ _ _ _ _ h) [some 256, some 384] [] ⟨⟨rfl, rfl⟩, ⟨rfl, ⟨rfl, rfl, rfl, trivial⟩, ⟨rfl, rfl, rfl, rfl, rfl, rfl, rfl, rfl, rfl, trivial⟩, trivial⟩, rfl, rfl, ⟨rfl, rfl⟩, ⟨rfl, rfl⟩, rfl, trivial⟩
                  · replace h := iteF h g4344
                    conv => whnf
                    refine spl (fun g4346 => ?_) (fun g4346 => ?_)
                    · replace h := iteT h g4346
                      conv => whnf
                      refine CutK.norm [0, 1, 4, 6, 7] [256, 384] ?_
                      conv => whnf
                      exact LoopOk.back (spec_shSimplest_l0_3_ct  n _ _ _ _ _ _ _ _ _ h) [some 256, some 384] [] ⟨⟨rfl, rfl⟩, ⟨rfl, ⟨rfl, rfl, rfl, trivial⟩, ⟨rfl, rfl, rfl, rfl, rfl, rfl, rfl, rfl, rfl, trivial⟩, trivial⟩, rfl, rfl, ⟨rfl, rfl⟩, ⟨rfl, rfl⟩, rfl, trivial⟩
                    · replace h := iteF h g4346
                      conv => whnf
                      refine CutK.norm [0, 1, 4, 6, 7] [256, 384] ?_
                      conv => whnf
                      exact LoopOk.back (spec_shSimplest_l0_3_ct  n _ _ _ _ _ _ _ _ _ h) [some 256, some 384] [] ⟨⟨rfl, rfl⟩, ⟨rfl, ⟨rfl, rfl, rfl, trivial⟩, ⟨rfl, rfl, rfl, rfl, rfl, rfl, rfl, rfl, rfl, trivial⟩, trivial⟩, rfl, rfl, ⟨rfl, rfl⟩, ⟨rfl, rfl⟩, rfl, trivial⟩
                · replace h := iteN h g4341
                  conv => whnf
                  refine CutK.norm [0, 1, 4, 6, 7, 8, 9] [256, 384] ?_
                  conv => whnf
                  cases h
                  exact Done.of [] [] rfl rfl ⟨⟨rfl, rfl⟩, ⟨rfl, trivial⟩, ⟨⟨rfl, rfl, trivial⟩, rfl, trivial⟩, trivial⟩
              · replace h := iteN h g4332
                conv => whnf
                refine CutK.norm [0, 1, 4, 6, 7, 8, 9] [256, 384] ?_
                conv => whnf
                cases h
                exact Done.of [] [] rfl rfl ⟨⟨rfl, rfl⟩, ⟨rfl, trivial⟩, ⟨⟨rfl, rfl, trivial⟩, rfl, trivial⟩, trivial⟩
          · replace h := iteN h g4290
            conv => whnf
            exact ⟨_, _, [some 256], [], ⟨rfl, h, rfl, rfl⟩, ⟨⟨rfl, rfl⟩, ⟨rfl, ⟨rfl, rfl, rfl, trivial⟩, trivial⟩, ⟨rfl, rfl⟩, trivial⟩⟩
def spec_shSimplest_l0_4 (k : Nat) (a1 : Rw) (a2 : Rw) (K0 : Option (Int × Int × Bool)) : Nat → Int → Int → Int → Int → Int → Int → Int → Bool → Bool → Option (Int × Int × Bool)
  | 0, _, _, _, _, _, _, _, _, _ => none
  | n + 1, v4367, v4368, v4369, v4370, v4371, v4372, v4373, v4374, v4376 => (cond v4374 (cond v4376 (if v4367 ≤ (20 : Int) then (if (0 : Int) < (a1.length : Int) then ((spec_shMost a1).bind fun y5041 => ((spec_shCmp y5041.1 y5041.2 v4368 v4369).bind fun y5043 => (if (0 : Int) ≤ y5043 then (if (0 : Int) < (a2.length : Int) then ((spec_shNegAll a2).bind fun y5047 => ((spec_shMost y5047).bind fun y5049 => ((spec_shNeg y5049.1 y5049.2).bind fun y5051 => ((spec_shCmp y5051.1 y5051.2 v4368 v4369).bind fun y5053 => (if y5053 ≤ (0 : Int) then some (0, 0, false) else ((spec_shWalk_step k v4368 v4369 v4370 v4371 v4372 v4373 true true true).bind fun y5056 => (if y5056.2.2.2.2.2.2.1 = true then (if y5056.2.2.2.2.2.2.2 = true then (spec_shSimplest_l0_4 k a1 a2 K0 n (IntKind.i64.wrap (v4367 + 1)) y5056.1 y5056.2.1 y5056.2.2.1 y5056.2.2.2.1 y5056.2.2.2.2.1 y5056.2.2.2.2.2.1 true true) else (spec_shSimplest_l0_4 k a1 a2 K0 n (IntKind.i64.wrap (v4367 + 1)) y5056.1 y5056.2.1 y5056.2.2.1 y5056.2.2.2.1 y5056.2.2.2.2.1 y5056.2.2.2.2.2.1 false true)) else (if y5056.2.2.2.2.2.2.2 = true then (spec_shSimplest_l0_4 k a1 a2 K0 n (IntKind.i64.wrap (v4367 + 1)) y5056.1 y5056.2.1 y5056.2.2.1 y5056.2.2.2.1 y5056.2.2.2.2.1 y5056.2.2.2.2.2.1 true false) else (spec_shSimplest_l0_4 k a1 a2 K0 n (IntKind.i64.wrap (v4367 + 1)) y5056.1 y5056.2.1 y5056.2.2.1 y5056.2.2.2.1 y5056.2.2.2.2.1 y5056.2.2.2.2.2.1 false false))))))))) else ((spec_shWalk_step k v4368 v4369 v4370 v4371 v4372 v4373 true true true).bind fun y5061 => (if y5061.2.2.2.2.2.2.1 = true then (if y5061.2.2.2.2.2.2.2 = true then (spec_shSimplest_l0_4 k a1 a2 K0 n (IntKind.i64.wrap (v4367 + 1)) y5061.1 y5061.2.1 y5061.2.2.1 y5061.2.2.2.1 y5061.2.2.2.2.1 y5061.2.2.2.2.2.1 true true) else (spec_shSimplest_l0_4 k a1 a2 K0 n (IntKind.i64.wrap (v4367 + 1)) y5061.1 y5061.2.1 y5061.2.2.1 y5061.2.2.2.1 y5061.2.2.2.2.1 y5061.2.2.2.2.2.1 false true)) else (if y5061.2.2.2.2.2.2.2 = true then (spec_shSimplest_l0_4 k a1 a2 K0 n (IntKind.i64.wrap (v4367 + 1)) y5061.1 y5061.2.1 y5061.2.2.1 y5061.2.2.2.1 y5061.2.2.2.2.1 y5061.2.2.2.2.2.1 true false) else (spec_shSimplest_l0_4 k a1 a2 K0 n (IntKind.i64.wrap (v4367 + 1)) y5061.1 y5061.2.1 y5061.2.2.1 y5061.2.2.2.1 y5061.2.2.2.2.1 y5061.2.2.2.2.2.1 false false))))) else (if (0 : Int) < (a2.length : Int) then ((spec_shNegAll a2).bind fun y5067 => ((spec_shMost y5067).bind fun y5069 => ((spec_shNeg y5069.1 y5069.2).bind fun y5071 => ((spec_shCmp y5071.1 y5071.2 v4368 v4369).bind fun y5073 => (if y5073 ≤ (0 : Int) then ((spec_shWalk_step k v4368 v4369 v4370 v4371 v4372 v4373 true true false).bind fun y5076 => (if y5076.2.2.2.2.2.2.1 = true then (if y5076.2.2.2.2.2.2.2 = true then (spec_shSimplest_l0_4 k a1 a2 K0 n (IntKind.i64.wrap (v4367 + 1)) y5076.1 y5076.2.1 y5076.2.2.1 y5076.2.2.2.1 y5076.2.2.2.2.1 y5076.2.2.2.2.2.1 true true) else (spec_shSimplest_l0_4 k a1 a2 K0 n (IntKind.i64.wrap (v4367 + 1)) y5076.1 y5076.2.1 y5076.2.2.1 y5076.2.2.2.1 y5076.2.2.2.2.1 y5076.2.2.2.2.2.1 false true)) else (if y5076.2.2.2.2.2.2.2 = true then (spec_shSimplest_l0_4 k a1 a2 K0 n (IntKind.i64.wrap (v4367 + 1)) y5076.1 y5076.2.1 y5076.2.2.1 y5076.2.2.2.1 y5076.2.2.2.2.1 y5076.2.2.2.2.2.1 true false) else (spec_shSimplest_l0_4 k a1 a2 K0 n (IntKind.i64.wrap (v4367 + 1)) y5076.1 y5076.2.1 y5076.2.2.1 y5076.2.2.2.1 y5076.2.2.2.2.1 y5076.2.2.2.2.2.1 false false)))) else some (v4368, v4369, true)))))) else some (v4368, v4369, true))))) else (if (0 : Int) < (a2.length : Int) then ((spec_shNegAll a2).bind fun y5082 => ((spec_shMost y5082).bind fun y5084 => ((spec_shNeg y5084.1 y5084.2).bind fun y5086 => ((spec_shCmp y5086.1 y5086.2 v4368 v4369).bind fun y5088 => (if y5088 ≤ (0 : Int) then ((spec_shWalk_step k v4368 v4369 v4370 v4371 v4372 v4373 true true false).bind fun y5091 => (if y5091.2.2.2.2.2.2.1 = true then (if y5091.2.2.2.2.2.2.2 = true then (spec_shSimplest_l0_4 k a1 a2 K0 n (IntKind.i64.wrap (v4367 + 1)) y5091.1 y5091.2.1 y5091.2.2.1 y5091.2.2.2.1 y5091.2.2.2.2.1 y5091.2.2.2.2.2.1 true true) else (spec_shSimplest_l0_4 k a1 a2 K0 n (IntKind.i64.wrap (v4367 + 1)) y5091.1 y5091.2.1 y5091.2.2.1 y5091.2.2.2.1 y5091.2.2.2.2.1 y5091.2.2.2.2.2.1 false true)) else (if y5091.2.2.2.2.2.2.2 = true then (spec_shSimplest_l0_4 k a1 a2 K0 n (IntKind.i64.wrap (v4367 + 1)) y5091.1 y5091.2.1 y5091.2.2.1 y5091.2.2.2.1 y5091.2.2.2.2.1 y5091.2.2.2.2.2.1 true false) else (spec_shSimplest_l0_4 k a1 a2 K0 n (IntKind.i64.wrap (v4367 + 1)) y5091.1 y5091.2.1 y5091.2.2.1 y5091.2.2.2.1 y5091.2.2.2.2.1 y5091.2.2.2.2.2.1 false false)))) else some (v4368, v4369, true)))))) else some (v4368, v4369, true))) else (K0)) (if v4367 ≤ (20 : Int) then (if (0 : Int) < (a1.length : Int) then ((spec_shMost a1).bind fun y4984 => ((spec_shCmp y4984.1 y4984.2 v4368 v4369).bind fun y4986 => (if (0 : Int) ≤ y4986 then (if (0 : Int) < (a2.length : Int) then ((spec_shNegAll a2).bind fun y4990 => ((spec_shMost y4990).bind fun y4992 => ((spec_shNeg y4992.1 y4992.2).bind fun y4994 => ((spec_shCmp y4994.1 y4994.2 v4368 v4369).bind fun y4996 => (if y4996 ≤ (0 : Int) then some (0, 0, false) else ((spec_shWalk_step k v4368 v4369 v4370 v4371 v4372 v4373 false true true).bind fun y4999 => (if y4999.2.2.2.2.2.2.1 = true then (if y4999.2.2.2.2.2.2.2 = true then (spec_shSimplest_l0_4 k a1 a2 K0 n (IntKind.i64.wrap (v4367 + 1)) y4999.1 y4999.2.1 y4999.2.2.1 y4999.2.2.2.1 y4999.2.2.2.2.1 y4999.2.2.2.2.2.1 true true) else (spec_shSimplest_l0_4 k a1 a2 K0 n (IntKind.i64.wrap (v4367 + 1)) y4999.1 y4999.2.1 y4999.2.2.1 y4999.2.2.2.1 y4999.2.2.2.2.1 y4999.2.2.2.2.2.1 false true)) else (if y4999.2.2.2.2.2.2.2 = true then (spec_shSimplest_l0_4 k a1 a2 K0 n (IntKind.i64.wrap (v4367 + 1)) y4999.1 y4999.2.1 y4999.2.2.1 y4999.2.2.2.1 y4999.2.2.2.2.1 y4999.2.2.2.2.2.1 true false) else (spec_shSimplest_l0_4 k a1 a2 K0 n (IntKind.i64.wrap (v4367 + 1)) y4999.1 y4999.2.1 y4999.2.2.1 y4999.2.2.2.1 y4999.2.2.2.2.1 y4999.2.2.2.2.2.1 false false))))))))) else ((spec_shWalk_step k v4368 v4369 v4370 v4371 v4372 v4373 false true true).bind fun y5004 => (if y5004.2.2.2.2.2.2.1 = true then (if y5004.2.2.2.2.2.2.2 = true then (spec_shSimplest_l0_4 k a1 a2 K0 n (IntKind.i64.wrap (v4367 + 1)) y5004.1 y5004.2.1 y5004.2.2.1 y5004.2.2.2.1 y5004.2.2.2.2.1 y5004.2.2.2.2.2.1 true true) else (spec_shSimplest_l0_4 k a1 a2 K0 n (IntKind.i64.wrap (v4367 + 1)) y5004.1 y5004.2.1 y5004.2.2.1 y5004.2.2.2.1 y5004.2.2.2.2.1 y5004.2.2.2.2.2.1 false true)) else (if y5004.2.2.2.2.2.2.2 = true then (spec_shSimplest_l0_4 k a1 a2 K0 n (IntKind.i64.wrap (v4367 + 1)) y5004.1 y5004.2.1 y5004.2.2.1 y5004.2.2.2.1 y5004.2.2.2.2.1 y5004.2.2.2.2.2.1 true false) else (spec_shSimplest_l0_4 k a1 a2 K0 n (IntKind.i64.wrap (v4367 + 1)) y5004.1 y5004.2.1 y5004.2.2.1 y5004.2.2.2.1 y5004.2.2.2.2.1 y5004.2.2.2.2.2.1 false false))))) else (if (0 : Int) < (a2.length : Int) then ((spec_shNegAll a2).bind fun y5010 => ((spec_shMost y5010).bind fun y5012 => ((spec_shNeg y5012.1 y5012.2).bind fun y5014 => ((spec_shCmp y5014.1 y5014.2 v4368 v4369).bind fun y5016 => (if y5016 ≤ (0 : Int) then ((spec_shWalk_step k v4368 v4369 v4370 v4371 v4372 v4373 false true false).bind fun y5019 => (if y5019.2.2.2.2.2.2.1 = true then (if y5019.2.2.2.2.2.2.2 = true then (spec_shSimplest_l0_4 k a1 a2 K0 n (IntKind.i64.wrap (v4367 + 1)) y5019.1 y5019.2.1 y5019.2.2.1 y5019.2.2.2.1 y5019.2.2.2.2.1 y5019.2.2.2.2.2.1 true true) else (spec_shSimplest_l0_4 k a1 a2 K0 n (IntKind.i64.wrap (v4367 + 1)) y5019.1 y5019.2.1 y5019.2.2.1 y5019.2.2.2.1 y5019.2.2.2.2.1 y5019.2.2.2.2.2.1 false true)) else (if y5019.2.2.2.2.2.2.2 = true then (spec_shSimplest_l0_4 k a1 a2 K0 n (IntKind.i64.wrap (v4367 + 1)) y5019.1 y5019.2.1 y5019.2.2.1 y5019.2.2.2.1 y5019.2.2.2.2.1 y5019.2.2.2.2.2.1 true false) else (spec_shSimplest_l0_4 k a1 a2 K0 n (IntKind.i64.wrap (v4367 + 1)) y5019.1 y5019.2.1 y5019.2.2.1 y5019.2.2.2.1 y5019.2.2.2.2.1 y5019.2.2.2.2.2.1 false false)))) else some (v4368, v4369, true)))))) else some (v4368, v4369, true))))) else (if (0 : Int) < (a2.length : Int) then ((spec_shNegAll a2).bind fun y5025 => ((spec_shMost y5025).bind fun y5027 => ((spec_shNeg y5027.1 y5027.2).bind fun y5029 => ((spec_shCmp y5029.1 y5029.2 v4368 v4369).bind fun y5031 => (if y5031 ≤ (0 : Int) then ((spec_shWalk_step k v4368 v4369 v4370 v4371 v4372 v4373 false true false).bind fun y5034 => (if y5034.2.2.2.2.2.2.1 = true then (if y5034.2.2.2.2.2.2.2 = true then (spec_shSimplest_l0_4 k a1 a2 K0 n (IntKind.i64.wrap (v4367 + 1)) y5034.1 y5034.2.1 y5034.2.2.1 y5034.2.2.2.1 y5034.2.2.2.2.1 y5034.2.2.2.2.2.1 true true) else (spec_shSimplest_l0_4 k a1 a2 K0 n (IntKind.i64.wrap (v4367 + 1)) y5034.1 y5034.2.1 y5034.2.2.1 y5034.2.2.2.1 y5034.2.2.2.2.1 y5034.2.2.2.2.2.1 false true)) else (if y5034.2.2.2.2.2.2.2 = true then (spec_shSimplest_l0_4 k a1 a2 K0 n (IntKind.i64.wrap (v4367 + 1)) y5034.1 y5034.2.1 y5034.2.2.1 y5034.2.2.2.1 y5034.2.2.2.2.1 y5034.2.2.2.2.2.1 true false) else (spec_shSimplest_l0_4 k a1 a2 K0 n (IntKind.i64.wrap (v4367 + 1)) y5034.1 y5034.2.1 y5034.2.2.1 y5034.2.2.2.1 y5034.2.2.2.2.1 y5034.2.2.2.2.2.1 false false)))) else some (v4368, v4369, true)))))) else some (v4368, v4369, true))) else (K0))) (cond v4376 (if v4367 ≤ (20 : Int) then (if (0 : Int) < (a1.length : Int) then ((spec_shMost a1).bind fun y4927 => ((spec_shCmp y4927.1 y4927.2 v4368 v4369).bind fun y4929 => (if (0 : Int) ≤ y4929 then (if (0 : Int) < (a2.length : Int) then ((spec_shNegAll a2).bind fun y4933 => ((spec_shMost y4933).bind fun y4935 => ((spec_shNeg y4935.1 y4935.2).bind fun y4937 => ((spec_shCmp y4937.1 y4937.2 v4368 v4369).bind fun y4939 => (if y4939 ≤ (0 : Int) then some (0, 0, false) else ((spec_shWalk_step k v4368 v4369 v4370 v4371 v4372 v4373 true false true).bind fun y4942 => (if y4942.2.2.2.2.2.2.1 = true then (if y4942.2.2.2.2.2.2.2 = true then (spec_shSimplest_l0_4 k a1 a2 K0 n (IntKind.i64.wrap (v4367 + 1)) y4942.1 y4942.2.1 y4942.2.2.1 y4942.2.2.2.1 y4942.2.2.2.2.1 y4942.2.2.2.2.2.1 true true) else (spec_shSimplest_l0_4 k a1 a2 K0 n (IntKind.i64.wrap (v4367 + 1)) y4942.1 y4942.2.1 y4942.2.2.1 y4942.2.2.2.1 y4942.2.2.2.2.1 y4942.2.2.2.2.2.1 false true)) else (if y4942.2.2.2.2.2.2.2 = true then (spec_shSimplest_l0_4 k a1 a2 K0 n (IntKind.i64.wrap (v4367 + 1)) y4942.1 y4942.2.1 y4942.2.2.1 y4942.2.2.2.1 y4942.2.2.2.2.1 y4942.2.2.2.2.2.1 true false) else (spec_shSimplest_l0_4 k a1 a2 K0 n (IntKind.i64.wrap (v4367 + 1)) y4942.1 y4942.2.1 y4942.2.2.1 y4942.2.2.2.1 y4942.2.2.2.2.1 y4942.2.2.2.2.2.1 false false))))))))) else ((spec_shWalk_step k v4368 v4369 v4370 v4371 v4372 v4373 true false true).bind fun y4947 => (if y4947.2.2.2.2.2.2.1 = true then (if y4947.2.2.2.2.2.2.2 = true then (spec_shSimplest_l0_4 k a1 a2 K0 n (IntKind.i64.wrap (v4367 + 1)) y4947.1 y4947.2.1 y4947.2.2.1 y4947.2.2.2.1 y4947.2.2.2.2.1 y4947.2.2.2.2.2.1 true true) else (spec_shSimplest_l0_4 k a1 a2 K0 n (IntKind.i64.wrap (v4367 + 1)) y4947.1 y4947.2.1 y4947.2.2.1 y4947.2.2.2.1 y4947.2.2.2.2.1 y4947.2.2.2.2.2.1 false true)) else (if y4947.2.2.2.2.2.2.2 = true then (spec_shSimplest_l0_4 k a1 a2 K0 n (IntKind.i64.wrap (v4367 + 1)) y4947.1 y4947.2.1 y4947.2.2.1 y4947.2.2.2.1 y4947.2.2.2.2.1 y4947.2.2.2.2.2.1 true false) else (spec_shSimplest_l0_4 k a1 a2 K0 n (IntKind.i64.wrap (v4367 + 1)) y4947.1 y4947.2.1 y4947.2.2.1 y4947.2.2.2.1 y4947.2.2.2.2.1 y4947.2.2.2.2.2.1 false false))))) else (if (0 : Int) < (a2.length : Int) then ((spec_shNegAll a2).bind fun y4953 => ((spec_shMost y4953).bind fun y4955 => ((spec_shNeg y4955.1 y4955.2).bind fun y4957 => ((spec_shCmp y4957.1 y4957.2 v4368 v4369).bind fun y4959 => (if y4959 ≤ (0 : Int) then ((spec_shWalk_step k v4368 v4369 v4370 v4371 v4372 v4373 true false false).bind fun y4962 => (if y4962.2.2.2.2.2.2.1 = true then (if y4962.2.2.2.2.2.2.2 = true then (spec_shSimplest_l0_4 k a1 a2 K0 n (IntKind.i64.wrap (v4367 + 1)) y4962.1 y4962.2.1 y4962.2.2.1 y4962.2.2.2.1 y4962.2.2.2.2.1 y4962.2.2.2.2.2.1 true true) else (spec_shSimplest_l0_4 k a1 a2 K0 n (IntKind.i64.wrap (v4367 + 1)) y4962.1 y4962.2.1 y4962.2.2.1 y4962.2.2.2.1 y4962.2.2.2.2.1 y4962.2.2.2.2.2.1 false true)) else (if y4962.2.2.2.2.2.2.2 = true then (spec_shSimplest_l0_4 k a1 a2 K0 n (IntKind.i64.wrap (v4367 + 1)) y4962.1 y4962.2.1 y4962.2.2.1 y4962.2.2.2.1 y4962.2.2.2.2.1 y4962.2.2.2.2.2.1 true false) else (spec_shSimplest_l0_4 k a1 a2 K0 n (IntKind.i64.wrap (v4367 + 1)) y4962.1 y4962.2.1 y4962.2.2.1 y4962.2.2.2.1 y4962.2.2.2.2.1 y4962.2.2.2.2.2.1 false false)))) else some (v4368, v4369, true)))))) else some (v4368, v4369, true))))) else (if (0 : Int) < (a2.length : Int) then ((spec_shNegAll a2).bind fun y4968 => ((spec_shMost y4968).bind fun y4970 => ((spec_shNeg y4970.1 y4970.2).bind fun y4972 => ((spec_shCmp y4972.1 y4972.2 v4368 v4369).bind fun y4974 => (if y4974 ≤ (0 : Int) then ((spec_shWalk_step k v4368 v4369 v4370 v4371 v4372 v4373 true false false).bind fun y4977 => (if y4977.2.2.2.2.2.2.1 = true then (if y4977.2.2.2.2.2.2.2 = true then (spec_shSimplest_l0_4 k a1 a2 K0 n (IntKind.i64.wrap (v4367 + 1)) y4977.1 y4977.2.1 y4977.2.2.1 y4977.2.2.2.1 y4977.2.2.2.2.1 y4977.2.2.2.2.2.1 true true) else (spec_shSimplest_l0_4 k a1 a2 K0 n (IntKind.i64.wrap (v4367 + 1)) y4977.1 y4977.2.1 y4977.2.2.1 y4977.2.2.2.1 y4977.2.2.2.2.1 y4977.2.2.2.2.2.1 false true)) else (if y4977.2.2.2.2.2.2.2 = true then (spec_shSimplest_l0_4 k a1 a2 K0 n (IntKind.i64.wrap (v4367 + 1)) y4977.1 y4977.2.1 y4977.2.2.1 y4977.2.2.2.1 y4977.2.2.2.2.1 y4977.2.2.2.2.2.1 true false) else (spec_shSimplest_l0_4 k a1 a2 K0 n (IntKind.i64.wrap (v4367 + 1)) y4977.1 y4977.2.1 y4977.2.2.1 y4977.2.2.2.1 y4977.2.2.2.2.1 y4977.2.2.2.2.2.1 false false)))) else some (v4368, v4369, true)))))) else some (v4368, v4369, true))) else (K0)) (if v4367 ≤ (20 : Int) then (if (0 : Int) < (a1.length : Int) then ((spec_shMost a1).bind fun y4870 => ((spec_shCmp y4870.1 y4870.2 v4368 v4369).bind fun y4872 => (if (0 : Int) ≤ y4872 then (if (0 : Int) < (a2.length : Int) then ((spec_shNegAll a2).bind fun y4876 => ((spec_shMost y4876).bind fun y4878 => ((spec_shNeg y4878.1 y4878.2).bind fun y4880 => ((spec_shCmp y4880.1 y4880.2 v4368 v4369).bind fun y4882 => (if y4882 ≤ (0 : Int) then some (0, 0, false) else ((spec_shWalk_step k v4368 v4369 v4370 v4371 v4372 v4373 false false true).bind fun y4885 => (if y4885.2.2.2.2.2.2.1 = true then (if y4885.2.2.2.2.2.2.2 = true then (spec_shSimplest_l0_4 k a1 a2 K0 n (IntKind.i64.wrap (v4367 + 1)) y4885.1 y4885.2.1 y4885.2.2.1 y4885.2.2.2.1 y4885.2.2.2.2.1 y4885.2.2.2.2.2.1 true true) else (spec_shSimplest_l0_4 k a1 a2 K0 n (IntKind.i64.wrap (v4367 + 1)) y4885.1 y4885.2.1 y4885.2.2.1 y4885.2.2.2.1 y4885.2.2.2.2.1 y4885.2.2.2.2.2.1 false true)) else (if y4885.2.2.2.2.2.2.2 = true then (spec_shSimplest_l0_4 k a1 a2 K0 n (IntKind.i64.wrap (v4367 + 1)) y4885.1 y4885.2.1 y4885.2.2.1 y4885.2.2.2.1 y4885.2.2.2.2.1 y4885.2.2.2.2.2.1 true false) else (spec_shSimplest_l0_4 k a1 a2 K0 n (IntKind.i64.wrap (v4367 + 1)) y4885.1 y4885.2.1 y4885.2.2.1 y4885.2.2.2.1 y4885.2.2.2.2.1 y4885.2.2.2.2.2.1 false false))))))))) else ((spec_shWalk_step k v4368 v4369 v4370 v4371 v4372 v4373 false false true).bind fun y4890 => (if y4890.2.2.2.2.2.2.1 = true then (if y4890.2.2.2.2.2.2.2 = true then (spec_shSimplest_l0_4 k a1 a2 K0 n (IntKind.i64.wrap (v4367 + 1)) y4890.1 y4890.2.1 y4890.2.2.1 y4890.2.2.2.1 y4890.2.2.2.2.1 y4890.2.2.2.2.2.1 true true) else (spec_shSimplest_l0_4 k a1 a2 K0 n (IntKind.i64.wrap (v4367 + 1)) y4890.1 y4890.2.1 y4890.2.2.1 y4890.2.2.2.1 y4890.2.2.2.2.1 y4890.2.2.2.2.2.1 false true)) else (if y4890.2.2.2.2.2.2.2 = true then (spec_shSimplest_l0_4 k a1 a2 K0 n (IntKind.i64.wrap (v4367 + 1)) y4890.1 y4890.2.1 y4890.2.2.1 y4890.2.2.2.1 y4890.2.2.2.2.1 y4890.2.2.2.2.2.1 true false) else (spec_shSimplest_l0_4 k a1 a2 K0 n (IntKind.i64.wrap (v4367 + 1)) y4890.1 y4890.2.1 y4890.2.2.1 y4890.2.2.2.1 y4890.2.2.2.2.1 y4890.2.2.2.2.2.1 false false))))) else (if (0 : Int) < (a2.length : Int) then ((spec_shNegAll a2).bind fun y4896 => ((spec_shMost y4896).bind fun y4898 => ((spec_shNeg y4898.1 y4898.2).bind fun y4900 => ((spec_shCmp y4900.1 y4900.2 v4368 v4369).bind fun y4902 => (if y4902 ≤ (0 : Int) then ((spec_shWalk_step k v4368 v4369 v4370 v4371 v4372 v4373 false false false).bind fun y4905 => (if y4905.2.2.2.2.2.2.1 = true then (if y4905.2.2.2.2.2.2.2 = true then (spec_shSimplest_l0_4 k a1 a2 K0 n (IntKind.i64.wrap (v4367 + 1)) y4905.1 y4905.2.1 y4905.2.2.1 y4905.2.2.2.1 y4905.2.2.2.2.1 y4905.2.2.2.2.2.1 true true) else (spec_shSimplest_l0_4 k a1 a2 K0 n (IntKind.i64.wrap (v4367 + 1)) y4905.1 y4905.2.1 y4905.2.2.1 y4905.2.2.2.1 y4905.2.2.2.2.1 y4905.2.2.2.2.2.1 false true)) else (if y4905.2.2.2.2.2.2.2 = true then (spec_shSimplest_l0_4 k a1 a2 K0 n (IntKind.i64.wrap (v4367 + 1)) y4905.1 y4905.2.1 y4905.2.2.1 y4905.2.2.2.1 y4905.2.2.2.2.1 y4905.2.2.2.2.2.1 true false) else (spec_shSimplest_l0_4 k a1 a2 K0 n (IntKind.i64.wrap (v4367 + 1)) y4905.1 y4905.2.1 y4905.2.2.1 y4905.2.2.2.1 y4905.2.2.2.2.1 y4905.2.2.2.2.2.1 false false)))) else some (v4368, v4369, true)))))) else some (v4368, v4369, true))))) else (if (0 : Int) < (a2.length : Int) then ((spec_shNegAll a2).bind fun y4911 => ((spec_shMost y4911).bind fun y4913 => ((spec_shNeg y4913.1 y4913.2).bind fun y4915 => ((spec_shCmp y4915.1 y4915.2 v4368 v4369).bind fun y4917 => (if y4917 ≤ (0 : Int) then ((spec_shWalk_step k v4368 v4369 v4370 v4371 v4372 v4373 false false false).bind fun y4920 => (if y4920.2.2.2.2.2.2.1 = true then (if y4920.2.2.2.2.2.2.2 = true then (spec_shSimplest_l0_4 k a1 a2 K0 n (IntKind.i64.wrap (v4367 + 1)) y4920.1 y4920.2.1 y4920.2.2.1 y4920.2.2.2.1 y4920.2.2.2.2.1 y4920.2.2.2.2.2.1 true true) else (spec_shSimplest_l0_4 k a1 a2 K0 n (IntKind.i64.wrap (v4367 + 1)) y4920.1 y4920.2.1 y4920.2.2.1 y4920.2.2.2.1 y4920.2.2.2.2.1 y4920.2.2.2.2.2.1 false true)) else (if y4920.2.2.2.2.2.2.2 = true then (spec_shSimplest_l0_4 k a1 a2 K0 n (IntKind.i64.wrap (v4367 + 1)) y4920.1 y4920.2.1 y4920.2.2.1 y4920.2.2.2.1 y4920.2.2.2.2.1 y4920.2.2.2.2.2.1 true false) else (spec_shSimplest_l0_4 k a1 a2 K0 n (IntKind.i64.wrap (v4367 + 1)) y4920.1 y4920.2.1 y4920.2.2.1 y4920.2.2.2.1 y4920.2.2.2.2.1 y4920.2.2.2.2.2.1 false false)))) else some (v4368, v4369, true)))))) else some (v4368, v4369, true))) else (K0))))
set_option maxHeartbeats 4000000 in
set_option maxRecDepth 100000 in
theorem spec_shSimplest_l0_4_ct {k : Nat} {a1 : Rw} {a2 : Rw} {K0 : Option (Int × Int × Bool)} {r : Int × Int × Bool} : ∀ (n : Nat) (v4367 : Int) (v4368 : Int) (v4369 : Int) (v4370 : Int) (v4371 : Int) (v4372 : Int) (v4373 : Int) (v4374 : Bool) (v4376 : Bool), spec_shSimplest_l0_4 k a1 a2 K0 n v4367 v4368 v4369 v4370 v4371 v4372 v4373 v4374 v4376 = some r → LoopOk prog 0 (lp f46 0) (mk 56 [(0, .d (D.sl a1)), (1, .d (D.sl a2)), (4, .ptr 256 0), (6, .ptr 384 0), (7, .d (D.int .i64 v4367))] [(256, .box 28 [.d (D.int .i64 0), .d (D.int .i64 0)]), (384, .box 139 [.d (D.int .i64 v4368), .d (D.int .i64 v4369), .d (D.int .i64 v4370), .d (D.int .i64 v4371), .d (D.int .i64 v4372), .d (D.int .i64 v4373), .d (D.bool v4376), .d (D.bool v4374)])]) (LoopEnd prog f46 0 56 (.tup [.agg [.d (D.int .i64 r.1), .d (D.int .i64 r.2.1)], .d (D.bool r.2.2)]) (⟨[], []⟩) (fun i ts os => (i = 0 ∧ K0 = some r ∧ ts = [(4, .ptr 256 0)] ∧ os = [(256, .box 28 [.d (D.int .i64 0), .d (D.int .i64 0)])])))
  | 0, _, _, _, _, _, _, _, _, _, h => by
      rw [spec_shSimplest_l0_4] at h; cases h
  | n + 1, v4367, v4368, v4369, v4370, v4371, v4372, v4373, v4374, v4376, h => by
      rw [spec_shSimplest_l0_4] at h
      cases v4374
      · replace h := condF h
        cases v4376
        · replace h := condF h
          refine LoopOk.step ?_
          conv => whnf
          refine splD (fun g4868 => ?_) (fun g4868 => ?_)
          · replace h := iteP h g4868
            conv => whnf
            refine splD (fun g4869 => ?_) (fun g4869 => ?_)
            · replace h := iteP h g4869
              conv => whnf
              refine Pick.no ?_
              conv => whnf
              obtain ⟨y4870, e4871, h⟩ := bind_ex h
              refine CallOk.of (spec_shMost_ct e4871) ?_
              conv => whnf
              refine Pick.no ?_
              conv => whnf
              obtain ⟨y4872, e4873, h⟩ := bind_ex h
              refine CallOk.of (spec_shCmp_ct e4873) ?_
              conv => whnf
              refine splD (fun g4874 => ?_) (fun g4874 => ?_)
              · replace h := iteP h g4874
                conv => whnf
                refine CutK.norm [0, 1, 4, 6, 7, 8] [256, 384] ?_
                conv => whnf
                refine splD (fun g4875 => ?_) (fun g4875 => ?_)
                · replace h := iteP h g4875
                  conv => whnf
                  refine Pick.no ?_
                  conv => whnf
                  obtain ⟨y4876, e4877, h⟩ := bind_ex h
                  refine CallOk.of (spec_shNegAll_ct e4877) ?_
                  conv => whnf
                  refine Pick.no ?_
                  conv => whnf
                  refine Take.all (rfl) ?_
                  conv => whnf
                  obtain ⟨y4878, e4879, h⟩ := bind_ex h
                  refine CallOk.of (spec_shMost_ct e4879) ?_
                  conv => whnf
                  refine Pick.no ?_
                  conv => whnf
                  obtain ⟨y4880, e4881, h⟩ := bind_ex h
                  refine CallOk.of (spec_shNeg_ct e4881) ?_
                  conv => whnf
                  refine Pick.no ?_
                  conv => whnf
                  obtain ⟨y4882, e4883, h⟩ := bind_ex h
                  refine CallOk.of (spec_shCmp_ct e4883) ?_
                  conv => whnf
                  refine splD (fun g4884 => ?_) (fun g4884 => ?_)
                  · replace h := iteP h g4884
                    conv => whnf
                    refine CutK.norm [0, 1, 4, 6, 7, 8, 9] [256, 384] ?_
                    conv => whnf
                    cases h
                    exact Done.of [] [] rfl rfl ⟨⟨rfl, rfl⟩, ⟨rfl, trivial⟩, ⟨⟨rfl, rfl, trivial⟩, rfl, trivial⟩, trivial⟩
                  · replace h := iteN h g4884
                    conv => whnf
                    refine CutK.norm [0, 1, 4, 6, 7, 8, 9] [256, 384] ?_
                    conv => whnf
                    refine splF ?_
                    conv => whnf
                    refine splF ?_
                    conv => whnf
                    refine Pick.no ?_
                    conv => whnf
                    obtain ⟨y4885, e4886, h⟩ := bind_ex h
                    refine CallOk.of (spec_shWalk_step_ct e4886) ?_
                    conv => whnf
                    refine spl (fun g4887 => ?_) (fun g4887 => ?_)
                    · replace h := iteT h g4887
                      conv => whnf
                      refine spl (fun g4888 => ?_) (fun g4888 => ?_)
                      · replace h := iteT h g4888
                        conv => whnf
                        refine CutK.norm [0, 1, 4, 6, 7] [256, 384] ?_
                        conv => whnf
                        exact LoopOk.back (spec_shSimplest_l0_4_ct  n _ _ _ _ _ _ _ _ _ h) [some 256, some 384] [] ⟨⟨rfl, rfl⟩, ⟨rfl, ⟨rfl, rfl, rfl, trivial⟩, ⟨rfl, rfl, rfl, rfl, rfl, rfl, rfl, rfl, rfl, trivial⟩, trivial⟩, rfl, rfl, ⟨rfl, rfl⟩, ⟨rfl, rfl⟩, rfl, trivial⟩
                      · replace h := iteF h g4888
                        conv => whnf
                        refine CutK.norm [0, 1, 4, 6, 7] [256, 384] ?_
                        conv => whnf
                        exact LoopOk.back (spec_shSimplest_l0_4_ct  n _ _ _ _ _ _ _ _ _ h) [some 256, some 384] [] ⟨⟨rfl, rfl⟩, ⟨rfl, ⟨rfl, rfl, rfl, trivial⟩, ⟨rfl, rfl, rfl, rfl, rfl, rfl, rfl, rfl, rfl, trivial⟩, trivial⟩, rfl, rfl, ⟨rfl, rfl⟩, ⟨rfl, rfl⟩, rfl, trivial⟩
                    · replace h := iteF h g4887
                      conv => whnf
                      refine spl (fun g4889 => ?_) (fun g4889 => ?_)
                      · replace h := iteT h g4889
                        conv => whnf
                        refine CutK.norm [0, 1, 4, 6, 7] [256, 384] ?_
                        conv => whnf
                        exact LoopOk.back (spec_shSimplest_l0_4_ct  n _ _ _ _ _ _ _ _ _ h) [some 256, some 384] [] ⟨⟨rfl, rfl⟩, ⟨rfl, ⟨rfl, rfl, rfl, trivial⟩, ⟨rfl, rfl, rfl, rfl, rfl, rfl, rfl, rfl, rfl, trivial⟩, trivial⟩, rfl, rfl, ⟨rfl, rfl⟩, ⟨rfl, rfl⟩, rfl, trivial⟩
                      · replace h := iteF h g4889
                        conv => whnf
                        refine CutK.norm [0, 1, 4, 6, 7] [256, 384] ?_
                        conv => whnf
                        exact LoopOk.back (spec_shSimplest_l0_4_ct  n _ _ _ _ _ _ _ _ _ h) [some 256, some 384] [] ⟨⟨rfl, rfl⟩, ⟨rfl, ⟨rfl, rfl, rfl, trivial⟩, ⟨rfl, rfl, rfl, rfl, rfl, rfl, rfl, rfl, rfl, trivial⟩, trivial⟩, rfl, rfl, ⟨rfl, rfl⟩, ⟨rfl, rfl⟩, rfl, trivial⟩
                · replace h := iteN h g4875
                  conv => whnf
                  refine CutK.norm [0, 1, 4, 6, 7, 8, 9] [256, 384] ?_
                  conv => whnf
                  refine splF ?_
                  conv => whnf
                  refine splF ?_
                  conv => whnf
                  refine Pick.no ?_
                  conv => whnf
                  obtain ⟨y4890, e4891, h⟩ := bind_ex h
                  refine CallOk.of (spec_shWalk_step_ct e4891) ?_
                  conv => whnf
                  refine spl (fun g4892 => ?_) (fun g4892 => ?_)
                  · replace h := iteT h g4892
                    conv => whnf
                    refine spl (fun g4893 => ?_) (fun g4893 => ?_)
                    · replace h := iteT h g4893
                      conv => whnf
                      refine CutK.norm [0, 1, 4, 6, 7] [256, 384] ?_
                      conv => whnf
                      exact LoopOk.back (spec_shSimplest_l0_4_ct  n _ _ _ _ _ _ _ _ _ h) [some 256, some 384] [] ⟨⟨rfl, rfl⟩, ⟨rfl, ⟨rfl, rfl, rfl, trivial⟩, ⟨rfl, rfl, rfl, rfl, rfl, rfl, rfl, rfl, rfl, trivial⟩, trivial⟩, rfl, rfl, ⟨rfl, rfl⟩, ⟨rfl, rfl⟩, rfl, trivial⟩
                    · replace h := iteF h g4893
                      conv => whnf
                      refine CutK.norm [0, 1, 4, 6, 7] [256, 384] ?_
                      conv => whnf
                      exact LoopOk.back (spec_shSimplest_l0_4_ct  n _ _ _ _ _ _ _ _ _ h) [some 256, some 384] [] ⟨⟨rfl, rfl⟩, ⟨rfl, ⟨rfl, rfl, rfl, trivial⟩, ⟨rfl, rfl, rfl, rfl, rfl, rfl, rfl, rfl, rfl, trivial⟩, trivial⟩, rfl, rfl, ⟨rfl, rfl⟩, ⟨rfl, rfl⟩, rfl, trivial⟩
                  · replace h := iteF h g4892
                    conv => whnf
                    refine spl (fun g4894 => ?_) (fun g4894 => ?_)
                    · replace h := iteT h g4894
                      conv => whnf
                      refine CutK.norm [0, 1, 4, 6, 7] [256, 384] ?_
                      conv => whnf
                      exact LoopOk.back (spec_shSimplest_l0_4_ct  n _ _ _ _ _ _ _ _ _ h) [some 256, some 384] [] ⟨⟨rfl, rfl⟩, ⟨rfl, ⟨rfl, rfl, rfl, trivial⟩, ⟨rfl, rfl, rfl, rfl, rfl, rfl, rfl, rfl, rfl, trivial⟩, trivial⟩, rfl, rfl, ⟨rfl, rfl⟩, ⟨rfl, rfl⟩, rfl, trivial⟩
                    · replace h := iteF h g4894
                      conv => whnf
                      refine CutK.norm [0, 1, 4, 6, 7] [256, 384] ?_
                      conv => whnf
                      exact LoopOk.back (spec_shSimplest_l0_4_ct  n _ _ _ _ _ _ _ _ _ h) [some 256, some 384] [] ⟨⟨rfl, rfl⟩, ⟨rfl, ⟨rfl, rfl, rfl, trivial⟩, ⟨rfl, rfl, rfl, rfl, rfl, rfl, rfl, rfl, rfl, trivial⟩, trivial⟩, rfl, rfl, ⟨rfl, rfl⟩, ⟨rfl, rfl⟩, rfl, trivial⟩
              · replace h := iteN h g4874
                conv => whnf
                refine CutK.norm [0, 1, 4, 6, 7, 8] [256, 384] ?_
                conv => whnf
                refine splD (fun g4895 => ?_) (fun g4895 => ?_)
                · replace h := iteP h g4895
                  conv => whnf
                  refine Pick.no ?_
                  conv => whnf
                  obtain ⟨y4896, e4897, h⟩ := bind_ex h
                  refine CallOk.of (spec_shNegAll_ct e4897) ?_
                  conv => whnf
                  refine Pick.no ?_
                  conv => whnf
                  refine Take.all (rfl) ?_
                  conv => whnf
                  obtain ⟨y4898, e4899, h⟩ := bind_ex h
                  refine CallOk.of (spec_shMost_ct e4899) ?_
                  conv => whnf
                  refine Pick.no ?_
                  conv => whnf
                  obtain ⟨y4900, e4901, h⟩ := bind_ex h
                  refine CallOk.of (spec_shNeg_ct e4901) ?_
                  conv => whnf
                  refine Pick.no ?_
                  conv => whnf
                  obtain ⟨y4902, e4903, h⟩ := bind_ex h
                  refine CallOk.of (spec_shCmp_ct e4903) ?_
                  conv => whnf
                  refine splD (fun g4904 => ?_) (fun g4904 => ?_)
                  · replace h := iteP h g4904
                    conv => whnf
                    refine CutK.norm [0, 1, 4, 6, 7, 8, 9] [256, 384] ?_
                    conv => whnf
                    refine splF ?_
                    conv => whnf
                    refine splF ?_
                    conv => whnf
                    refine Pick.no ?_
                    conv => whnf
                    obtain ⟨y4905, e4906, h⟩ := bind_ex h
                    refine CallOk.of (spec_shWalk_step_ct e4906) ?_
                    conv => whnf
                    refine spl (fun g4907 => ?_) (fun g4907 => ?_)
                    · replace h := iteT h g4907
                      conv => whnf
                      refine spl (fun g4908 => ?_) (fun g4908 => ?_)
                      · replace h := iteT h g4908
                        conv => whnf
                        refine CutK.norm [0, 1, 4, 6, 7] [256, 384] ?_
                        conv => whnf
                        exact LoopOk.back (spec_shSimplest_l0_4_ct  n _ _ _ _ _ _ _ _ _ h) [some 256, some 384] [] ⟨⟨rfl, rfl⟩, ⟨rfl, ⟨rfl, rfl, rfl, trivial⟩, ⟨rfl, rfl, rfl, rfl, rfl, rfl, rfl, rfl, rfl, trivial⟩, trivial⟩, rfl, rfl, ⟨rfl, rfl⟩, ⟨rfl, rfl⟩, rfl, trivial⟩
                      · replace h := iteF h g4908
                        conv => whnf
                        refine CutK.norm [0, 1, 4, 6, 7] [256, 384] ?_
                        conv => whnf
                        exact LoopOk.back (spec_shSimplest_l0_4_ct  n _ _ _ _ _ _ _ _ _ h) [some 256, some 384] [] ⟨⟨rfl, rfl⟩, ⟨rfl, ⟨rfl, rfl, rfl, trivial⟩, ⟨rfl, rfl, rfl, rfl, rfl, rfl, rfl, rfl, rfl, trivial⟩, trivial⟩, rfl, rfl, ⟨rfl, rfl⟩, ⟨rfl, rfl⟩, rfl, trivial⟩
                    · replace h := iteF h g4907
                      conv => whnf
                      refine spl (fun g4909 => ?_) (fun g4909 => ?_)
                      · replace h := iteT h g4909
                        conv => whnf
                        refine CutK.norm [0, 1, 4, 6, 7] [256, 384] ?_
                        conv => whnf
                        exact LoopOk.back (spec_shSimplest_l0_4_ct  n _ _ _ _ _ _ _ _ _ h) [some 256, some 384] [] ⟨⟨rfl, rfl⟩, ⟨rfl, ⟨rfl, rfl, rfl, trivial⟩, ⟨rfl, rfl, rfl, rfl, rfl, rfl, rfl, rfl, rfl, trivial⟩, trivial⟩, rfl, rfl, ⟨rfl, rfl⟩, ⟨rfl, rfl⟩, rfl, trivial⟩
                      · replace h := iteF h g4909
                        conv => whnf
                        refine CutK.norm [0, 1, 4, 6, 7] [256, 384] ?_
                        conv => whnf
                        exact LoopOk.back (spec_shSimplest_l0_4_ct  n _ _ _ _ _ _ _ _ _ h) [some 256, some 384] [] ⟨⟨rfl, rfl⟩, ⟨rfl, ⟨rfl, rfl, rfl, trivial⟩, ⟨rfl, rfl, rfl, rfl, rfl, rfl, rfl, rfl, rfl, trivial⟩, trivial⟩, rfl, rfl, ⟨rfl, rfl⟩, ⟨rfl, rfl⟩, rfl, trivial⟩
                  · replace h := iteN h g4904
                    conv => whnf
                    refine CutK.norm [0, 1, 4, 6, 7, 8, 9] [256, 384] ?_
                    conv => whnf
                    cases h
                    exact Done.of [] [] rfl rfl ⟨⟨rfl, rfl⟩, ⟨rfl, trivial⟩, ⟨⟨rfl, rfl, trivial⟩, rfl, trivial⟩, trivial⟩
                · replace h := iteN h g4895
                  conv => whnf
                  refine CutK.norm [0, 1, 4, 6, 7, 8, 9] [256, 384] ?_
                  conv => whnf
                  cases h
                  exact Done.of [] [] rfl rfl ⟨⟨rfl, rfl⟩, ⟨rfl, trivial⟩, ⟨⟨rfl, rfl, trivial⟩, rfl, trivial⟩, trivial⟩
            · replace h := iteN h g4869
              conv => whnf
              refine CutK.norm [0, 1, 4, 6, 7, 8] [256, 384] ?_
              conv => whnf
              refine splD (fun g4910 => ?_) (fun g4910 => ?_)
              · replace h := iteP h g4910
                conv => whnf
                refine Pick.no ?_
                conv => whnf
                obtain ⟨y4911, e4912, h⟩ := bind_ex h
                refine CallOk.of (spec_shNegAll_ct e4912) ?_
                conv => whnf
                refine Pick.no ?_
                conv => whnf
                refine Take.all (rfl) ?_
                conv => whnf
                obtain ⟨y4913, e4914, h⟩ := bind_ex h
                refine CallOk.of (spec_shMost_ct e4914) ?_
                conv => whnf
                refine Pick.no ?_
                conv => whnf
                obtain ⟨y4915, e4916, h⟩ := bind_ex h
                refine CallOk.of (spec_shNeg_ct e4916) ?_
                conv => whnf
                refine Pick.no ?_
                conv => whnf
                obtain ⟨y4917, e4918, h⟩ := bind_ex h
                refine CallOk.of (spec_shCmp_ct e4918) ?_
                conv => whnf
                refine splD (fun g4919 => ?_) (fun g4919 => ?_)
                · replace h := iteP h g4919
                  conv => whnf
                  refine CutK.norm [0, 1, 4, 6, 7, 8, 9] [256, 384] ?_
                  conv => whnf
                  refine splF ?_
                  conv => whnf
                  refine splF ?_
                  conv => whnf
                  refine Pick.no ?_
                  conv => whnf
                  obtain ⟨y4920, e4921, h⟩ := bind_ex h
                  refine CallOk.of (spec_shWalk_step_ct e4921) ?_
                  conv => whnf
                  refine spl (fun g4922 => ?_) (fun g4922 => ?_)
                  · replace h := iteT h g4922
                    conv => whnf
                    refine spl (fun g4923 => ?_) (fun g4923 => ?_)
                    · replace h := iteT h g4923
                      conv => whnf
                      refine CutK.norm [0, 1, 4, 6, 7] [256, 384] ?_
                      conv => whnf
                      exact LoopOk.back (spec_shSimplest_l0_4_ct  n _ _ _ _ _ _ _ _ _ h) [some 256, some 384] [] ⟨⟨rfl, rfl⟩, ⟨rfl, ⟨rfl, rfl, rfl, trivial⟩, ⟨rfl, rfl, rfl, rfl, rfl, rfl, rfl, rfl, rfl, trivial⟩, trivial⟩, rfl, rfl, ⟨rfl, rfl⟩, ⟨rfl, rfl⟩, rfl, trivial⟩
                    · replace h := iteF h g4923
                      conv => whnf
                      refine CutK.norm [0, 1, 4, 6, 7] [256, 384] ?_
                      conv => whnf
                      exact LoopOk.back (spec_shSimplest_l0_4_ct  n _ _ _ _ _ _ _ _ _ h) [some 256, some 384] [] ⟨⟨rfl, rfl⟩, ⟨rfl, ⟨rfl, rfl, rfl, trivial⟩, ⟨rfl, rfl, rfl, rfl, rfl, rfl, rfl, rfl, rfl, trivial⟩, trivial⟩, rfl, rfl, ⟨rfl, rfl⟩, ⟨rfl, rfl⟩, rfl, trivial⟩
                  · replace h := iteF h g4922
                    conv => whnf
                    refine spl (fun g4924 => ?_) (fun g4924 => ?_)
                    · replace h := iteT h g4924
                      conv => whnf
                      refine CutK.norm [0, 1, 4, 6, 7] [256, 384] ?_
                      conv => whnf
                      exact LoopOk.back (spec_shSimplest_l0_4_ct  n _ _ _ _ _ _ _ _ _ h) [some 256, some 384] [] ⟨⟨rfl, rfl⟩, ⟨rfl, ⟨rfl, rfl, rfl, trivial⟩, ⟨rfl, rfl, rfl, rfl, rfl, rfl, rfl, rfl, rfl, trivial⟩, trivial⟩, rfl, rfl, ⟨rfl, rfl⟩, ⟨rfl, rfl⟩, rfl, trivial⟩
                    · replace h := iteF h g4924
                      conv => whnf
                      refine CutK.norm [0, 1, 4, 6, 7] [256, 384] ?_
                      conv => whnf
                      exact LoopOk.back (spec_shSimplest_l0_4_ct  n _ _ _ _ _ _ _ _ _ h) [some 256, some 384] [] ⟨⟨rfl, rfl⟩, ⟨rfl, ⟨rfl, rfl, rfl, trivial⟩, ⟨rfl, rfl, rfl, rfl, rfl, rfl, rfl, rfl, rfl, trivial⟩, trivial⟩, rfl, rfl, ⟨rfl, rfl⟩, ⟨rfl, rfl⟩, rfl, trivial⟩
                · replace h := iteN h g4919
                  conv => whnf
                  refine CutK.norm [0, 1, 4, 6, 7, 8, 9] [256, 384] ?_
                  conv => whnf
                  cases h
                  exact Done.of [] [] rfl rfl ⟨⟨rfl, rfl⟩, ⟨rfl, trivial⟩, ⟨⟨rfl, rfl, trivial⟩, rfl, trivial⟩, trivial⟩
              · replace h := iteN h g4910
                conv => whnf
                refine CutK.norm [0, 1, 4, 6, 7, 8, 9] [256, 384] ?_
                conv => whnf
                cases h
                exact Done.of [] [] rfl rfl ⟨⟨rfl, rfl⟩, ⟨rfl, trivial⟩, ⟨⟨rfl, rfl, trivial⟩, rfl, trivial⟩, trivial⟩
          · replace h := iteN h g4868
            conv => whnf
            exact ⟨_, _, [some 256], [], ⟨rfl, h, rfl, rfl⟩, ⟨⟨rfl, rfl⟩, ⟨rfl, ⟨rfl, rfl, rfl, trivial⟩, trivial⟩, ⟨rfl, rfl⟩, trivial⟩⟩
        · replace h := condT h
          refine LoopOk.step ?_
          conv => whnf
          refine splD (fun g4925 => ?_) (fun g4925 => ?_)
          · replace h := iteP h g4925
            conv => whnf
            refine splD (fun g4926 => ?_) (fun g4926 => ?_)
            · replace h := iteP h g4926
              conv => whnf
              refine Pick.no ?_
              conv => whnf
              obtain ⟨y4927, e4928, h⟩ := bind_ex h
              refine CallOk.of (spec_shMost_ct e4928) ?_
              conv => whnf
              refine Pick.no ?_
              conv => whnf
              obtain ⟨y4929, e4930, h⟩ := bind_ex h
              refine CallOk.of (spec_shCmp_ct e4930) ?_
              conv => whnf
              refine splD (fun g4931 => ?_) (fun g4931 => ?_)
              · replace h := iteP h g4931
                conv => whnf
                refine CutK.norm [0, 1, 4, 6, 7, 8] [256, 384] ?_
                conv => whnf
                refine splD (fun g4932 => ?_) (fun g4932 => ?_)
                · replace h := iteP h g4932
                  conv => whnf
                  refine Pick.no ?_
                  conv => whnf
                  obtain ⟨y4933, e4934, h⟩ := bind_ex h
                  refine CallOk.of (spec_shNegAll_ct e4934) ?_
                  conv => whnf
                  refine Pick.no ?_
                  conv => whnf
                  refine Take.all (rfl) ?_
                  conv => whnf
                  obtain ⟨y4935, e4936, h⟩ := bind_ex h
                  refine CallOk.of (spec_shMost_ct e4936) ?_
                  conv => whnf
                  refine Pick.no ?_
                  conv => whnf
                  obtain ⟨y4937, e4938, h⟩ := bind_ex h
                  refine CallOk.of (spec_shNeg_ct e4938) ?_
                  conv => whnf
                  refine Pick.no ?_
                  conv => whnf
                  obtain ⟨y4939, e4940, h⟩ := bind_ex h
                  refine CallOk.of (spec_shCmp_ct e4940) ?_
                  conv => whnf
                  refine splD (fun g4941 => ?_) (fun g4941 => ?_)
                  · replace h := iteP h g4941
                    conv => whnf
                    refine CutK.norm [0, 1, 4, 6, 7, 8, 9] [256, 384] ?_
                    conv => whnf
                    cases h
                    exact Done.of [] [] rfl rfl ⟨⟨rfl, rfl⟩, ⟨rfl, trivial⟩, ⟨⟨rfl, rfl, trivial⟩, rfl, trivial⟩, trivial⟩
                  · replace h := iteN h g4941
                    conv => whnf
                    refine CutK.norm [0, 1, 4, 6, 7, 8, 9] [256, 384] ?_
                    conv => whnf
                    refine splT ?_
                    conv => whnf
                    refine splF ?_
                    conv => whnf
                    refine Pick.no ?_
                    conv => whnf
                    obtain ⟨y4942, e4943, h⟩ := bind_ex h
                    refine CallOk.of (spec_shWalk_step_ct e4943) ?_
                    conv => whnf
                    refine spl (fun g4944 => ?_) (fun g4944 => ?_)
                    · replace h := iteT h g4944
                      conv => whnf
                      refine spl (fun g4945 => ?_) (fun g4945 => ?_)
                      · replace h := iteT h g4945
                        conv => whnf
                        refine CutK.norm [0, 1, 4, 6, 7] [256, 384] ?_
                        conv => whnf
                        exact LoopOk.back (spec_shSimplest_l0_4_ct  n _ _ _ _ _ _ _ _ _ h) [some 256, some 384] [] ⟨⟨rfl, rfl⟩, ⟨rfl, ⟨rfl, rfl, rfl, trivial⟩, ⟨rfl, rfl, rfl, rfl, rfl, rfl, rfl, rfl, rfl, trivial⟩, trivial⟩, rfl, rfl, ⟨rfl, rfl⟩, ⟨rfl, rfl⟩, rfl, trivial⟩
                      · replace h := iteF h g4945
                        conv => whnf
                        refine CutK.norm [0, 1, 4, 6, 7] [256, 384] ?_
                        conv => whnf
                        exact LoopOk.back (spec_shSimplest_l0_4_ct  n _ _ _ _ _ _ _ _ _ h) [some 256, some 384] [] ⟨⟨rfl, rfl⟩, ⟨rfl, ⟨rfl, rfl, rfl, trivial⟩, ⟨rfl, rfl, rfl, rfl, rfl, rfl, rfl, rfl, rfl, trivial⟩, trivial⟩, rfl, rfl, ⟨rfl, rfl⟩, ⟨rfl, rfl⟩, rfl, trivial⟩
                    · replace h := iteF h g4944
                      conv => whnf
                      refine spl (fun g4946 => ?_) (fun g4946 => ?_)
                      · replace h := iteT h g4946
                        conv => whnf
                        refine CutK.norm [0, 1, 4, 6, 7] [256, 384] ?_
                        conv => whnf
                        exact LoopOk.back (spec_shSimplest_l0_4_ct  n _ _ _ _ _ _ _ _ _ h) [some 256, some 384] [] ⟨⟨rfl, rfl⟩, ⟨rfl, ⟨rfl, rfl, rfl, trivial⟩, ⟨rfl, rfl, rfl, rfl, rfl, rfl, rfl, rfl, rfl, trivial⟩, trivial⟩, rfl, rfl, ⟨rfl, rfl⟩, ⟨rfl, rfl⟩, rfl, trivial⟩
                      · replace h := iteF h g4946
                        conv => whnf
                        refine CutK.norm [0, 1, 4, 6, 7] [256, 384] ?_
                        conv => whnf
                        exact LoopOk.back (spec_shSimplest_l0_4_ct  n _ _ _ _ _ _ _ _ _ h) [some 256, some 384] [] ⟨⟨rfl, rfl⟩, ⟨rfl, ⟨rfl, rfl, rfl, trivial⟩, ⟨rfl, rfl, rfl, rfl, rfl, rfl, rfl, rfl, rfl, trivial⟩, trivial⟩, rfl, rfl, ⟨rfl, rfl⟩, ⟨rfl, rfl⟩, rfl, trivial⟩
                · replace h := iteN h g4932
                  conv => whnf
                  refine CutK.norm [0, 1, 4, 6, 7, 8, 9] [256, 384] ?_
                  conv => whnf
                  refine splT ?_
                  conv => whnf
                  refine splF ?_
                  conv => whnf
                  refine Pick.no ?_
                  conv => whnf
                  obtain ⟨y4947, e4948, h⟩ := bind_ex h
                  refine CallOk.of (spec_shWalk_step_ct e4948) ?_
                  conv => whnf
                  refine spl (fun g4949 => ?_) (fun g4949 => ?_)
                  · replace h := iteT h g4949
                    conv => whnf
                    refine spl (fun g4950 => ?_) (fun g4950 => ?_)
                    · replace h := iteT h g4950
                      conv => whnf
                      refine CutK.norm [0, 1, 4, 6, 7] [256, 384] ?_
                      conv => whnf
                      exact LoopOk.back (spec_shSimplest_l0_4_ct  n _ _ _ _ _ _ _ _ _ h) [some 256, some 384] [] ⟨⟨rfl, rfl⟩, ⟨rfl, ⟨rfl, rfl, rfl, trivial⟩, ⟨rfl, rfl, rfl, rfl, rfl, rfl, rfl, rfl, rfl, trivial⟩, trivial⟩, rfl, rfl, ⟨rfl, rfl⟩, ⟨rfl, rfl⟩, rfl, trivial⟩
                    · replace h := iteF h g4950
                      conv => whnf
                      refine CutK.norm [0, 1, 4, 6, 7] [256, 384] ?_
                      conv => whnf
                      exact LoopOk.back (spec_shSimplest_l0_4_ct  n _ _ _ _ _ _ _ _ _ h) [some 256, some 384] [] ⟨⟨rfl, rfl⟩, ⟨rfl, ⟨rfl, rfl, rfl, trivial⟩, ⟨rfl, rfl, rfl, rfl, rfl, rfl, rfl, rfl, rfl, trivial⟩, trivial⟩, rfl, rfl, ⟨rfl, rfl⟩, ⟨rfl, rfl⟩, rfl, trivial⟩
                  · replace h := iteF h g4949
                    conv => whnf
                    refine spl (fun g4951 => ?_) (fun g4951 => ?_)
                    · replace h := iteT h g4951
                      conv => whnf
                      refine CutK.norm [0, 1, 4, 6, 7] [256, 384] ?_
                      conv => whnf
                      exact LoopOk.back (spec_shSimplest_l0_4_ct  n _ _ _ _ _ _ _ _ _ h) [some 256, some 384] [] ⟨⟨rfl, rfl⟩, ⟨rfl, ⟨rfl, rfl, rfl, trivial⟩, ⟨rfl, rfl, rfl, rfl, rfl, rfl, rfl, rfl, rfl, trivial⟩, trivial⟩, rfl, rfl, ⟨rfl, rfl⟩, ⟨rfl, rfl⟩, rfl, trivial⟩
                    · replace h := iteF h g4951
                      conv => whnf
                      refine CutK.norm [0, 1, 4, 6, 7] [256, 384] ?_
                      conv => whnf
                      exact LoopOk.back (spec_shSimplest_l0_4_ct  n _ _ _ _ _ _ _ _ _ h) [some 256, some 384] [] ⟨⟨rfl, rfl⟩, ⟨rfl, ⟨rfl, rfl, rfl, trivial⟩, ⟨rfl, rfl, rfl, rfl, rfl, rfl, rfl, rfl, rfl, trivial⟩, trivial⟩, rfl, rfl, ⟨rfl, rfl⟩, ⟨rfl, rfl⟩, rfl, trivial⟩
              · replace h := iteN h g4931
                conv => whnf
                refine CutK.norm [0, 1, 4, 6, 7, 8] [256, 384] ?_
                conv => whnf
                refine splD (fun g4952 => ?_) (fun g4952 => ?_)
                · replace h := iteP h g4952
                  conv => whnf
                  refine Pick.no ?_
                  conv => whnf
                  obtain ⟨y4953, e4954, h⟩ := bind_ex h
                  refine CallOk.of (spec_shNegAll_ct e4954) ?_
                  conv => whnf
                  refine Pick.no ?_
                  conv => whnf
                  refine Take.all (rfl) ?_
                  conv => whnf
                  obtain ⟨y4955, e4956, h⟩ := bind_ex h
                  refine CallOk.of (spec_shMost_ct e4956) ?_
                  conv => whnf
                  refine Pick.no ?_
                  conv => whnf
                  obtain ⟨y4957, e4958, h⟩ := bind_ex h
                  refine CallOk.of (spec_shNeg_ct e4958) ?_
                  conv => whnf
                  refine Pick.no ?_
                  conv => whnf
                  obtain ⟨y4959, e4960, h⟩ := bind_ex h
                  refine CallOk.of (spec_shCmp_ct e4960) ?_
                  conv => whnf
                  refine splD (fun g4961 => ?_) (fun g4961 => ?_)
                  · replace h := iteP h g4961
                    conv => whnf
                    refine CutK.norm [0, 1, 4, 6, 7, 8, 9] [256, 384] ?_
                    conv => whnf
                    refine splT ?_
                    conv => whnf
                    refine splF ?_
                    conv => whnf
                    refine Pick.no ?_
                    conv => whnf
                    obtain ⟨y4962, e4963, h⟩ := bind_ex h
                    refine CallOk.of (spec_shWalk_step_ct e4963) ?_
                    conv => whnf
                    refine spl (fun g4964 => ?_) (fun g4964 => ?_)
                    · replace h := iteT h g4964
                      conv => whnf
                      refine spl (fun g4965 => ?_) (fun g4965 => ?_)
                      · replace h := iteT h g4965
                        conv => whnf
                        refine CutK.norm [0, 1, 4, 6, 7] [256, 384] ?_
                        conv => whnf
                        exact LoopOk.back (spec_shSimplest_l0_4_ct  n _ _ _ _ _ _ _ _ _ h) [some 256, some 384] [] ⟨⟨rfl, rfl⟩, ⟨rfl, ⟨rfl, rfl, rfl, trivial⟩, ⟨rfl, rfl, rfl, rfl, rfl, rfl, rfl, rfl, rfl, trivial⟩, trivial⟩, rfl, rfl, ⟨rfl, rfl⟩, ⟨rfl, rfl⟩, rfl, trivial⟩
                      · replace h := iteF h g4965
                        conv => whnf
                        refine CutK.norm [0, 1, 4, 6, 7] [256, 384] ?_
                        conv => whnf
                        exact LoopOk.back (spec_shSimplest_l0_4_ct  n _ _ _ _ _ _ _ _ _ h) [some 256, some 384] [] ⟨⟨rfl, rfl⟩, ⟨rfl, ⟨rfl, rfl, rfl, trivial⟩, ⟨rfl, rfl, rfl, rfl, rfl, rfl, rfl, rfl, rfl, trivial⟩, trivial⟩, rfl, rfl, ⟨rfl, rfl⟩, ⟨rfl, rfl⟩, rfl, trivial⟩
                    · replace h := iteF h g4964
                      conv => whnf
                      refine spl (fun g4966 => ?_) (fun g4966 => ?_)
                      · replace h := iteT h g4966
                        conv => whnf
                        refine CutK.norm [0, 1, 4, 6, 7] [256, 384] ?_
                        conv => whnf
                        exact LoopOk.back (spec_shSimplest_l0_4_ct  n _ _ _ _ _ _ _ _ _ h) [some 256, some 384] [] ⟨⟨rfl, rfl⟩, ⟨rfl, ⟨rfl, rfl, rfl, trivial⟩, ⟨rfl, rfl, rfl, rfl, rfl, rfl, rfl, rfl, rfl, trivial⟩, trivial⟩, rfl, rfl, ⟨rfl, rfl⟩, ⟨rfl, rfl⟩, rfl, trivial⟩
                      · replace h := iteF h g4966
                        conv => whnf
                        refine CutK.norm [0, 1, 4, 6, 7] [256, 384] ?_
                        conv => whnf
                        exact LoopOk.back (spec_shSimplest_l0_4_ct  n _ _ _ _ _ _ _ _ _ h) [some 256, some 384] [] ⟨⟨rfl, rfl⟩, ⟨rfl, ⟨rfl, rfl, rfl, trivial⟩, ⟨rfl, rfl, rfl, rfl, rfl, rfl, rfl, rfl, rfl, trivial⟩, trivial⟩, rfl, rfl, ⟨rfl, rfl⟩, ⟨rfl, rfl⟩, rfl, trivial⟩
                  · replace h := iteN h g4961
                    conv => whnf
                    refine CutK.norm [0, 1, 4, 6, 7, 8, 9] [256, 384] ?_
                    conv => whnf
                    cases h
                    exact Done.of [] [] rfl rfl ⟨⟨rfl, rfl⟩, ⟨rfl, trivial⟩, ⟨⟨rfl, rfl, trivial⟩, rfl, trivial⟩, trivial⟩
                · replace h := iteN h g4952
                  conv => whnf
                  refine CutK.norm [0, 1, 4, 6, 7, 8, 9] [256, 384] ?_
                  conv => whnf
                  cases h
                  exact Done.of [] [] rfl rfl ⟨⟨rfl, rfl⟩, ⟨rfl, trivial⟩, ⟨⟨rfl, rfl, trivial⟩, rfl, trivial⟩, trivial⟩
            · replace h := iteN h g4926
              conv => whnf
              refine CutK.norm [0, 1, 4, 6, 7, 8] [256, 384] ?_
              conv => whnf
              refine splD (fun g4967 => ?_) (fun g4967 => ?_)
              · replace h := iteP h g4967
                conv => whnf
                refine Pick.no ?_
                conv => whnf
                obtain ⟨y4968, e4969, h⟩ := bind_ex h
                refine CallOk.of (spec_shNegAll_ct e4969) ?_
                conv => whnf
                refine Pick.no ?_
                conv => whnf
                refine Take.all (rfl) ?_
                conv => whnf
                obtain ⟨y4970, e4971, h⟩ := bind_ex h
                refine CallOk.of (spec_shMost_ct e4971) ?_
                conv => whnf
                refine Pick.no ?_
                conv => whnf
                obtain ⟨y4972, e4973, h⟩ := bind_ex h
                refine CallOk.of (spec_shNeg_ct e4973) ?_
                conv => whnf
                refine Pick.no ?_
                conv => whnf
                obtain ⟨y4974, e4975, h⟩ := bind_ex h
                refine CallOk.of (spec_shCmp_ct e4975) ?_
                conv => whnf
                refine splD (fun g4976 => ?_) (fun g4976 => ?_)
                · replace h := iteP h g4976
                  conv => whnf
                  refine CutK.norm [0, 1, 4, 6, 7, 8, 9] [256, 384] ?_
                  conv => whnf
                  refine splT ?_
                  conv => whnf
                  refine splF ?_
                  conv => whnf
                  refine Pick.no ?_
                  conv => whnf
                  obtain ⟨y4977, e4978, h⟩ := bind_ex h
                  refine CallOk.of (spec_shWalk_step_ct e4978) ?_
                  conv => whnf
                  refine spl (fun g4979 => ?_) (fun g4979 => ?_)
                  · replace h := iteT h g4979
                    conv => whnf
                    refine spl (fun g4980 => ?_) (fun g4980 => ?_)
                    · replace h := iteT h g4980
                      conv => whnf
                      refine CutK.norm [0, 1, 4, 6, 7] [256, 384] ?_
                      conv => whnf
                      exact LoopOk.back (spec_shSimplest_l0_4_ct  n _ _ _ _ _ _ _ _ _ h) [some 256, some 384] [] ⟨⟨rfl, rfl⟩, ⟨rfl, ⟨rfl, rfl, rfl, trivial⟩, ⟨rfl, rfl, rfl, rfl, rfl, rfl, rfl, rfl, rfl, trivial⟩, trivial⟩, rfl, rfl, ⟨rfl, rfl⟩, ⟨rfl, rfl⟩, rfl, trivial⟩
                    · replace h := iteF h g4980
                      conv => whnf
                      refine CutK.norm [0, 1, 4, 6, 7] [256, 384] ?_
                      conv => whnf
                      exact LoopOk.back (spec_shSimplest_l0_4_ct  n _ _ _ _ _ _ _ _ _ h) [some 256, some 384] [] ⟨⟨rfl, rfl⟩, ⟨rfl, ⟨rfl, rfl, rfl, trivial⟩, ⟨rfl, rfl, rfl, rfl, rfl, rfl, rfl, rfl, rfl, trivial⟩, trivial⟩, rfl, rfl, ⟨rfl, rfl⟩, ⟨rfl, rfl⟩, rfl, trivial⟩
                  · replace h := iteF h g4979
                    conv => whnf
                    refine spl (fun g4981 => ?_) (fun g4981 => ?_)
                    · replace h := iteT h g4981
                      conv => whnf
                      refine CutK.norm [0, 1, 4, 6, 7] [256, 384] ?_
                      conv => whnf
                      exact LoopOk.back (spec_shSimplest_l0_4_ct  n _ _ _ _ _ _ _ _ _ h) [some 256, some 384] [] ⟨⟨rfl, rfl⟩, ⟨rfl, ⟨rfl, rfl, rfl, trivial⟩, ⟨rfl, rfl, rfl, rfl, rfl, rfl, rfl, rfl, rfl, trivial⟩, trivial⟩, rfl, rfl, ⟨rfl, rfl⟩, ⟨rfl, rfl⟩, rfl, trivial⟩
                    · replace h := iteF h g4981
                      conv => whnf
                      refine CutK.norm [0, 1, 4, 6, 7] [256, 384] ?_
                      conv => whnf
                      exact LoopOk.back (spec_shSimplest_l0_4_ct  n _ _ _ _ _ _ _ _ _ h) [some 256, some 384] [] ⟨⟨rfl, rfl⟩, ⟨rfl, ⟨rfl, rfl, rfl, trivial⟩, ⟨rfl, rfl, rfl, rfl, rfl, rfl, rfl, rfl, rfl, trivial⟩, trivial⟩, rfl, rfl, ⟨rfl, rfl⟩, ⟨rfl, rfl⟩, rfl, trivial⟩
                · replace h := iteN h g4976
                  conv => whnf
                  refine CutK.norm [0, 1, 4, 6, 7, 8, 9] [256, 384] ?_
                  conv => whnf
                  cases h
                  exact Done.of [] [] rfl rfl ⟨⟨rfl, rfl⟩, ⟨rfl, trivial⟩, ⟨⟨rfl, rfl, trivial⟩, rfl, trivial⟩, trivial⟩
              · replace h := iteN h g4967
                conv => whnf
                refine CutK.norm [0, 1, 4, 6, 7, 8, 9] [256, 384] ?_
                conv => whnf
                cases h
                exact Done.of [] [] rfl rfl ⟨⟨rfl, rfl⟩, ⟨rfl, trivial⟩, ⟨⟨rfl, rfl, trivial⟩, rfl, trivial⟩, trivial⟩
          · replace h := iteN h g4925
            conv => whnf
            exact ⟨_, _, [some 256], [], ⟨rfl, h, rfl, rfl⟩, ⟨⟨rfl, rfl⟩, ⟨rfl, ⟨rfl, rfl, rfl, trivial⟩, trivial⟩, ⟨rfl, rfl⟩, trivial⟩⟩
      · replace h := condT h
        cases v4376
        · replace h := condF h
          refine LoopOk.step ?_
          conv => whnf
          refine splD (fun g4982 => ?_) (fun g4982 => ?_)
          · replace h := iteP h g4982
            conv => whnf
            refine splD (fun g4983 => ?_) (fun g4983 => ?_)
            · replace h := iteP h g4983
              conv => whnf
              refine Pick.no ?_
              conv => whnf
              obtain ⟨y4984, e4985, h⟩ := bind_ex h
              refine CallOk.of (spec_shMost_ct e4985) ?_
              conv => whnf
              refine Pick.no ?_
              conv => whnf
              obtain ⟨y4986, e4987, h⟩ := bind_ex h
              refine CallOk.of (spec_shCmp_ct e4987) ?_
              conv => whnf
              refine splD (fun g4988 => ?_) (fun g4988 => ?_)
              · replace h := iteP h g4988
                conv => whnf
                refine CutK.norm [0, 1, 4, 6, 7, 8] [256, 384] ?_
                conv => whnf
                refine splD (fun g4989 => ?_) (fun g4989 => ?_)
                · replace h := iteP h g4989
                  conv => whnf
                  refine Pick.no ?_
                  conv => whnf
                  obtain ⟨y4990, e4991, h⟩ := bind_ex h
                  refine CallOk.of (spec_shNegAll_ct e4991) ?_
                  conv => whnf
                  refine Pick.no ?_
                  conv => whnf
                  refine Take.all (rfl) ?_
                  conv => whnf
                  obtain ⟨y4992, e4993, h⟩ := bind_ex h
                  refine CallOk.of (spec_shMost_ct e4993) ?_
                  conv => whnf
                  refine Pick.no ?_
                  conv => whnf
                  obtain ⟨y4994, e4995, h⟩ := bind_ex h
                  refine CallOk.of (spec_shNeg_ct e4995) ?_
                  conv => whnf
                  refine Pick.no ?_
                  conv => whnf
                  obtain ⟨y4996, e4997, h⟩ := bind_ex h
                  refine CallOk.of (spec_shCmp_ct e4997) ?_
                  conv => whnf
                  refine splD (fun g4998 => ?_) (fun g4998 => ?_)
                  · replace h := iteP h g4998
                    conv => whnf
                    refine CutK.norm [0, 1, 4, 6, 7, 8, 9] [256, 384] ?_
                    conv => whnf
                    cases h
                    exact Done.of [] [] rfl rfl ⟨⟨rfl, rfl⟩, ⟨rfl, trivial⟩, ⟨⟨rfl, rfl, trivial⟩, rfl, trivial⟩, trivial⟩
                  · replace h := iteN h g4998
                    conv => whnf
                    refine CutK.norm [0, 1, 4, 6, 7, 8, 9] [256, 384] ?_
                    conv => whnf
                    refine splF ?_
                    conv => whnf
                    refine splT ?_
                    conv => whnf
                    refine Pick.no ?_
                    conv => whnf
                    obtain ⟨y4999, e5000, h⟩ := bind_ex h
                    refine CallOk.of (spec_shWalk_step_ct e5000) ?_
                    conv => whnf
                    refine spl (fun g5001 => ?_) (fun g5001 => ?_)
                    · replace h := iteT h g5001
                      conv => whnf
                      refine spl (fun g5002 => ?_) (fun g5002 => ?_)
                      · replace h := iteT h g5002
                        conv => whnf
                        refine CutK.norm [0, 1, 4, 6, 7] [256, 384] ?_
                        conv => whnf
                        exact LoopOk.back (spec_shSimplest_l0_4_ct  n _ _ _ _ _ _ _ _ _ h) [some 256, some 384] [] ⟨⟨rfl, rfl⟩, ⟨rfl, ⟨rfl, rfl, rfl, trivial⟩, ⟨rfl, rfl, rfl, rfl, rfl, rfl, rfl, rfl, rfl, trivial⟩, trivial⟩, rfl, rfl, ⟨rfl, rfl⟩, ⟨rfl, rfl⟩, rfl, trivial⟩
                      · replace h := iteF h g5002
                        conv => whnf
                        refine CutK.norm [0, 1, 4, 6, 7] [256, 384] ?_
                        conv => whnf
                        exact LoopOk.back (spec_shSimplest_l0_4_ct  n _ _ _ _ _ _ _ _ _ h) [some 256, some 384] [] ⟨⟨rfl, rfl⟩, ⟨rfl, ⟨rfl, rfl, rfl, trivial⟩, ⟨rfl, rfl, rfl, rfl, rfl, rfl, rfl, rfl, rfl, trivial⟩, trivial⟩, rfl, rfl, ⟨rfl, rfl⟩, ⟨rfl, rfl⟩, rfl, trivial⟩
                    · replace h := iteF h g5001
                      conv => whnf
                      refine spl (fun g5003 => ?_) (fun g5003 => ?_)
                      · replace h := iteT h g5003
                        conv => whnf
                        refine CutK.norm [0, 1, 4, 6, 7] [256, 384] ?_
                        conv => whnf
                        exact LoopOk.back (spec_shSimplest_l0_4_ct  n _ _ _ _ _ _ _ _ _ h) [some 256, some 384] [] ⟨⟨rfl, rfl⟩, ⟨rfl, ⟨rfl, rfl, rfl, trivial⟩, ⟨rfl, rfl, rfl, rfl, rfl, rfl, rfl, rfl, rfl, trivial⟩, trivial⟩, rfl, rfl, ⟨rfl, rfl⟩, ⟨rfl, rfl⟩, rfl, trivial⟩
                      · replace h := iteF h g5003
                        conv => whnf
                        refine CutK.norm [0, 1, 4, 6, 7] [256, 384] ?_
                        conv => whnf
                        exact LoopOk.back (spec_shSimplest_l0_4_ct  n _ _ _ _ _ _ _ _ _ h) [some 256, some 384] [] ⟨⟨rfl, rfl⟩, ⟨rfl, ⟨rfl, rfl, rfl, trivial⟩, ⟨rfl, rfl, rfl, rfl, rfl, rfl, rfl, rfl, rfl, trivial⟩, trivial⟩, rfl, rfl, ⟨rfl, rfl⟩, ⟨rfl, rfl⟩, rfl, trivial⟩
                · replace h := iteN h g4989
                  conv => whnf
                  refine CutK.norm [0, 1, 4, 6, 7, 8, 9] [256, 384] ?_
                  conv => whnf
                  refine splF ?_
                  conv => whnf
                  refine splT ?_
                  conv => whnf
                  refine Pick.no ?_
                  conv => whnf
                  obtain ⟨y5004, e5005, h⟩ := bind_ex h
                  refine CallOk.of (spec_shWalk_step_ct e5005) ?_
                  conv => whnf
                  refine spl (fun g5006 => ?_) (fun g5006 => ?_)
                  · replace h := iteT h g5006
                    conv => whnf
                    refine spl (fun g5007 => ?_) (fun g5007 => ?_)
                    · replace h := iteT h g5007
                      conv => whnf
                      refine CutK.norm [0, 1, 4, 6, 7] [256, 384] ?_
                      conv => whnf
                      exact LoopOk.back (spec_shSimplest_l0_4_ct  n _ _ _ _ _ _ _ _ _ h) [some 256, some 384] [] ⟨⟨rfl, rfl⟩, ⟨rfl, ⟨rfl, rfl, rfl, trivial⟩, ⟨rfl, rfl, rfl, rfl, rfl, rfl, rfl, rfl, rfl, trivial⟩, trivial⟩, rfl, rfl, ⟨rfl, rfl⟩, ⟨rfl, rfl⟩, rfl, trivial⟩
                    · replace h := iteF h g5007
                      conv => whnf
                      refine CutK.norm [0, 1, 4, 6, 7] [256, 384] ?_
                      conv => whnf
                      exact LoopOk.back (spec_shSimplest_l0_4_ct  n _ _ _ _ _ _ _ _ _ h) [some 256, some 384] [] ⟨⟨rfl, rfl⟩, ⟨rfl, ⟨rfl, rfl, rfl, trivial⟩, ⟨rfl, rfl, rfl, rfl, rfl, rfl, rfl, rfl, rfl, trivial⟩, trivial⟩, rfl, rfl, ⟨rfl, rfl⟩, ⟨rfl, rfl⟩, rfl, trivial⟩
                  · replace h := iteF h g5006
                    conv => whnf
                    refine spl (fun g5008 => ?_) (fun g5008 => ?_)
                    · replace h := iteT h g5008
                      conv => whnf
                      refine CutK.norm [0, 1, 4, 6, 7] [256, 384] ?_
                      conv => whnf
                      exact LoopOk.back (spec_shSimplest_l0_4_ct  n _ _ _ _ _ _ _ _ _ h) [some 256, some 384] [] ⟨⟨rfl, rfl⟩, ⟨rfl, ⟨rfl, rfl, rfl, trivial⟩, ⟨rfl, rfl, rfl, rfl, rfl, rfl, rfl, rfl, rfl, trivial⟩, trivial⟩, rfl, rfl, ⟨rfl, rfl⟩, ⟨rfl, rfl⟩, rfl, trivial⟩
                    · replace h := iteF h g5008
                      conv => whnf
                      refine CutK.norm [0, 1, 4, 6, 7] [256, 384] ?_
                      conv => whnf
                      exact LoopOk.back (spec_shSimplest_l0_4_ct  n _ _ _ _ _ _ _ _ _ h) [some 256, some 384] [] ⟨⟨rfl, rfl⟩, ⟨rfl, ⟨rfl, rfl, rfl, trivial⟩, ⟨rfl, rfl, rfl, rfl, rfl, rfl, rfl, rfl, rfl, trivial⟩, trivial⟩, rfl, rfl, ⟨rfl, rfl⟩, ⟨rfl, rfl⟩, rfl, trivial⟩
              · replace h := iteN h g4988
                conv => whnf
                refine CutK.norm [0, 1, 4, 6, 7, 8] [256, 384] ?_
                conv => whnf
                refine splD (fun g5009 => ?_) (fun g5009 => ?_)
                · replace h := iteP h g5009
                  conv => whnf
                  refine Pick.no ?_
                  conv => whnf
                  obtain ⟨y5010, e5011, h⟩ := bind_ex h
                  refine CallOk.of (spec_shNegAll_ct e5011) ?_
                  conv => whnf
                  refine Pick.no ?_
                  conv => whnf
                  refine Take.all (rfl) ?_
                  conv => whnf
                  obtain ⟨y5012, e5013, h⟩ := bind_ex h
                  refine CallOk.of (spec_shMost_ct e5013) ?_
                  conv => whnf
                  refine Pick.no ?_
                  conv => whnf
                  obtain ⟨y5014, e5015, h⟩ := bind_ex h
                  refine CallOk.of (spec_shNeg_ct e5015) ?_
                  conv => whnf
                  refine Pick.no ?_
                  conv => whnf
                  obtain ⟨y5016, e5017, h⟩ := bind_ex h
                  refine CallOk.of (spec_shCmp_ct e5017) ?_
                  conv => whnf
                  refine splD (fun g5018 => ?_) (fun g5018 => ?_)
                  · replace h := iteP h g5018
                    conv => whnf
                    refine CutK.norm [0, 1, 4, 6, 7, 8, 9] [256, 384] ?_
                    conv => whnf
                    refine splF ?_
                    conv => whnf
                    refine splT ?_
                    conv => whnf
                    refine Pick.no ?_
                    conv => whnf
                    obtain ⟨y5019, e5020, h⟩ := bind_ex h
                    refine CallOk.of (spec_shWalk_step_ct e5020) ?_
                    conv => whnf
                    refine spl (fun g5021 => ?_) (fun g5021 => ?_)
                    · replace h := iteT h g5021
                      conv => whnf
                      refine spl (fun g5022 => ?_) (fun g5022 => ?_)
                      · replace h := iteT h g5022
                        conv => whnf
                        refine CutK.norm [0, 1, 4, 6, 7] [256, 384] ?_
                        conv => whnf
                        exact LoopOk.back (spec_shSimplest_l0_4_ct  n _ _ _ _ _ _ _ _ _ h) [some 256, some 384] [] ⟨⟨rfl, rfl⟩, ⟨rfl, ⟨rfl, rfl, rfl, trivial⟩, ⟨rfl, rfl, rfl, rfl, rfl, rfl, rfl, rfl, rfl, trivial⟩, trivial⟩, rfl, rfl, ⟨rfl, rfl⟩, ⟨rfl, rfl⟩, rfl, trivial⟩
                      · replace h := iteF h g5022
                        conv => whnf
                        refine CutK.norm [0, 1, 4, 6, 7] [256, 384] ?_
                        conv => whnf
                        exact LoopOk.back (spec_shSimplest_l0_4_ct  n _ _ _ _ _ _ _ _ _ h) [some 256, some 384] [] ⟨⟨rfl, rfl⟩, ⟨rfl, ⟨rfl, rfl, rfl, trivial⟩, ⟨rfl, rfl, rfl, rfl, rfl, rfl, rfl, rfl, rfl, trivial⟩, trivial⟩, rfl, rfl, ⟨rfl, rfl⟩, ⟨rfl, rfl⟩, rfl, trivial⟩
                    · replace h := iteF h g5021
                      conv => whnf
                      refine spl (fun g5023 => ?_) (fun g5023 => ?_)
                      · replace h := iteT h g5023
                        conv => whnf
                        refine CutK.norm [0, 1, 4, 6, 7] [256, 384] ?_
                        conv => whnf
                        exact LoopOk.back (spec_shSimplest_l0_4_ct  n _ _ _ _ _ _ _ _ _ h) [some 256, some 384] [] ⟨⟨rfl, rfl⟩, ⟨rfl, ⟨rfl, rfl, rfl, trivial⟩, ⟨rfl, rfl, rfl, rfl, rfl, rfl, rfl, rfl, rfl, trivial⟩, trivial⟩, rfl, rfl, ⟨rfl, rfl⟩, ⟨rfl, rfl⟩, rfl, trivial⟩
                      · replace h := iteF h g5023
                        conv => whnf
                        refine CutK.norm [0, 1, 4, 6, 7] [256, 384] ?_
                        conv => whnf
                        exact LoopOk.back (spec_shSimplest_l0_4_ct  n _ _ _ _ _ _ _ _ _ h) [some 256, some 384] [] ⟨⟨rfl, rfl⟩, ⟨rfl, ⟨rfl, rfl, rfl, trivial⟩, ⟨rfl, rfl, rfl, rfl, rfl, rfl, rfl, rfl, rfl, trivial⟩, trivial⟩, rfl, rfl, ⟨rfl, rfl⟩, ⟨rfl, rfl⟩, rfl, trivial⟩
                  · replace h := iteN h g5018
                    conv => whnf
                    refine CutK.norm [0, 1, 4, 6, 7, 8, 9] [256, 384] ?_
                    conv => whnf
                    cases h
                    exact Done.of [] [] rfl rfl ⟨⟨rfl, rfl⟩, ⟨rfl, trivial⟩, ⟨⟨rfl, rfl, trivial⟩, rfl, trivial⟩, trivial⟩
                · replace h := iteN h g5009
                  conv => whnf
                  refine CutK.norm [0, 1, 4, 6, 7, 8, 9] [256, 384] ?_
                  conv => whnf
                  cases h
                  exact Done.of [] [] rfl rfl ⟨⟨rfl, rfl⟩, ⟨rfl, trivial⟩, ⟨⟨rfl, rfl, trivial⟩, rfl, trivial⟩, trivial⟩
            · replace h := iteN h g4983
              conv => whnf
              refine CutK.norm [0, 1, 4, 6, 7, 8] [256, 384] ?_
              conv => whnf
              refine splD (fun g5024 => ?_) (fun g5024 => ?_)
              · replace h := iteP h g5024
                conv => whnf
                refine Pick.no ?_
                conv => whnf
                obtain ⟨y5025, e5026, h⟩ := bind_ex h
                refine CallOk.of (spec_shNegAll_ct e5026) ?_
                conv => whnf
                refine Pick.no ?_
                conv => whnf
                refine Take.all (rfl) ?_
                conv => whnf
                obtain ⟨y5027, e5028, h⟩ := bind_ex h
                refine CallOk.of (spec_shMost_ct e5028) ?_
                conv => whnf
                refine Pick.no ?_
                conv => whnf
                obtain ⟨y5029, e5030, h⟩ := bind_ex h
                refine CallOk.of (spec_shNeg_ct e5030) ?_
                conv => whnf
                refine Pick.no ?_
                conv => whnf
                obtain ⟨y5031, e5032, h⟩ := bind_ex h
                refine CallOk.of (spec_shCmp_ct e5032) ?_
                conv => whnf
                refine splD (fun g5033 => ?_) (fun g5033 => ?_)
                · replace h := iteP h g5033
                  conv => whnf
                  refine CutK.norm [0, 1, 4, 6, 7, 8, 9] [256, 384] ?_
                  conv => whnf
                  refine splF ?_
                  conv => whnf
                  refine splT ?_
                  conv => whnf
                  refine Pick.no ?_
                  conv => whnf
                  obtain ⟨y5034, e5035, h⟩ := bind_ex h
                  refine CallOk.of (spec_shWalk_step_ct e5035) ?_
                  conv => whnf
                  refine spl (fun g5036 => ?_) (fun g5036 => ?_)
                  · replace h := iteT h g5036
                    conv => whnf
                    refine spl (fun g5037 => ?_) (fun g5037 => ?_)
                    · replace h := iteT h g5037
                      conv => whnf
                      refine CutK.norm [0, 1, 4, 6, 7] [256, 384] ?_
                      conv => whnf
                      exact LoopOk.back (spec_shSimplest_l0_4_ct  n _ _ _ _ _ _ _ _ _ h) [some 256, some 384] [] ⟨⟨rfl, rfl⟩, ⟨rfl, ⟨rfl, rfl, rfl, trivial⟩, ⟨rfl, rfl, rfl, rfl, rfl, rfl, rfl, rfl, rfl, trivial⟩, trivial⟩, rfl, rfl, ⟨rfl, rfl⟩, ⟨rfl, rfl⟩, rfl, trivial⟩
                    · replace h := iteF h g5037
                      conv => whnf
                      refine CutK.norm [0, 1, 4, 6, 7] [256, 384] ?_
                      conv => whnf
                      exact LoopOk.back (spec_shSimplest_l0_4_ct  n _ _ _ _ _ _ _ _ _ h) [some 256, some 384] [] ⟨⟨rfl, rfl⟩, ⟨rfl, ⟨rfl, rfl, rfl, trivial⟩, ⟨rfl, rfl, rfl, rfl, rfl, rfl, rfl, rfl, rfl, trivial⟩, trivial⟩, rfl, rfl, ⟨rfl, rfl⟩, ⟨rfl, rfl⟩, rfl, trivial⟩
                  · replace h := iteF h g5036
                    conv => whnf
                    refine spl (fun g5038 => ?_) (fun g5038 => ?_)
                    · replace h := iteT h g5038
                      conv => whnf
                      refine CutK.norm [0, 1, 4, 6, 7] [256, 384] ?_
                      conv => whnf
                      exact LoopOk.back (spec_shSimplest_l0_4_ct  n _ _ _ _ _ _ _ _ _ h) [some 256, some 384] [] ⟨⟨rfl, rfl⟩, ⟨rfl, ⟨rfl, rfl, rfl, trivial⟩, ⟨rfl, rfl, rfl, rfl, rfl, rfl, rfl, rfl, rfl, trivial⟩, trivial⟩, rfl, rfl, ⟨rfl, rfl⟩, ⟨rfl, rfl⟩, rfl, trivial⟩
                    · replace h := iteF h g5038
                      conv => whnf
                      refine CutK.norm [0, 1, 4, 6, 7] [256, 384] ?_
                      conv => whnf
                      exact LoopOk.back (spec_shSimplest_l0_4_ct  n _ _ _ _ _ _ _ _ _ h) [some 256, some 384] [] ⟨⟨rfl, rfl⟩, ⟨rfl, ⟨rfl, rfl, rfl, trivial⟩, ⟨rfl, rfl, rfl, rfl, rfl, rfl, rfl, rfl, rfl, trivial⟩, trivial⟩, rfl, rfl, ⟨rfl, rfl⟩, ⟨rfl, rfl⟩, rfl, trivial⟩
                · replace h := iteN h g5033
                  conv => whnf
                  refine CutK.norm [0, 1, 4, 6, 7, 8, 9] [256, 384] ?_
                  conv => whnf
                  cases h
                  exact Done.of [] [] rfl rfl ⟨⟨rfl, rfl⟩, ⟨rfl, trivial⟩, ⟨⟨rfl, rfl, trivial⟩, rfl, trivial⟩, trivial⟩
              · replace h := iteN h g5024
                conv => whnf
                refine CutK.norm [0, 1, 4, 6, 7, 8, 9] [256, 384] ?_
                conv => whnf
                cases h
                exact Done.of [] [] rfl rfl ⟨⟨rfl, rfl⟩, ⟨rfl, trivial⟩, ⟨⟨rfl, rfl, trivial⟩, rfl, trivial⟩, trivial⟩
          · replace h := iteN h g4982
            conv => whnf
            exact ⟨_, _, [some 256], [], ⟨rfl, h, rfl, rfl⟩, ⟨⟨rfl, rfl⟩, ⟨rfl, ⟨rfl, rfl, rfl, trivial⟩, trivial⟩, ⟨rfl, rfl⟩, trivial⟩⟩
        · replace h := condT h
          refine LoopOk.step ?_
          conv => whnf
          refine splD (fun g5039 => ?_) (fun g5039 => ?_)
          · replace h := iteP h g5039
            conv => whnf
            refine splD (fun g5040 => ?_) (fun g5040 => ?_)
            · replace h := iteP h g5040
              conv => whnf
              refine Pick.no ?_
              conv => whnf
              obtain ⟨y5041, e5042, h⟩ := bind_ex h
              refine CallOk.of (spec_shMost_ct e5042) ?_
              conv => whnf
              refine Pick.no ?_
              conv => whnf
              obtain ⟨y5043, e5044, h⟩ := bind_ex h
              refine CallOk.of (spec_shCmp_ct e5044) ?_
              conv => whnf
              refine splD (fun g5045 => ?_) (fun g5045 => ?_)
              · replace h := iteP h g5045
                conv => whnf
                refine CutK.norm [0, 1, 4, 6, 7, 8] [256, 384] ?_
                conv => whnf
                refine splD (fun g5046 => ?_) (fun g5046 => ?_)
                · replace h := iteP h g5046
                  conv => whnf
                  refine Pick.no ?_
                  conv => whnf
                  obtain ⟨y5047, e5048, h⟩ := bind_ex h
                  refine CallOk.of (spec_shNegAll_ct e5048) ?_
                  conv => whnf
                  refine Pick.no ?_
                  conv => whnf
                  refine Take.all (rfl) ?_
                  conv => whnf
                  obtain ⟨y5049, e5050, h⟩ := bind_ex h
                  refine CallOk.of (spec_shMost_ct e5050) ?_
                  conv => whnf
                  refine Pick.no ?_
                  conv => whnf
                  obtain ⟨y5051, e5052, h⟩ := bind_ex h
                  refine CallOk.of (spec_shNeg_ct e5052) ?_
                  conv => whnf
                  refine Pick.no ?_
                  conv => whnf
                  obtain ⟨y5053, e5054, h⟩ := bind_ex h
                  refine CallOk.of (spec_shCmp_ct e5054) ?_
                  conv => whnf
                  refine splD (fun g5055 => ?_) (fun g5055 => ?_)
                  · replace h := iteP h g5055
                    conv => whnf
                    refine CutK.norm [0, 1, 4, 6, 7, 8, 9] [256, 384] ?_
                    conv => whnf
                    cases h
                    exact Done.of [] [] rfl rfl ⟨⟨rfl, rfl⟩, ⟨rfl, trivial⟩, ⟨⟨rfl, rfl, trivial⟩, rfl, trivial⟩, trivial⟩
                  · replace h := iteN h g5055
                    conv => whnf
                    refine CutK.norm [0, 1, 4, 6, 7, 8, 9] [256, 384] ?_
                    conv => whnf
                    refine splT ?_
                    conv => whnf
                    refine splT ?_
                    conv => whnf
                    refine Pick.no ?_
                    conv => whnf
                    obtain ⟨y5056, e5057, h⟩ := bind_ex h
                    refine CallOk.of (spec_shWalk_step_ct e5057) ?_
                    conv => whnf
                    refine spl (fun g5058 => ?_) (fun g5058 => ?_)
                    · replace h := iteT h g5058
                      conv => whnf
                      refine spl (fun g5059 => ?_) (fun g5059 => ?_)
                      · replace h := iteT h g5059
                        conv => whnf
                        refine CutK.norm [0, 1, 4, 6, 7] [256, 384] ?_
                        conv => whnf
                        exact LoopOk.back (spec_shSimplest_l0_4_ct  n _ _ _ _ _ _ _ _ _ h) [some 256, some 384] [] ⟨⟨rfl, rfl⟩, ⟨rfl, ⟨rfl, rfl, rfl, trivial⟩, ⟨rfl, rfl, rfl, rfl, rfl, rfl, rfl, rfl, rfl, trivial⟩, trivial⟩, rfl, rfl, ⟨rfl, rfl⟩, ⟨rfl, rfl⟩, rfl, trivial⟩
                      · replace h := iteF h g5059
                        conv => whnf
                        refine CutK.norm [0, 1, 4, 6, 7] [256, 384] ?_
                        conv => whnf
                        exact LoopOk.back (spec_shSimplest_l0_4_ct  n _ _ _ _ _ _ _ _ _ h) [some 256, some 384] [] ⟨⟨rfl, rfl⟩, ⟨rfl, ⟨rfl, rfl, rfl, trivial⟩, ⟨rfl, rfl, rfl, rfl, rfl, rfl, rfl, rfl, rfl, trivial⟩, trivial⟩, rfl, rfl, ⟨rfl, rfl⟩, ⟨rfl, rfl⟩, rfl, trivial⟩
                    · replace h := iteF h g5058
                      conv => whnf
                      refine spl (fun g5060 => ?_) (fun g5060 => ?_)
                      · replace h := iteT h g5060
                        conv => whnf
                        refine CutK.norm [0, 1, 4, 6, 7] [256, 384] ?_
                        conv => whnf
                        exact LoopOk.back (spec_shSimplest_l0_4_ct  n _ _ _ _ _ _ _ _ _ h) [some 256, some 384] [] ⟨⟨rfl, rfl⟩, ⟨rfl, ⟨rfl, rfl, rfl, trivial⟩, ⟨rfl, rfl, rfl, rfl, rfl, rfl, rfl, rfl, rfl, trivial⟩, trivial⟩, rfl, rfl, ⟨rfl, rfl⟩, ⟨rfl, rfl⟩, rfl, trivial⟩
                      · replace h := iteF h g5060
                        conv => whnf
                        refine CutK.norm [0, 1, 4, 6, 7] [256, 384] ?_
                        conv => whnf
                        exact LoopOk.back (spec_shSimplest_l0_4_ct  n _ _ _ _ _ _ _ _ _ h) [some 256, some 384] [] ⟨⟨rfl, rfl⟩, ⟨rfl, ⟨rfl, rfl, rfl, trivial⟩, ⟨rfl, rfl, rfl, rfl, rfl, rfl, rfl, rfl, rfl, trivial⟩, trivial⟩, rfl, rfl, ⟨rfl, rfl⟩, ⟨rfl, rfl⟩, rfl, trivial⟩
                · replace h := iteN h g5046
                  conv => whnf
                  refine CutK.norm [0, 1, 4, 6, 7, 8, 9] [256, 384] ?_
                  conv => whnf
                  refine splT ?_
                  conv => whnf
                  refine splT ?_
                  conv => whnf
                  refine Pick.no ?_
                  conv => whnf
                  obtain ⟨y5061, e5062, h⟩ := bind_ex h
                  refine CallOk.of (spec_shWalk_step_ct e5062) ?_
                  conv => whnf
                  refine spl (fun g5063 => ?_) (fun g5063 => ?_)
                  · replace h := iteT h g5063
                    conv => whnf
                    refine spl (fun g5064 => ?_) (fun g5064 => ?_)
                    · replace h := iteT h g5064
                      conv => whnf
                      refine CutK.norm [0, 1, 4, 6, 7] [256, 384] ?_
                      conv => whnf
                      exact LoopOk.back (spec_shSimplest_l0_4_ct  n _ _ _ _ _ _ _ _ _ h) [some 256, some 384] [] ⟨⟨rfl, rfl⟩, ⟨rfl, ⟨rfl, rfl, rfl, trivial⟩, ⟨rfl, rfl, rfl, rfl, rfl, rfl, rfl, rfl, rfl, trivial⟩, trivial⟩, rfl, rfl, ⟨rfl, rfl⟩, ⟨rfl, rfl⟩, rfl, trivial⟩
                    · replace h := iteF h g5064
                      conv => whnf
                      refine CutK.norm [0, 1, 4, 6, 7] [256, 384] ?_
                      conv => whnf
                      exact LoopOk.back (spec_shSimplest_l0_4_ct  n _ _ _ _ _ _ _ _ _ h) [some 256, some 384] [] ⟨⟨rfl, rfl⟩, ⟨rfl, ⟨rfl, rfl, rfl, trivial⟩, ⟨rfl, rfl, rfl, rfl, rfl, rfl, rfl, rfl, rfl, trivial⟩, trivial⟩, rfl, rfl, ⟨rfl, rfl⟩, ⟨rfl, rfl⟩, rfl, trivial⟩
                  · replace h := iteF h g5063
                    conv => whnf
                    refine spl (fun g5065 => ?_) (fun g5065 => ?_)
                    · replace h := iteT h g5065
                      conv => whnf
                      refine CutK.norm [0, 1, 4, 6, 7] [256, 384] ?_
                      conv => whnf
                      exact LoopOk.back (spec_shSimplest_l0_4_ct  n _ _ _ _ _ _ _ _ _ h) [some 256, some 384] [] ⟨⟨rfl, rfl⟩, ⟨rfl, ⟨rfl, rfl, rfl, trivial⟩, ⟨rfl, rfl, rfl, rfl, rfl, rfl, rfl, rfl, rfl, trivial⟩, trivial⟩, rfl, rfl, ⟨rfl, rfl⟩, ⟨rfl, rfl⟩, rfl, trivial⟩
                    · replace h := iteF h g5065
                      conv => whnf
                      refine CutK.norm [0, 1, 4, 6, 7] [256, 384] ?_
                      conv => whnf
                      exact LoopOk.back (spec_shSimplest_l0_4_ct  n _ _ _ _ _ _ _ _ _ h) [some 256, some 384] [] ⟨⟨rfl, rfl⟩, ⟨rfl, ⟨rfl, rfl, rfl, trivial⟩, ⟨rfl, rfl, rfl, rfl, rfl, rfl, rfl, rfl, rfl, trivial⟩, trivial⟩, rfl, rfl, ⟨rfl, rfl⟩, ⟨rfl, rfl⟩, rfl, trivial⟩
              · replace h := iteN h g5045
                conv => whnf
                refine CutK.norm [0, 1, 4, 6, 7, 8] [256, 384] ?_
                conv => whnf
                refine splD (fun g5066 => ?_) (fun g5066 => ?_)
                · replace h := iteP h g5066
                  conv => whnf
                  refine Pick.no ?_
                  conv => whnf
                  obtain ⟨y5067, e5068, h⟩ := bind_ex h
                  refine CallOk.of (spec_shNegAll_ct e5068) ?_
                  conv => whnf
                  refine Pick.no ?_
                  conv => whnf
                  refine Take.all (rfl) ?_
                  conv => whnf
                  obtain ⟨y5069, e5070, h⟩ := bind_ex h
                  refine CallOk.of (spec_shMost_ct e5070) ?_
                  conv => whnf
                  refine Pick.no ?_
                  conv => whnf
                  obtain ⟨y5071, e5072, h⟩ := bind_ex h
                  refine CallOk.of (spec_shNeg_ct e5072) ?_
                  conv => whnf
                  refine Pick.no ?_
                  conv => whnf
                  obtain ⟨y5073, e5074, h⟩ := bind_ex h
                  refine CallOk.of (spec_shCmp_ct e5074) ?_
                  conv => whnf
                  refine splD (fun g5075 => ?_) (fun g5075 => ?_)
                  · replace h := iteP h g5075
                    conv => whnf
                    refine CutK.norm [0, 1, 4, 6, 7, 8, 9] [256, 384] ?_
                    conv => whnf
                    refine splT ?_
                    conv => whnf
                    refine splT ?_
                    conv => whnf
                    refine Pick.no ?_
                    conv => whnf
                    obtain ⟨y5076, e5077, h⟩ := bind_ex h
                    refine CallOk.of (spec_shWalk_step_ct e5077) ?_
                    conv => whnf
                    refine spl (fun g5078 => ?_) (fun g5078 => ?_)
                    · replace h := iteT h g5078
                      conv => whnf
                      refine spl (fun g5079 => ?_) (fun g5079 => ?_)
                      · replace h := iteT h g5079
                        conv => whnf
                        refine CutK.norm [0, 1, 4, 6, 7] [256, 384] ?_
                        conv => whnf
                        exact LoopOk.back (spec_shSimplest_l0_4_ct  n _ _ _ _ _ _ _ _ _ h) [some 256, some 384] [] ⟨⟨rfl, rfl⟩, ⟨rfl, ⟨rfl, rfl, rfl, trivial⟩, ⟨rfl, rfl, rfl, rfl, rfl, rfl, rfl, rfl, rfl, trivial⟩, trivial⟩, rfl, rfl, ⟨rfl, rfl⟩, ⟨rfl, rfl⟩, rfl, trivial⟩
                      · replace h := iteF h g5079
                        conv => whnf
                        refine CutK.norm [0, 1, 4, 6, 7] [256, 384] ?_
                        conv => whnf
                        exact LoopOk.back (spec_shSimplest_l0_4_ct  n _ _ _ _ _ _ _ _ _ h) [some 256, some 384] [] ⟨⟨rfl, rfl⟩, ⟨rfl, ⟨rfl, rfl, rfl, trivial⟩, ⟨rfl, rfl, rfl, rfl, rfl, rfl, rfl, rfl, rfl, trivial⟩, trivial⟩, rfl, rfl, ⟨rfl, rfl⟩, ⟨rfl, rfl⟩, rfl, trivial⟩
                    · replace h := iteF h g5078
                      conv => whnf
                      refine spl (fun g5080 => ?_) (fun g5080 => ?_)
                      · replace h := iteT h g5080
                        conv => whnf
                        refine CutK.norm [0, 1, 4, 6, 7] [256, 384] ?_
                        conv => whnf
                        exact LoopOk.back (spec_shSimplest_l0_4_ct  n _ _ _ _ _ _ _ _ _ h) [some 256, some 384] [] ⟨⟨rfl, rfl⟩, ⟨rfl, ⟨rfl, rfl, rfl, trivial⟩, ⟨rfl, rfl, rfl, rfl, rfl, rfl, rfl, rfl, rfl, trivial⟩, trivial⟩, rfl, rfl, ⟨rfl, rfl⟩, ⟨rfl, rfl⟩, rfl, trivial⟩
                      · replace h := iteF h g5080
                        conv => whnf
                        refine CutK.norm [0, 1, 4, 6, 7] [256, 384] ?_
                        conv => whnf
                        exact LoopOk.back (spec_shSimplest_l0_4_ct  n _ _ _ _ _ _ _ _ _ h) [some 256, some 384] [] ⟨⟨rfl, rfl⟩, ⟨rfl, ⟨rfl, rfl, rfl, trivial⟩, ⟨rfl, rfl, rfl, rfl, rfl, rfl, rfl, rfl, rfl, trivial⟩, trivial⟩, rfl, rfl, ⟨rfl, rfl⟩, ⟨rfl, rfl⟩, rfl, trivial⟩
                  · replace h := iteN h g5075
                    conv => whnf
                    refine CutK.norm [0, 1, 4, 6, 7, 8, 9] [256, 384] ?_
                    conv => whnf
                    cases h
                    exact Done.of [] [] rfl rfl ⟨⟨rfl, rfl⟩, ⟨rfl, trivial⟩, ⟨⟨rfl, rfl, trivial⟩, rfl, trivial⟩, trivial⟩
                · replace h := iteN h g5066
                  conv => whnf
                  refine CutK.norm [0, 1, 4, 6, 7, 8, 9] [256, 384] ?_
                  conv => whnf
                  cases h
                  exact Done.of [] [] rfl rfl ⟨⟨rfl, rfl⟩, ⟨rfl, trivial⟩, ⟨⟨rfl, rfl, trivial⟩, rfl, trivial⟩, trivial⟩
            · replace h := iteN h g5040
              conv => whnf
              refine CutK.norm [0, 1, 4, 6, 7, 8] [256, 384] ?_
              conv => whnf
              refine splD (fun g5081 => ?_) (fun g5081 => ?_)
              · replace h := iteP h g5081
                conv => whnf
                refine Pick.no ?_
                conv => whnf
                obtain ⟨y5082, e5083, h⟩ := bind_ex h
                refine CallOk.of (spec_shNegAll_ct e5083) ?_
                conv => whnf
                refine Pick.no ?_
                conv => whnf
                refine Take.all (rfl) ?_
                conv => whnf
                obtain ⟨y5084, e5085, h⟩ := bind_ex h
                refine CallOk.of (spec_shMost_ct e5085) ?_
                conv => whnf
                refine Pick.no ?_
                conv => whnf
                obtain ⟨y5086, e5087, h⟩ := bind_ex h
                refine CallOk.of (spec_shNeg_ct e5087) ?_
                conv => whnf
                refine Pick.no ?_
                conv => whnf
                obtain ⟨y5088, e5089, h⟩ := bind_ex h
                refine CallOk.of (spec_shCmp_ct e5089) ?_
                conv => whnf
                refine splD (fun g5090 => ?_) (fun g5090 => ?_)
                · replace h := iteP h g5090
                  conv => whnf
                  refine CutK.norm [0, 1, 4, 6, 7, 8, 9] [256, 384] ?_
                  conv => whnf
                  refine splT ?_
                  conv => whnf
                  refine splT ?_
                  conv => whnf
                  refine Pick.no ?_
                  conv => whnf
                  obtain ⟨y5091, e5092, h⟩ := bind_ex h
                  refine CallOk.of (spec_shWalk_step_ct e5092) ?_
                  conv => whnf
                  refine spl (fun g5093 => ?_) (fun g5093 => ?_)
                  · replace h := iteT h g5093
                    conv => whnf
                    refine spl (fun g5094 => ?_) (fun g5094 => ?_)
                    · replace h := iteT h g5094
                      conv => whnf
                      refine CutK.norm [0, 1, 4, 6, 7] [256, 384] ?_
                      conv => whnf
                      exact LoopOk.back (spec_shSimplest_l0_4_ct  n _ _ _ _ _ _ _ _ _ h) [some 256, some 384] [] ⟨⟨rfl, rfl⟩, ⟨rfl, ⟨rfl, rfl, rfl, trivial⟩, ⟨rfl, rfl, rfl, rfl, rfl, rfl, rfl, rfl, rfl, trivial⟩, trivial⟩, rfl, rfl, ⟨rfl, rfl⟩, ⟨rfl, rfl⟩, rfl, trivial⟩
                    · replace h := iteF h g5094
                      conv => whnf
                      refine CutK.norm [0, 1, 4, 6, 7] [256, 384] ?_
                      conv => whnf
                      exact LoopOk.back (spec_shSimplest_l0_4_ct  n _ _ _ _ _ _ _ _ _ h) [some 256, some 384] [] ⟨⟨rfl, rfl⟩, ⟨rfl, ⟨rfl, rfl, rfl, trivial⟩, ⟨rfl, rfl, rfl, rfl, rfl, rfl, rfl, rfl, rfl, trivial⟩, trivial⟩, rfl, rfl, ⟨rfl, rfl⟩, ⟨rfl, rfl⟩, rfl, trivial⟩
                  · replace h := iteF h g5093
                    conv => whnf
                    refine spl (fun g5095 => ?_) (fun g5095 => ?_)
                    · replace h := iteT h g5095
                      conv => whnf
                      refine CutK.norm [0, 1, 4, 6, 7] [256, 384] ?_
                      conv => whnf
                      exact LoopOk.back (spec_shSimplest_l0_4_ct  n _ _ _ _ _ _ _ _ _ h) [some 256, some 384] [] ⟨⟨rfl, rfl⟩, ⟨rfl, ⟨rfl, rfl, rfl, trivial⟩, ⟨rfl, rfl, rfl, rfl, rfl, rfl, rfl, rfl, rfl, trivial⟩, trivial⟩, rfl, rfl, ⟨rfl, rfl⟩, ⟨rfl, rfl⟩, rfl, trivial⟩
                    · replace h := iteF h g5095
                      conv => whnf
                      refine CutK.norm [0, 1, 4, 6, 7] [256, 384] ?_
                      conv => whnf
                      exact LoopOk.back (spec_shSimplest_l0_4_ct  n _ _ _ _ _ _ _ _ _ h) [some 256, some 384] [] ⟨⟨rfl, rfl⟩, ⟨rfl, ⟨rfl, rfl, rfl, trivial⟩, ⟨rfl, rfl, rfl, rfl, rfl, rfl, rfl, rfl, rfl, trivial⟩, trivial⟩, rfl, rfl, ⟨rfl, rfl⟩, ⟨rfl, rfl⟩, rfl, trivial⟩
                · replace h := iteN h g5090
                  conv => whnf
                  refine CutK.norm [0, 1, 4, 6, 7, 8, 9] [256, 384] ?_
                  conv => whnf
                  cases h
                  exact Done.of [] [] rfl rfl ⟨⟨rfl, rfl⟩, ⟨rfl, trivial⟩, ⟨⟨rfl, rfl, trivial⟩, rfl, trivial⟩, trivial⟩
              · replace h := iteN h g5081
                conv => whnf
                refine CutK.norm [0, 1, 4, 6, 7, 8, 9] [256, 384] ?_
                conv => whnf
                cases h
                exact Done.of [] [] rfl rfl ⟨⟨rfl, rfl⟩, ⟨rfl, trivial⟩, ⟨⟨rfl, rfl, trivial⟩, rfl, trivial⟩, trivial⟩
          · replace h := iteN h g5039
            conv => whnf
            exact ⟨_, _, [some 256], [], ⟨rfl, h, rfl, rfl⟩, ⟨⟨rfl, rfl⟩, ⟨rfl, ⟨rfl, rfl, rfl, trivial⟩, trivial⟩, ⟨rfl, rfl⟩, trivial⟩⟩

def spec_shSimplest_p2 (k : Nat) (a1 : Rw) (a2 : Rw) (o7 : Int) (o8 : Int) (o9 : Int) (o10 : Int) (o11 : Int) (o12 : Int) (v13 : Bool) (v15 : Bool) : Option (Int × Int × Bool) :=
  (cond v13 (cond v15 (spec_shSimplest_l0_4 k a1 a2 (spec_shSimplest_p3) k 0 o7 o8 o9 o10 o11 o12 true true) (spec_shSimplest_l0_3 k a1 a2 (spec_shSimplest_p3) k 0 o7 o8 o9 o10 o11 o12 false true)) (cond v15 (spec_shSimplest_l0_2 k a1 a2 (spec_shSimplest_p3) k 0 o7 o8 o9 o10 o11 o12 false true) (spec_shSimplest_l0 k a1 a2 (spec_shSimplest_p3) k 0 o7 o8 o9 o10 o11 o12 false false)))
set_option maxHeartbeats 4000000 in
set_option maxRecDepth 100000 in
theorem spec_shSimplest_p2_ct {k : Nat} {a1 : Rw} {a2 : Rw} {o7 : Int} {o8 : Int} {o9 : Int} {o10 : Int} {o11 : Int} {o12 : Int} {v13 : Bool} {v15 : Bool} {r : Int × Int × Bool} (h : spec_shSimplest_p2 k a1 a2 o7 o8 o9 o10 o11 o12 v13 v15 = some r) : X prog 0 (tlF f46 2) (mk 56 [(0, .d (D.sl a1)), (1, .d (D.sl a2)), (4, .ptr 256 0), (6, .ptr 384 0)] [(256, .box 28 [.d (D.int .i64 0), .d (D.int .i64 0)]), (384, .box 139 [.d (D.int .i64 o7), .d (D.int .i64 o8), .d (D.int .i64 o9), .d (D.int .i64 o10), .d (D.int .i64 o11), .d (D.int .i64 o12), .d (D.bool v15), .d (D.bool v13)])]) (finK prog f46 0 (.tup [.agg [.d (D.int .i64 r.1), .d (D.int .i64 r.2.1)], .d (D.bool r.2.2)]) (⟨[], []⟩)) := by
  rw [spec_shSimplest_p2] at h
  cases v13
  · replace h := condF h
    cases v15
    · replace h := condF h
      conv => whnf
      refine LoopOk.into (spec_shSimplest_l0_ct  _ _ _ _ _ _ _ _ _ _ h) [some 256, some 384] [] ⟨⟨rfl, rfl⟩, ⟨rfl, ⟨rfl, rfl, rfl, trivial⟩, ⟨rfl, rfl, rfl, rfl, rfl, rfl, rfl, rfl, rfl, trivial⟩, trivial⟩, rfl, rfl, ⟨rfl, rfl⟩, ⟨rfl, rfl⟩, rfl, trivial⟩ ?_ (fun _ hs => hs)
      rintro i ts os ⟨rfl, h, rfl, rfl⟩
      conv => whnf
      exact CutK.piece (spec_shSimplest_p3_ct  h) [some 256] [] ⟨⟨rfl, rfl⟩, ⟨rfl, ⟨rfl, rfl, rfl, trivial⟩, trivial⟩, ⟨rfl, rfl⟩, trivial⟩
    · replace h := condT h
      conv => whnf
      refine LoopOk.into (spec_shSimplest_l0_2_ct  _ _ _ _ _ _ _ _ _ _ h) [some 256, some 384] [] ⟨⟨rfl, rfl⟩, ⟨rfl, ⟨rfl, rfl, rfl, trivial⟩, ⟨rfl, rfl, rfl, rfl, rfl, rfl, rfl, rfl, rfl, trivial⟩, trivial⟩, rfl, rfl, ⟨rfl, rfl⟩, ⟨rfl, rfl⟩, rfl, trivial⟩ ?_ (fun _ hs => hs)
      rintro i ts os ⟨rfl, h, rfl, rfl⟩
      conv => whnf
      exact CutK.piece (spec_shSimplest_p3_ct  h) [some 256] [] ⟨⟨rfl, rfl⟩, ⟨rfl, ⟨rfl, rfl, rfl, trivial⟩, trivial⟩, ⟨rfl, rfl⟩, trivial⟩
  · replace h := condT h
    cases v15
    · replace h := condF h
      conv => whnf
      refine LoopOk.into (spec_shSimplest_l0_3_ct  _ _ _ _ _ _ _ _ _ _ h) [some 256, some 384] [] ⟨⟨rfl, rfl⟩, ⟨rfl, ⟨rfl, rfl, rfl, trivial⟩, ⟨rfl, rfl, rfl, rfl, rfl, rfl, rfl, rfl, rfl, trivial⟩, trivial⟩, rfl, rfl, ⟨rfl, rfl⟩, ⟨rfl, rfl⟩, rfl, trivial⟩ ?_ (fun _ hs => hs)
      rintro i ts os ⟨rfl, h, rfl, rfl⟩
      conv => whnf
      exact CutK.piece (spec_shSimplest_p3_ct  h) [some 256] [] ⟨⟨rfl, rfl⟩, ⟨rfl, ⟨rfl, rfl, rfl, trivial⟩, trivial⟩, ⟨rfl, rfl⟩, trivial⟩
    · replace h := condT h
      conv => whnf
      refine LoopOk.into (spec_shSimplest_l0_4_ct  _ _ _ _ _ _ _ _ _ _ h) [some 256, some 384] [] ⟨⟨rfl, rfl⟩, ⟨rfl, ⟨rfl, rfl, rfl, trivial⟩, ⟨rfl, rfl, rfl, rfl, rfl, rfl, rfl, rfl, rfl, trivial⟩, trivial⟩, rfl, rfl, ⟨rfl, rfl⟩, ⟨rfl, rfl⟩, rfl, trivial⟩ ?_ (fun _ hs => hs)
      rintro i ts os ⟨rfl, h, rfl, rfl⟩
      conv => whnf
      exact CutK.piece (spec_shSimplest_p3_ct  h) [some 256] [] ⟨⟨rfl, rfl⟩, ⟨rfl, ⟨rfl, rfl, rfl, trivial⟩, trivial⟩, ⟨rfl, rfl⟩, trivial⟩
def spec_shSimplest (k : Nat) (a1 : Rw) (a2 : Rw) : Option (Int × Int × Bool) :=
  ((spec_shStart).bind fun y5096 => (if y5096.2.2.2.2.2.2.1 = true then (if y5096.2.2.2.2.2.2.2 = true then (spec_shSimplest_p2 k a1 a2 y5096.1 y5096.2.1 y5096.2.2.1 y5096.2.2.2.1 y5096.2.2.2.2.1 y5096.2.2.2.2.2.1 true true) else (spec_shSimplest_p2 k a1 a2 y5096.1 y5096.2.1 y5096.2.2.1 y5096.2.2.2.1 y5096.2.2.2.2.1 y5096.2.2.2.2.2.1 false true)) else (if y5096.2.2.2.2.2.2.2 = true then (spec_shSimplest_p2 k a1 a2 y5096.1 y5096.2.1 y5096.2.2.1 y5096.2.2.2.1 y5096.2.2.2.2.1 y5096.2.2.2.2.2.1 true false) else (spec_shSimplest_p2 k a1 a2 y5096.1 y5096.2.1 y5096.2.2.1 y5096.2.2.2.1 y5096.2.2.2.2.1 y5096.2.2.2.2.2.1 false false))))
set_option maxHeartbeats 4000000 in
set_option maxRecDepth 100000 in
theorem spec_shSimplest_ct {k : Nat} {a1 : Rw} {a2 : Rw} {r : Int × Int × Bool} (h : spec_shSimplest k a1 a2 = some r) : Ct prog 46 [.d (D.sl a1), .d (D.sl a2)] (⟨[], []⟩) (.tup [.agg [.d (D.int .i64 r.1), .d (D.int .i64 r.2.1)], .d (D.bool r.2.2)]) (⟨[], []⟩) := by
  rw [spec_shSimplest] at h
  refine Ct.of (c := _) mixed func46 ⟨rfl, rfl, rfl⟩ ?_ rfl
  conv => whnf
  refine Pick.no ?_
  conv => whnf
  obtain ⟨y5096, e5097, h⟩ := bind_ex h
  refine CallOk.of (spec_shStart_ct e5097) ?_
  conv => whnf
  refine spl (fun g5098 => ?_) (fun g5098 => ?_)
  · replace h := iteT h g5098
    conv => whnf
    refine spl (fun g5099 => ?_) (fun g5099 => ?_)
    · replace h := iteT h g5099
      conv => whnf
      exact CutK.piece (spec_shSimplest_p2_ct  h) [some 256, some 384] [] ⟨⟨rfl, rfl⟩, ⟨rfl, ⟨rfl, rfl, rfl, trivial⟩, ⟨rfl, rfl, rfl, rfl, rfl, rfl, rfl, rfl, rfl, trivial⟩, trivial⟩, rfl, rfl, ⟨rfl, rfl⟩, ⟨rfl, rfl⟩, trivial⟩
    · replace h := iteF h g5099
      conv => whnf
      exact CutK.piece (spec_shSimplest_p2_ct  h) [some 256, some 384] [] ⟨⟨rfl, rfl⟩, ⟨rfl, ⟨rfl, rfl, rfl, trivial⟩, ⟨rfl, rfl, rfl, rfl, rfl, rfl, rfl, rfl, rfl, trivial⟩, trivial⟩, rfl, rfl, ⟨rfl, rfl⟩, ⟨rfl, rfl⟩, trivial⟩
  · replace h := iteF h g5098
    conv => whnf
    refine spl (fun g5100 => ?_) (fun g5100 => ?_)
    · replace h := iteT h g5100
      conv => whnf
      exact CutK.piece (spec_shSimplest_p2_ct  h) [some 256, some 384] [] ⟨⟨rfl, rfl⟩, ⟨rfl, ⟨rfl, rfl, rfl, trivial⟩, ⟨rfl, rfl, rfl, rfl, rfl, rfl, rfl, rfl, rfl, trivial⟩, trivial⟩, rfl, rfl, ⟨rfl, rfl⟩, ⟨rfl, rfl⟩, trivial⟩
    · replace h := iteF h g5100
      conv => whnf
      exact CutK.piece (spec_shSimplest_p2_ct  h) [some 256, some 384] [] ⟨⟨rfl, rfl⟩, ⟨rfl, ⟨rfl, rfl, rfl, trivial⟩, ⟨rfl, rfl, rfl, rfl, rfl, rfl, rfl, rfl, rfl, trivial⟩, trivial⟩, rfl, rfl, ⟨rfl, rfl⟩, ⟨rfl, rfl⟩, trivial⟩

def spec_SimplestOf (k : Nat) (a1 : Rw) (a2 : Rw) : Option (Int × Int × Bool) :=
  ((spec_shList k a1 20).bind fun y3 => (if y3 = true then ((spec_shList k a2 20).bind fun y6 => (if y6 = true then ((spec_shSimplest k a1 a2).bind fun y9 => (if y9.2.2 = true then some (y9.1, y9.2.1, true) else some (y9.1, y9.2.1, false))) else some (0, 0, false))) else some (0, 0, false)))
set_option maxHeartbeats 4000000 in
set_option maxRecDepth 100000 in
theorem spec_SimplestOf_ct {k : Nat} {a1 : Rw} {a2 : Rw} {r : Int × Int × Bool} (h : spec_SimplestOf k a1 a2 = some r) : Ct prog 10 [.d (D.sl a1), .d (D.sl a2)] (⟨[], []⟩) (.tup [.agg [.d (D.int .i64 r.1), .d (D.int .i64 r.2.1)], .d (D.bool r.2.2)]) (⟨[], []⟩) := by
  rw [spec_SimplestOf] at h
  refine Ct.of (c := _) mixed func10 ⟨rfl, rfl, rfl⟩ ?_ rfl
  conv => whnf
  refine Pick.no ?_
  conv => whnf
  obtain ⟨y3, e4, h⟩ := bind_ex h
  refine CallOk.of (spec_shList_ct e4) ?_
  conv => whnf
  refine spl (fun g5 => ?_) (fun g5 => ?_)
  · replace h := iteT h g5
    conv => whnf
    refine Pick.no ?_
    conv => whnf
    obtain ⟨y6, e7, h⟩ := bind_ex h
    refine CallOk.of (spec_shList_ct e7) ?_
    conv => whnf
    refine spl (fun g8 => ?_) (fun g8 => ?_)
    · replace h := iteT h g8
      conv => whnf
      refine CutK.go ?_
      conv => whnf
      refine CutK.go ?_
      conv => whnf
      refine Pick.no ?_
      conv => whnf
      obtain ⟨y9, e10, h⟩ := bind_ex h
      refine CallOk.of (spec_shSimplest_ct e10) ?_
      conv => whnf
      refine spl (fun g11 => ?_) (fun g11 => ?_)
      · replace h := iteT h g11
        conv => whnf
        refine CutK.go ?_
        conv => whnf
        cases h
        exact Done.of [] [] rfl rfl ⟨⟨rfl, rfl⟩, ⟨rfl, trivial⟩, ⟨⟨rfl, rfl, trivial⟩, rfl, trivial⟩, trivial⟩
      · replace h := iteF h g11
        conv => whnf
        refine CutK.go ?_
        conv => whnf
        cases h
        exact Done.of [] [] rfl rfl ⟨⟨rfl, rfl⟩, ⟨rfl, trivial⟩, ⟨⟨rfl, rfl, trivial⟩, rfl, trivial⟩, trivial⟩
    · replace h := iteF h g8
      conv => whnf
      refine CutK.go ?_
      conv => whnf
      cases h
      exact Done.of [] [] rfl rfl ⟨⟨rfl, rfl⟩, ⟨rfl, trivial⟩, ⟨⟨rfl, rfl, trivial⟩, rfl, trivial⟩, trivial⟩
  · replace h := iteF h g5
    conv => whnf
    refine CutK.go ?_
    conv => whnf
    cases h
    exact Done.of [] [] rfl rfl ⟨⟨rfl, rfl⟩, ⟨rfl, trivial⟩, ⟨⟨rfl, rfl, trivial⟩, rfl, trivial⟩, trivial⟩

def impl_fractionsOk_1 (k : Nat) (a1 : Int) (a2 : Int) : Option Bool :=
  ((impl_IsFraction k a1 a2).bind fun y3 => (if y3 = true then some false else some true))
set_option maxHeartbeats 4000000 in
set_option maxRecDepth 100000 in
theorem impl_fractionsOk_1_ct {k : Nat} {a1 : Int} {a2 : Int} {r : Bool} (h : impl_fractionsOk_1 k a1 a2 = some r) : Ct prog 105 [.agg [.d (D.int .i64 a1), .d (D.int .i64 a2)]] (⟨[], []⟩) (.d (D.bool r)) (⟨[], []⟩) := by
  rw [impl_fractionsOk_1] at h
  refine Ct.of (c := _) mixed func105 ⟨rfl, rfl, rfl⟩ ?_ rfl
  conv => whnf
  refine Pick.no ?_
  conv => whnf
  obtain ⟨y3, e4, h⟩ := bind_ex h
  refine CallOk.of (impl_IsFraction_ct e4) ?_
  conv => whnf
  refine spl (fun g5 => ?_) (fun g5 => ?_)
  · replace h := iteT h g5
    conv => whnf
    refine CutK.go ?_
    conv => whnf
    cases h
    exact Done.of [] [] rfl rfl ⟨⟨rfl, rfl⟩, ⟨rfl, trivial⟩, rfl, trivial⟩
  · replace h := iteF h g5
    conv => whnf
    refine CutK.go ?_
    conv => whnf
    cases h
    exact Done.of [] [] rfl rfl ⟨⟨rfl, rfl⟩, ⟨rfl, trivial⟩, rfl, trivial⟩

def slices_IndexFunc__fractionsOk_1_l0 (k : Nat) (a1 : Rw) (K0 : Option Int) : Rw → Nat → Option Int
  | [], v10n => (K0)
  | cs :: rest, v10n => (cell_ii cs fun x19 x20 => ((impl_fractionsOk_1 k x19 x20).bind fun y22 => (if y22 = true then some (v10n : Int) else (slices_IndexFunc__fractionsOk_1_l0 k a1 K0 rest (v10n + 1)))))
set_option maxHeartbeats 4000000 in
set_option maxRecDepth 100000 in
theorem slices_IndexFunc__fractionsOk_1_l0_ct {k : Nat} {a1 : Rw} {K0 : Option Int} {r : Int} (hx : a1.length ≤ cap) : ∀ (rest : Rw) (v10n : Nat), a1.drop v10n = rest → slices_IndexFunc__fractionsOk_1_l0 k a1 K0 rest v10n = some r → LoopOk prog 0 (lp f163 0) (mk 19 [(0, .d (D.sl a1)), (1, .fn 105 []), (7, .d (D.int .i64 (a1.length : Int))), (8, .d (D.int .i64 (v10n : Int)))] []) (LoopEnd prog f163 0 19 (.d (D.int .i64 r)) (⟨[], []⟩) (fun i ts os => (i = 0 ∧ K0 = some r ∧ ts = [] ∧ os = [])))
  | [], v10n, hd, h => by
      rw [slices_IndexFunc__fractionsOk_1_l0] at h
      have hn := drop_nil hd
      refine LoopOk.step ?_
      conv => whnf
      refine splD (fun g => absurd g hn) (fun _ => ?_)
      conv => whnf
      exact ⟨_, _, [], [], ⟨rfl, h, rfl, rfl⟩, ⟨⟨rfl, rfl⟩, ⟨rfl, trivial⟩, trivial⟩⟩
  | cs :: rest, v10n, hd, h => by
      rw [slices_IndexFunc__fractionsOk_1_l0] at h
      obtain ⟨hrow, hd1, hlt⟩ := drop_cons hd
      refine LoopOk.step ?_
      conv => whnf
      refine splD (fun _ => ?_) (fun g => absurd hlt g)
      conv => whnf
      obtain ⟨x19, x20, e21, h⟩ := cell_ii_ex h
      rw [e21] at hrow
      refine Req.of (Int.natCast_nonneg _) ?_
      refine Row.of _ hrow ?_
      conv => whnf
      refine Pick.no ?_
      conv => whnf
      obtain ⟨y22, e23, h⟩ := bind_ex h
      refine CallOk.of (impl_fractionsOk_1_ct e23) ?_
      conv => whnf
      refine spl (fun g24 => ?_) (fun g24 => ?_)
      · replace h := iteT h g24
        conv => whnf
        refine CutK.go ?_
        conv => whnf
        cases h
        exact Done.of [] [] rfl rfl ⟨⟨rfl, rfl⟩, ⟨rfl, trivial⟩, rfl, trivial⟩
      · replace h := iteF h g24
        conv => whnf
        refine CutK.go ?_
        conv => whnf
        refine CutK.go ?_
        conv => whnf
        exact LoopOk.back (slices_IndexFunc__fractionsOk_1_l0_ct hx rest (v10n + 1)  hd1 h) [] [] ⟨⟨rfl, rfl⟩, ⟨rfl, trivial⟩, rfl, ⟨rfl, trivial⟩, rfl, i64eq (wrap_up hlt hx), trivial⟩
def slices_IndexFunc__fractionsOk_1 (k : Nat) (a1 : Rw) : Option Int :=
  (if a1.length ≤ cap then (slices_IndexFunc__fractionsOk_1_l0 k a1 (some (-1)) a1 0) else none)
set_option maxHeartbeats 4000000 in
set_option maxRecDepth 100000 in
theorem slices_IndexFunc__fractionsOk_1_ct {k : Nat} {a1 : Rw} {r : Int} (h : slices_IndexFunc__fractionsOk_1 k a1 = some r) : Ct prog 163 [.d (D.sl a1), .fn 105 []] (⟨[], []⟩) (.d (D.int .i64 r)) (⟨[], []⟩) := by
  rw [slices_IndexFunc__fractionsOk_1] at h
  refine Ct.of (c := _) mixed func163 ⟨rfl, rfl, rfl⟩ ?_ rfl
  conv => whnf
  obtain ⟨g25, h⟩ := req_ex h
  refine LoopOk.into (slices_IndexFunc__fractionsOk_1_l0_ct  g25 _ _  rfl h) [] [] ⟨⟨rfl, rfl⟩, ⟨rfl, trivial⟩, rfl, ⟨rfl, trivial⟩, rfl, rfl, trivial⟩ ?_ (fun _ hs => hs)
  rintro i ts os ⟨rfl, h, rfl, rfl⟩
  conv => whnf
  refine CutK.go ?_
  conv => whnf
  cases h
  exact Done.of [] [] rfl rfl ⟨⟨rfl, rfl⟩, ⟨rfl, trivial⟩, rfl, trivial⟩

def slices_ContainsFunc__fractionsOk_1 (k : Nat) (a1 : Rw) : Option Bool :=
  ((slices_IndexFunc__fractionsOk_1 k a1).bind fun y2 => (if (0 : Int) ≤ y2 then some true else some false))
set_option maxHeartbeats 4000000 in
set_option maxRecDepth 100000 in
theorem slices_ContainsFunc__fractionsOk_1_ct {k : Nat} {a1 : Rw} {r : Bool} (h : slices_ContainsFunc__fractionsOk_1 k a1 = some r) : Ct prog 104 [.d (D.sl a1), .fn 105 []] (⟨[], []⟩) (.d (D.bool r)) (⟨[], []⟩) := by
  rw [slices_ContainsFunc__fractionsOk_1] at h
  refine Ct.of (c := _) mixed func104 ⟨rfl, rfl, rfl⟩ ?_ rfl
  conv => whnf
  refine Pick.no ?_
  conv => whnf
  obtain ⟨y2, e3, h⟩ := bind_ex h
  refine CallOk.of (slices_IndexFunc__fractionsOk_1_ct e3) ?_
  conv => whnf
  refine splD (fun g4 => ?_) (fun g4 => ?_)
  · replace h := iteP h g4
    conv => whnf
    refine CutK.go ?_
    conv => whnf
    cases h
    exact Done.of [] [] rfl rfl ⟨⟨rfl, rfl⟩, ⟨rfl, trivial⟩, rfl, trivial⟩
  · replace h := iteN h g4
    conv => whnf
    refine CutK.go ?_
    conv => whnf
    cases h
    exact Done.of [] [] rfl rfl ⟨⟨rfl, rfl⟩, ⟨rfl, trivial⟩, rfl, trivial⟩

def impl_fractionsOk (k : Nat) (a1 : Rw) : Option Bool :=
  (if (a1.length : Int) ≤ (20 : Int) then ((slices_ContainsFunc__fractionsOk_1 k a1).bind fun y3 => (if y3 = true then some false else some true)) else some false)
set_option maxHeartbeats 4000000 in
set_option maxRecDepth 100000 in
theorem impl_fractionsOk_ct {k : Nat} {a1 : Rw} {r : Bool} (h : impl_fractionsOk k a1 = some r) : Ct prog 43 [.d (D.sl a1)] (⟨[], []⟩) (.d (D.bool r)) (⟨[], []⟩) := by
  rw [impl_fractionsOk] at h
  refine Ct.of (c := _) mixed func43 ⟨rfl, rfl, rfl⟩ ?_ rfl
  conv => whnf
  refine splD (fun g2 => ?_) (fun g2 => ?_)
  · replace h := iteP h g2
    conv => whnf
    refine Pick.no ?_
    conv => whnf
    obtain ⟨y3, e4, h⟩ := bind_ex h
    refine CallOk.of (slices_ContainsFunc__fractionsOk_1_ct e4) ?_
    conv => whnf
    refine spl (fun g5 => ?_) (fun g5 => ?_)
    · replace h := iteT h g5
      conv => whnf
      refine CutK.go ?_
      conv => whnf
      cases h
      exact Done.of [] [] rfl rfl ⟨⟨rfl, rfl⟩, ⟨rfl, trivial⟩, rfl, trivial⟩
    · replace h := iteF h g5
      conv => whnf
      refine CutK.go ?_
      conv => whnf
      cases h
      exact Done.of [] [] rfl rfl ⟨⟨rfl, rfl⟩, ⟨rfl, trivial⟩, rfl, trivial⟩
  · replace h := iteN h g2
    conv => whnf
    refine CutK.go ?_
    conv => whnf
    cases h
    exact Done.of [] [] rfl rfl ⟨⟨rfl, rfl⟩, ⟨rfl, trivial⟩, rfl, trivial⟩

def impl_simplest_1_2_l0 (a1 : Int) (a2 : Rw) (a3 : Rw) (K0 : Option (Int × Rw × Rw)) : Rw → Option (Int × Rw × Rw)
  | [] => (K0)
  | cs :: rest => (cell_ii cs fun x17 x18 => (if (IntKind.i64.wrap (a1 * x18)) ≤ (IntKind.i64.wrap (x17 * 1048576)) then some (1, a2, a3) else (impl_simplest_1_2_l0 a1 a2 a3 K0 rest)))
set_option maxHeartbeats 4000000 in
set_option maxRecDepth 100000 in
theorem impl_simplest_1_2_l0_ct {a1 : Int} {a2 : Rw} {a3 : Rw} {K0 : Option (Int × Rw × Rw)} {r : Int × Rw × Rw} (hx : a2.length ≤ cap) : ∀ (rest : Rw) (v10n : Nat), a2.drop v10n = rest → impl_simplest_1_2_l0 a1 a2 a3 K0 rest = some r → LoopOk prog 2 (lp f107 0) (mk 39 [(0, .d (D.int .i64 a1)), (2, .ptr 64 0), (9, .d (D.sl a2)), (10, .d (D.int .i64 (a2.length : Int))), (11, .d (D.int .i64 (v10n : Int)))] [(0, .box 24 [.d (D.sl a2)]), (64, .box 24 [.d (D.sl a3)])]) (LoopEnd prog f107 2 39 (.d (D.int .i64 r.1)) (⟨[(24, [.d (D.sl r.2.1)]), (24, [.d (D.sl r.2.2)])], []⟩) (fun i ts os => (i = 0 ∧ K0 = some r ∧ ts = [(0, .d (D.int .i64 a1)), (2, .ptr 64 0)] ∧ os = [(0, .box 24 [.d (D.sl a2)]), (64, .box 24 [.d (D.sl a3)])])))
  | [], v10n, hd, h => by
      rw [impl_simplest_1_2_l0] at h
      have hn := drop_nil hd
      refine LoopOk.step ?_
      conv => whnf
      refine splD (fun g => absurd g hn) (fun _ => ?_)
      conv => whnf
      exact ⟨_, _, [some 0, some 64], [], ⟨rfl, h, rfl, rfl⟩, ⟨⟨rfl, rfl⟩, ⟨rfl, ⟨rfl, rfl, trivial⟩, ⟨rfl, rfl, trivial⟩, trivial⟩, rfl, ⟨rfl, rfl⟩, trivial⟩⟩
  | cs :: rest, v10n, hd, h => by
      rw [impl_simplest_1_2_l0] at h
      obtain ⟨hrow, hd1, hlt⟩ := drop_cons hd
      refine LoopOk.step ?_
      conv => whnf
      refine splD (fun _ => ?_) (fun g => absurd hlt g)
      conv => whnf
      obtain ⟨x17, x18, e19, h⟩ := cell_ii_ex h
      rw [e19] at hrow
      refine Req.of (Int.natCast_nonneg _) ?_
      refine Row.of _ hrow ?_
      conv => whnf
      refine splD (fun g20 => ?_) (fun g20 => ?_)
      · replace h := iteP h g20
        conv => whnf
        cases h
        exact Done.of [some 0, some 64] [] rfl rfl ⟨⟨rfl, rfl⟩, ⟨rfl, ⟨rfl, rfl, trivial⟩, ⟨rfl, rfl, trivial⟩, trivial⟩, rfl, trivial⟩
      · replace h := iteN h g20
        conv => whnf
        exact LoopOk.back (impl_simplest_1_2_l0_ct hx rest (v10n + 1)  hd1 h) [some 0, some 64] [] ⟨⟨rfl, rfl⟩, ⟨rfl, ⟨rfl, rfl, trivial⟩, ⟨rfl, rfl, trivial⟩, trivial⟩, rfl, ⟨rfl, rfl⟩, rfl, rfl, i64eq (wrap_up hlt hx), trivial⟩
def impl_simplest_1_2_l1 (a1 : Int) (a2 : Rw) (a3 : Rw) (K2 : Option (Int × Rw × Rw)) : Rw → Option (Int × Rw × Rw)
  | [] => (K2)
  | cs :: rest => (cell_ii cs fun x35 x36 => (if (IntKind.i64.wrap (x35 * 1048576)) ≤ (IntKind.i64.wrap (a1 * x36)) then some ((-1), a2, a3) else (impl_simplest_1_2_l1 a1 a2 a3 K2 rest)))
set_option maxHeartbeats 4000000 in
set_option maxRecDepth 100000 in
theorem impl_simplest_1_2_l1_ct {a1 : Int} {a2 : Rw} {a3 : Rw} {K2 : Option (Int × Rw × Rw)} {r : Int × Rw × Rw} (hx : a3.length ≤ cap) : ∀ (rest : Rw) (v28n : Nat), a3.drop v28n = rest → impl_simplest_1_2_l1 a1 a2 a3 K2 rest = some r → LoopOk prog 2 (lp f107 1) (mk 39 [(0, .d (D.int .i64 a1)), (24, .d (D.sl a3)), (25, .d (D.int .i64 (a3.length : Int))), (26, .d (D.int .i64 (v28n : Int)))] [(0, .box 24 [.d (D.sl a2)]), (64, .box 24 [.d (D.sl a3)])]) (LoopEnd prog f107 2 39 (.d (D.int .i64 r.1)) (⟨[(24, [.d (D.sl r.2.1)]), (24, [.d (D.sl r.2.2)])], []⟩) (fun i ts os => (i = 2 ∧ K2 = some r ∧ ts = [] ∧ os = [(0, .box 24 [.d (D.sl a2)]), (64, .box 24 [.d (D.sl a3)])])))
  | [], v28n, hd, h => by
      rw [impl_simplest_1_2_l1] at h
      have hn := drop_nil hd
      refine LoopOk.step ?_
      conv => whnf
      refine splD (fun g => absurd g hn) (fun _ => ?_)
      conv => whnf
      exact ⟨_, _, [some 0, some 64], [], ⟨rfl, h, rfl, rfl⟩, ⟨⟨rfl, rfl⟩, ⟨rfl, ⟨rfl, rfl, trivial⟩, ⟨rfl, rfl, trivial⟩, trivial⟩, trivial⟩⟩
  | cs :: rest, v28n, hd, h => by
      rw [impl_simplest_1_2_l1] at h
      obtain ⟨hrow, hd1, hlt⟩ := drop_cons hd
      refine LoopOk.step ?_
      conv => whnf
      refine splD (fun _ => ?_) (fun g => absurd hlt g)
      conv => whnf
      obtain ⟨x35, x36, e37, h⟩ := cell_ii_ex h
      rw [e37] at hrow
      refine Req.of (Int.natCast_nonneg _) ?_
      refine Row.of _ hrow ?_
      conv => whnf
      refine splD (fun g38 => ?_) (fun g38 => ?_)
      · replace h := iteP h g38
        conv => whnf
        cases h
        exact Done.of [some 0, some 64] [] rfl rfl ⟨⟨rfl, rfl⟩, ⟨rfl, ⟨rfl, rfl, trivial⟩, ⟨rfl, rfl, trivial⟩, trivial⟩, rfl, trivial⟩
      · replace h := iteN h g38
        conv => whnf
        exact LoopOk.back (impl_simplest_1_2_l1_ct hx rest (v28n + 1)  hd1 h) [some 0, some 64] [] ⟨⟨rfl, rfl⟩, ⟨rfl, ⟨rfl, rfl, trivial⟩, ⟨rfl, rfl, trivial⟩, trivial⟩, rfl, rfl, rfl, i64eq (wrap_up hlt hx), trivial⟩
def impl_simplest_1_2  (a1 : Int) (a2 : Rw) (a3 : Rw) : Option (Int × Rw × Rw) :=
  (if a2.length ≤ cap then (impl_simplest_1_2_l0 a1 a2 a3 (if a3.length ≤ cap then (impl_simplest_1_2_l1 a1 a2 a3 (some (0, a2, a3)) a3) else none) a2) else none)
set_option maxHeartbeats 4000000 in
set_option maxRecDepth 100000 in
theorem impl_simplest_1_2_ct  {a1 : Int} {a2 : Rw} {a3 : Rw} {r : Int × Rw × Rw} (h : impl_simplest_1_2 a1 a2 a3 = some r) : Ct prog 107 [.d (D.int .i64 a1), .ptr 0 0, .ptr 64 0] (⟨[(24, [.d (D.sl a2)]), (24, [.d (D.sl a3)])], []⟩) (.d (D.int .i64 r.1)) (⟨[(24, [.d (D.sl r.2.1)]), (24, [.d (D.sl r.2.2)])], []⟩) := by
  rw [impl_simplest_1_2] at h
  refine Ct.of (c := _) mixed func107 ⟨rfl, rfl, rfl⟩ ?_ rfl
  conv => whnf
  obtain ⟨g21, h⟩ := req_ex h
  refine LoopOk.into (impl_simplest_1_2_l0_ct  g21 _ _  rfl h) [some 0, some 64] [] ⟨⟨rfl, rfl⟩, ⟨rfl, ⟨rfl, rfl, trivial⟩, ⟨rfl, rfl, trivial⟩, trivial⟩, rfl, ⟨rfl, rfl⟩, rfl, rfl, rfl, trivial⟩ ?_ (fun _ hs => hs)
  rintro i ts os ⟨rfl, h, rfl, rfl⟩
  conv => whnf
  refine CutK.norm [0, 2] [0, 64] ?_
  conv => whnf
  obtain ⟨g39, h⟩ := req_ex h
  refine LoopOk.into (impl_simplest_1_2_l1_ct  g39 _ _  rfl h) [some 0, some 64] [] ⟨⟨rfl, rfl⟩, ⟨rfl, ⟨rfl, rfl, trivial⟩, ⟨rfl, rfl, trivial⟩, trivial⟩, rfl, rfl, rfl, rfl, trivial⟩ ?_ (fun _ hs => hs)
  rintro i ts os ⟨rfl, h, rfl, rfl⟩
  conv => whnf
  refine CutK.norm [] [0, 64] ?_
  conv => whnf
  cases h
  exact Done.of [some 0, some 64] [] rfl rfl ⟨⟨rfl, rfl⟩, ⟨rfl, ⟨rfl, rfl, trivial⟩, ⟨rfl, rfl, trivial⟩, trivial⟩, rfl, trivial⟩

def impl_walk__simplest_1_2_l0  : Nat → Rw → ByteArray → Rw → Int → Rw → Rw → Rw → Option (Rw × ByteArray × Rw × Rw × Rw × Rw)
  | 0, _, _, _, _, _, _, _ => none
  | n + 1, v11, v12, v13, v14, v15, v16, v20 => (if v11.length + 1 ≤ cap then ((impl_simplest_1_2 v14 v15 v16).bind fun y36 => (if y36.1 = (0 : Int) then some (v11 ++ ([[D.int .i64 v14]]), v12, v13, v20, y36.2.1, y36.2.2) else (if (v12.size : Int) = (20 : Int) then some (v11 ++ ([[D.int .i64 v14]]), v12, v13, v20, y36.2.1, y36.2.2) else (if (0 : Int) < y36.1 then (if v12.size + (ByteArray.mk #[43]).size ≤ 9223372036854775807 then (if v13.length + 1 ≤ cap then ((impl_between v14 y36.1 (v13 ++ ([[D.int .i64 v14]])) v20).bind fun y43 => (impl_walk__simplest_1_2_l0 n (v11 ++ ([[D.int .i64 v14]])) (v12 ++ (ByteArray.mk #[43])) (v13 ++ ([[D.int .i64 v14]])) y43 y36.2.1 y36.2.2 v20)) else none) else none) else (if v12.size + (ByteArray.mk #[45]).size ≤ 9223372036854775807 then (if v20.length + 1 ≤ cap then ((impl_between v14 y36.1 v13 (v20 ++ ([[D.int .i64 v14]]))).bind fun y47 => (impl_walk__simplest_1_2_l0 n (v11 ++ ([[D.int .i64 v14]])) (v12 ++ (ByteArray.mk #[45])) v13 y47 y36.2.1 y36.2.2 (v20 ++ ([[D.int .i64 v14]])))) else none) else none))))) else none)
set_option maxHeartbeats 4000000 in
set_option maxRecDepth 100000 in
theorem impl_walk__simplest_1_2_l0_ct  {r : Rw × ByteArray × Rw × Rw × Rw × Rw} : ∀ (n : Nat) (v11 : Rw) (v12 : ByteArray) (v13 : Rw) (v14 : Int) (v15 : Rw) (v16 : Rw) (v20 : Rw), impl_walk__simplest_1_2_l0 n v11 v12 v13 v14 v15 v16 v20 = some r → LoopOk prog 2 (lp f106 0) (mk 45 [(0, .fn 107 [.ptr 0 0, .ptr 64 0]), (2, .os 64000 v11.length), (3, .d (D.str v12)), (4, .os 64001 v13.length), (5, .os 64002 v20.length), (6, .d (D.int .i64 v14))] [(0, .box 24 [.d (D.sl v15)]), (64, .box 24 [.d (D.sl v16)]), (64000, .arr 3 true v11), (64001, .arr 3 true v13), (64002, .arr 3 true v20)]) (LoopEnd prog f106 2 45 (.tup [.os 8 r.1.length, .d (D.str r.2.1), .os 9 r.2.2.1.length, .os 10 r.2.2.2.1.length]) (⟨[(24, [.d (D.sl r.2.2.2.2.1)]), (24, [.d (D.sl r.2.2.2.2.2)])], [(3, true, r.1), (3, true, r.2.2.1), (3, true, r.2.2.2.1)]⟩) (fun i ts os => False))
  | 0, _, _, _, _, _, _, _, h => by
      rw [impl_walk__simplest_1_2_l0] at h; cases h
  | n + 1, v11, v12, v13, v14, v15, v16, v20, h => by
      rw [impl_walk__simplest_1_2_l0] at h
      refine LoopOk.step ?_
      conv => whnf
      refine Take.all (rfl) ?_
      conv => whnf
      refine Take.all (by first | rfl | exact List.length_append.symm | (simp; done) | omega) ?_
      conv => whnf
      obtain ⟨g35, h⟩ := req_ex h
      refine Req.of (room (b := 8) (by decide) g35 (wide1 rfl wide0)) ?_
      conv => whnf
      refine Pick.no ?_
      conv => whnf
      obtain ⟨y36, e37, h⟩ := bind_ex h
      refine CallOk.of (impl_simplest_1_2_ct e37) ?_
      conv => whnf
      refine CutK.norm [0, 2, 3, 4, 5, 6, 7] [0, 64, 704, 64001, 64002] ?_
      conv => whnf
      refine splD (fun g38 => ?_) (fun g38 => ?_)
      · replace h := iteP h g38
        conv => whnf
        cases h
        exact Done.of [some 0, some 64, some 704, some 64001, some 64002] [] rfl rfl ⟨⟨rfl, rfl⟩, ⟨rfl, ⟨rfl, rfl, trivial⟩, ⟨rfl, rfl, trivial⟩, ⟨rfl, rfl, rows_same⟩, ⟨rfl, rfl, rows_same⟩, ⟨rfl, rfl, rows_same⟩, trivial⟩, ⟨⟨(by first | rfl | exact List.length_append.symm | (simp; done) | omega), rfl⟩, rfl, ⟨rfl, rfl⟩, ⟨rfl, rfl⟩, trivial⟩, trivial⟩
      · replace h := iteN h g38
        conv => whnf
        refine splD (fun g39 => ?_) (fun g39 => ?_)
        · replace h := iteP h g39
          conv => whnf
          cases h
          exact Done.of [some 0, some 64, some 704, some 64001, some 64002] [] rfl rfl ⟨⟨rfl, rfl⟩, ⟨rfl, ⟨rfl, rfl, trivial⟩, ⟨rfl, rfl, trivial⟩, ⟨rfl, rfl, rows_same⟩, ⟨rfl, rfl, rows_same⟩, ⟨rfl, rfl, rows_same⟩, trivial⟩, ⟨⟨(by first | rfl | exact List.length_append.symm | (simp; done) | omega), rfl⟩, rfl, ⟨rfl, rfl⟩, ⟨rfl, rfl⟩, trivial⟩, trivial⟩
        · replace h := iteN h g39
          conv => whnf
          refine splD (fun g40 => ?_) (fun g40 => ?_)
          · replace h := iteP h g40
            conv => whnf
            obtain ⟨g41, h⟩ := req_ex h
            refine Req.of g41 ?_
            conv => whnf
            refine Take.all (rfl) ?_
            conv => whnf
            refine Take.all (by first | rfl | exact List.length_append.symm | (simp; done) | omega) ?_
            conv => whnf
            obtain ⟨g42, h⟩ := req_ex h
            refine Req.of (room (b := 8) (by decide) g42 (wide1 rfl wide0)) ?_
            conv => whnf
            refine Pick.no ?_
            conv => whnf
            refine Take.all (by first | rfl | exact List.length_append.symm | (simp; done) | omega) ?_
            conv => whnf
            refine Take.all (rfl) ?_
            conv => whnf
            obtain ⟨y43, e44, h⟩ := bind_ex h
            refine CallOk.of (impl_between_ct e44) ?_
            conv => whnf
            exact LoopOk.back (impl_walk__simplest_1_2_l0_ct  n _ _ _ _ _ _ _ h) [some 0, some 64, some 704, some 2112, some 64002] [] ⟨⟨rfl, rfl⟩, ⟨rfl, ⟨rfl, rfl, trivial⟩, ⟨rfl, rfl, trivial⟩, ⟨rfl, rfl, rows_same⟩, ⟨rfl, rfl, rows_same⟩, ⟨rfl, rfl, rows_same⟩, trivial⟩, ⟨rfl, ⟨rfl, rfl⟩, ⟨rfl, rfl⟩, trivial⟩, ⟨(by first | rfl | exact List.length_append.symm | (simp; done) | omega), rfl⟩, rfl, ⟨(by first | rfl | exact List.length_append.symm | (simp; done) | omega), rfl⟩, ⟨rfl, rfl⟩, rfl, trivial⟩
          · replace h := iteN h g40
            conv => whnf
            obtain ⟨g45, h⟩ := req_ex h
            refine Req.of g45 ?_
            conv => whnf
            refine Take.all (rfl) ?_
            conv => whnf
            refine Take.all (by first | rfl | exact List.length_append.symm | (simp; done) | omega) ?_
            conv => whnf
            obtain ⟨g46, h⟩ := req_ex h
            refine Req.of (room (b := 8) (by decide) g46 (wide1 rfl wide0)) ?_
            conv => whnf
            refine Pick.no ?_
            conv => whnf
            refine Take.all (rfl) ?_
            conv => whnf
            refine Take.all (by first | rfl | exact List.length_append.symm | (simp; done) | omega) ?_
            conv => whnf
            obtain ⟨y47, e48, h⟩ := bind_ex h
            refine CallOk.of (impl_between_ct e48) ?_
            conv => whnf
            exact LoopOk.back (impl_walk__simplest_1_2_l0_ct  n _ _ _ _ _ _ _ h) [some 0, some 64, some 704, some 64001, some 2496] [] ⟨⟨rfl, rfl⟩, ⟨rfl, ⟨rfl, rfl, trivial⟩, ⟨rfl, rfl, trivial⟩, ⟨rfl, rfl, rows_same⟩, ⟨rfl, rfl, rows_same⟩, ⟨rfl, rfl, rows_same⟩, trivial⟩, ⟨rfl, ⟨rfl, rfl⟩, ⟨rfl, rfl⟩, trivial⟩, ⟨(by first | rfl | exact List.length_append.symm | (simp; done) | omega), rfl⟩, rfl, ⟨rfl, rfl⟩, ⟨(by first | rfl | exact List.length_append.symm | (simp; done) | omega), rfl⟩, rfl, trivial⟩
def impl_walk__simplest_1_2 (k : Nat) (a1 : Rw) (a2 : Rw) : Option (Rw × ByteArray × Rw × Rw × Rw × Rw) :=
  (impl_walk__simplest_1_2_l0 k ([] : Rw) (ByteArray.mk #[]) ([] : Rw) 0 a1 a2 ([] : Rw))
set_option maxHeartbeats 4000000 in
set_option maxRecDepth 100000 in
theorem impl_walk__simplest_1_2_ct {k : Nat} {a1 : Rw} {a2 : Rw} {r : Rw × ByteArray × Rw × Rw × Rw × Rw} (h : impl_walk__simplest_1_2 k a1 a2 = some r) : Ct prog 106 [.fn 107 [.ptr 0 0, .ptr 64 0]] (⟨[(24, [.d (D.sl a1)]), (24, [.d (D.sl a2)])], []⟩) (.tup [.os 8 r.1.length, .d (D.str r.2.1), .os 9 r.2.2.1.length, .os 10 r.2.2.2.1.length]) (⟨[(24, [.d (D.sl r.2.2.2.2.1)]), (24, [.d (D.sl r.2.2.2.2.2)])], [(3, true, r.1), (3, true, r.2.2.1), (3, true, r.2.2.2.1)]⟩) := by
  rw [impl_walk__simplest_1_2] at h
  refine Ct.of (c := _) mixed func106 ⟨rfl, rfl, rfl⟩ ?_ rfl
  conv => whnf
  refine LoopOk.into (impl_walk__simplest_1_2_l0_ct  _ _ _ _ _ _ _ _ h) [some 0, some 64, none, none, none] [] ⟨⟨rfl, rfl⟩, ⟨rfl, ⟨rfl, rfl, trivial⟩, ⟨rfl, rfl, trivial⟩, rfl, rfl, rfl, trivial⟩, ⟨rfl, ⟨rfl, rfl⟩, ⟨rfl, rfl⟩, trivial⟩, ⟨rfl, rfl⟩, rfl, ⟨rfl, rfl⟩, ⟨rfl, rfl⟩, rfl, trivial⟩ ?_ (fun _ hs => hs)
  exact fun _ _ _ he => he.elim

def impl_simplest_2  (a1 : Int) (a2 : Int) (a3 : Int) : Option (Bool × Int) :=
  (if (IntKind.i64.wrap (a3 * a2)) ≤ (IntKind.i64.wrap (a1 * 1048576)) then some (true, a3) else some (false, a3))
set_option maxHeartbeats 4000000 in
set_option maxRecDepth 100000 in
theorem impl_simplest_2_ct  {a1 : Int} {a2 : Int} {a3 : Int} {r : Bool × Int} (h : impl_simplest_2 a1 a2 a3 = some r) : Ct prog 108 [.agg [.d (D.int .i64 a1), .d (D.int .i64 a2)], .ptr 0 0] (⟨[(3, [.d (D.int .i64 a3)])], []⟩) (.d (D.bool r.1)) (⟨[(3, [.d (D.int .i64 r.2)])], []⟩) := by
  rw [impl_simplest_2] at h
  refine Ct.of (c := _) mixed func108 ⟨rfl, rfl, rfl⟩ ?_ rfl
  conv => whnf
  refine splD (fun g4 => ?_) (fun g4 => ?_)
  · replace h := iteP h g4
    conv => whnf
    cases h
    exact Done.of [some 0] [] rfl rfl ⟨⟨rfl, rfl⟩, ⟨rfl, ⟨rfl, rfl, trivial⟩, trivial⟩, rfl, trivial⟩
  · replace h := iteN h g4
    conv => whnf
    cases h
    exact Done.of [some 0] [] rfl rfl ⟨⟨rfl, rfl⟩, ⟨rfl, ⟨rfl, rfl, trivial⟩, trivial⟩, rfl, trivial⟩

def slices_IndexFunc__simplest_2_l0 (a1 : Rw) (K0 : Int → Option (Int × Int)) : Rw → Nat → Int → Option (Int × Int)
  | [], v11n, v12 => (K0 v12)
  | cs :: rest, v11n, v12 => (cell_ii cs fun x30 x31 => ((impl_simplest_2 x30 x31 v12).bind fun y33 => (if y33.1 = true then some ((v11n : Int), y33.2) else (slices_IndexFunc__simplest_2_l0 a1 K0 rest (v11n + 1) y33.2))))
set_option maxHeartbeats 4000000 in
set_option maxRecDepth 100000 in
theorem slices_IndexFunc__simplest_2_l0_ct {a1 : Rw} {K0 : Int → Option (Int × Int)} {r : Int × Int} (hx : a1.length ≤ cap) : ∀ (rest : Rw) (v11n : Nat) (v12 : Int), a1.drop v11n = rest → slices_IndexFunc__simplest_2_l0 a1 K0 rest v11n v12 = some r → LoopOk prog 1 (lp f163 0) (mk 19 [(0, .d (D.sl a1)), (1, .fn 108 [.ptr 0 0]), (7, .d (D.int .i64 (a1.length : Int))), (8, .d (D.int .i64 (v11n : Int)))] [(0, .box 3 [.d (D.int .i64 v12)])]) (LoopEnd prog f163 1 19 (.d (D.int .i64 r.1)) (⟨[(3, [.d (D.int .i64 r.2)])], []⟩) (fun i ts os => (i = 0 ∧ ∃ v21 : Int, K0 v21 = some r ∧ ts = [] ∧ os = [(0, .box 3 [.d (D.int .i64 v21)])])))
  | [], v11n, v12, hd, h => by
      rw [slices_IndexFunc__simplest_2_l0] at h
      have hn := drop_nil hd
      refine LoopOk.step ?_
      conv => whnf
      refine splD (fun g => absurd g hn) (fun _ => ?_)
      conv => whnf
      exact ⟨_, _, [some 0], [], ⟨rfl, _, h, rfl, rfl⟩, ⟨⟨rfl, rfl⟩, ⟨rfl, ⟨rfl, rfl, trivial⟩, trivial⟩, trivial⟩⟩
  | cs :: rest, v11n, v12, hd, h => by
      rw [slices_IndexFunc__simplest_2_l0] at h
      obtain ⟨hrow, hd1, hlt⟩ := drop_cons hd
      refine LoopOk.step ?_
      conv => whnf
      refine splD (fun _ => ?_) (fun g => absurd hlt g)
      conv => whnf
      obtain ⟨x30, x31, e32, h⟩ := cell_ii_ex h
      rw [e32] at hrow
      refine Req.of (Int.natCast_nonneg _) ?_
      refine Row.of _ hrow ?_
      conv => whnf
      refine Pick.no ?_
      conv => whnf
      obtain ⟨y33, e34, h⟩ := bind_ex h
      refine CallOk.of (impl_simplest_2_ct e34) ?_
      conv => whnf
      refine spl (fun g35 => ?_) (fun g35 => ?_)
      · replace h := iteT h g35
        conv => whnf
        refine CutK.go ?_
        conv => whnf
        cases h
        exact Done.of [some 0] [] rfl rfl ⟨⟨rfl, rfl⟩, ⟨rfl, ⟨rfl, rfl, trivial⟩, trivial⟩, rfl, trivial⟩
      · replace h := iteF h g35
        conv => whnf
        refine CutK.go ?_
        conv => whnf
        refine CutK.go ?_
        conv => whnf
        exact LoopOk.back (slices_IndexFunc__simplest_2_l0_ct hx rest (v11n + 1) _ hd1 h) [some 0] [] ⟨⟨rfl, rfl⟩, ⟨rfl, ⟨rfl, rfl, trivial⟩, trivial⟩, rfl, ⟨rfl, ⟨rfl, rfl⟩, trivial⟩, rfl, i64eq (wrap_up hlt hx), trivial⟩
def slices_IndexFunc__simplest_2  (a1 : Rw) (a2 : Int) : Option (Int × Int) :=
  (if a1.length ≤ cap then (slices_IndexFunc__simplest_2_l0 a1 (fun (v21 : Int) => some ((-1), v21)) a1 0 a2) else none)
set_option maxHeartbeats 4000000 in
set_option maxRecDepth 100000 in
theorem slices_IndexFunc__simplest_2_ct  {a1 : Rw} {a2 : Int} {r : Int × Int} (h : slices_IndexFunc__simplest_2 a1 a2 = some r) : Ct prog 163 [.d (D.sl a1), .fn 108 [.ptr 0 0]] (⟨[(3, [.d (D.int .i64 a2)])], []⟩) (.d (D.int .i64 r.1)) (⟨[(3, [.d (D.int .i64 r.2)])], []⟩) := by
  rw [slices_IndexFunc__simplest_2] at h
  refine Ct.of (c := _) mixed func163 ⟨rfl, rfl, rfl⟩ ?_ rfl
  conv => whnf
  obtain ⟨g36, h⟩ := req_ex h
  refine LoopOk.into (slices_IndexFunc__simplest_2_l0_ct  g36 _ _ _ rfl h) [some 0] [] ⟨⟨rfl, rfl⟩, ⟨rfl, ⟨rfl, rfl, trivial⟩, trivial⟩, rfl, ⟨rfl, ⟨rfl, rfl⟩, trivial⟩, rfl, rfl, trivial⟩ ?_ (fun _ hs => hs)
  rintro i ts os ⟨rfl, v21, h, rfl, rfl⟩
  conv => whnf
  refine CutK.go ?_
  conv => whnf
  cases h
  exact Done.of [some 0] [] rfl rfl ⟨⟨rfl, rfl⟩, ⟨rfl, ⟨rfl, rfl, trivial⟩, trivial⟩, rfl, trivial⟩

def slices_ContainsFunc__simplest_2  (a1 : Rw) (a2 : Int) : Option (Bool × Int) :=
  ((slices_IndexFunc__simplest_2 a1 a2).bind fun y3 => (if (0 : Int) ≤ y3.1 then some (true, y3.2) else some (false, y3.2)))
set_option maxHeartbeats 4000000 in
set_option maxRecDepth 100000 in
theorem slices_ContainsFunc__simplest_2_ct  {a1 : Rw} {a2 : Int} {r : Bool × Int} (h : slices_ContainsFunc__simplest_2 a1 a2 = some r) : Ct prog 104 [.d (D.sl a1), .fn 108 [.ptr 0 0]] (⟨[(3, [.d (D.int .i64 a2)])], []⟩) (.d (D.bool r.1)) (⟨[(3, [.d (D.int .i64 r.2)])], []⟩) := by
  rw [slices_ContainsFunc__simplest_2] at h
  refine Ct.of (c := _) mixed func104 ⟨rfl, rfl, rfl⟩ ?_ rfl
  conv => whnf
  refine Pick.no ?_
  conv => whnf
  obtain ⟨y3, e4, h⟩ := bind_ex h
  refine CallOk.of (slices_IndexFunc__simplest_2_ct e4) ?_
  conv => whnf
  refine splD (fun g5 => ?_) (fun g5 => ?_)
  · replace h := iteP h g5
    conv => whnf
    refine CutK.go ?_
    conv => whnf
    cases h
    exact Done.of [some 0] [] rfl rfl ⟨⟨rfl, rfl⟩, ⟨rfl, ⟨rfl, rfl, trivial⟩, trivial⟩, rfl, trivial⟩
  · replace h := iteN h g5
    conv => whnf
    refine CutK.go ?_
    conv => whnf
    cases h
    exact Done.of [some 0] [] rfl rfl ⟨⟨rfl, rfl⟩, ⟨rfl, ⟨rfl, rfl, trivial⟩, trivial⟩, rfl, trivial⟩

def impl_simplest_3  (a1 : Int) (a2 : Int) (a3 : Int) : Option (Bool × Int) :=
  (if (IntKind.i64.wrap (a1 * 1048576)) ≤ (IntKind.i64.wrap (a3 * a2)) then some (true, a3) else some (false, a3))
set_option maxHeartbeats 4000000 in
set_option maxRecDepth 100000 in
theorem impl_simplest_3_ct  {a1 : Int} {a2 : Int} {a3 : Int} {r : Bool × Int} (h : impl_simplest_3 a1 a2 a3 = some r) : Ct prog 109 [.agg [.d (D.int .i64 a1), .d (D.int .i64 a2)], .ptr 0 0] (⟨[(3, [.d (D.int .i64 a3)])], []⟩) (.d (D.bool r.1)) (⟨[(3, [.d (D.int .i64 r.2)])], []⟩) := by
  rw [impl_simplest_3] at h
  refine Ct.of (c := _) mixed func109 ⟨rfl, rfl, rfl⟩ ?_ rfl
  conv => whnf
  refine splD (fun g4 => ?_) (fun g4 => ?_)
  · replace h := iteP h g4
    conv => whnf
    cases h
    exact Done.of [some 0] [] rfl rfl ⟨⟨rfl, rfl⟩, ⟨rfl, ⟨rfl, rfl, trivial⟩, trivial⟩, rfl, trivial⟩
  · replace h := iteN h g4
    conv => whnf
    cases h
    exact Done.of [some 0] [] rfl rfl ⟨⟨rfl, rfl⟩, ⟨rfl, ⟨rfl, rfl, trivial⟩, trivial⟩, rfl, trivial⟩

def slices_IndexFunc__simplest_3_l0 (a1 : Rw) (K0 : Int → Option (Int × Int)) : Rw → Nat → Int → Option (Int × Int)
  | [], v11n, v12 => (K0 v12)
  | cs :: rest, v11n, v12 => (cell_ii cs fun x30 x31 => ((impl_simplest_3 x30 x31 v12).bind fun y33 => (if y33.1 = true then some ((v11n : Int), y33.2) else (slices_IndexFunc__simplest_3_l0 a1 K0 rest (v11n + 1) y33.2))))
set_option maxHeartbeats 4000000 in
set_option maxRecDepth 100000 in
theorem slices_IndexFunc__simplest_3_l0_ct {a1 : Rw} {K0 : Int → Option (Int × Int)} {r : Int × Int} (hx : a1.length ≤ cap) : ∀ (rest : Rw) (v11n : Nat) (v12 : Int), a1.drop v11n = rest → slices_IndexFunc__simplest_3_l0 a1 K0 rest v11n v12 = some r → LoopOk prog 1 (lp f163 0) (mk 19 [(0, .d (D.sl a1)), (1, .fn 109 [.ptr 0 0]), (7, .d (D.int .i64 (a1.length : Int))), (8, .d (D.int .i64 (v11n : Int)))] [(0, .box 3 [.d (D.int .i64 v12)])]) (LoopEnd prog f163 1 19 (.d (D.int .i64 r.1)) (⟨[(3, [.d (D.int .i64 r.2)])], []⟩) (fun i ts os => (i = 0 ∧ ∃ v21 : Int, K0 v21 = some r ∧ ts = [] ∧ os = [(0, .box 3 [.d (D.int .i64 v21)])])))
  | [], v11n, v12, hd, h => by
      rw [slices_IndexFunc__simplest_3_l0] at h
      have hn := drop_nil hd
      refine LoopOk.step ?_
      conv => whnf
      refine splD (fun g => absurd g hn) (fun _ => ?_)
      conv => whnf
      exact ⟨_, _, [some 0], [], ⟨rfl, _, h, rfl, rfl⟩, ⟨⟨rfl, rfl⟩, ⟨rfl, ⟨rfl, rfl, trivial⟩, trivial⟩, trivial⟩⟩
  | cs :: rest, v11n, v12, hd, h => by
      rw [slices_IndexFunc__simplest_3_l0] at h
      obtain ⟨hrow, hd1, hlt⟩ := drop_cons hd
      refine LoopOk.step ?_
      conv => whnf
      refine splD (fun _ => ?_) (fun g => absurd hlt g)
      conv => whnf
      obtain ⟨x30, x31, e32, h⟩ := cell_ii_ex h
      rw [e32] at hrow
      refine Req.of (Int.natCast_nonneg _) ?_
      refine Row.of _ hrow ?_
      conv => whnf
      refine Pick.no ?_
      conv => whnf
      obtain ⟨y33, e34, h⟩ := bind_ex h
      refine CallOk.of (impl_simplest_3_ct e34) ?_
      conv => whnf
      refine spl (fun g35 => ?_) (fun g35 => ?_)
      · replace h := iteT h g35
        conv => whnf
        refine CutK.go ?_
        conv => whnf
        cases h
        exact Done.of [some 0] [] rfl rfl ⟨⟨rfl, rfl⟩, ⟨rfl, ⟨rfl, rfl, trivial⟩, trivial⟩, rfl, trivial⟩
      · replace h := iteF h g35
        conv => whnf
        refine CutK.go ?_
        conv => whnf
        refine CutK.go ?_
        conv => whnf
        exact LoopOk.back (slices_IndexFunc__simplest_3_l0_ct hx rest (v11n + 1) _ hd1 h) [some 0] [] ⟨⟨rfl, rfl⟩, ⟨rfl, ⟨rfl, rfl, trivial⟩, trivial⟩, rfl, ⟨rfl, ⟨rfl, rfl⟩, trivial⟩, rfl, i64eq (wrap_up hlt hx), trivial⟩
def slices_IndexFunc__simplest_3  (a1 : Rw) (a2 : Int) : Option (Int × Int) :=
  (if a1.length ≤ cap then (slices_IndexFunc__simplest_3_l0 a1 (fun (v21 : Int) => some ((-1), v21)) a1 0 a2) else none)
set_option maxHeartbeats 4000000 in
set_option maxRecDepth 100000 in
theorem slices_IndexFunc__simplest_3_ct  {a1 : Rw} {a2 : Int} {r : Int × Int} (h : slices_IndexFunc__simplest_3 a1 a2 = some r) : Ct prog 163 [.d (D.sl a1), .fn 109 [.ptr 0 0]] (⟨[(3, [.d (D.int .i64 a2)])], []⟩) (.d (D.int .i64 r.1)) (⟨[(3, [.d (D.int .i64 r.2)])], []⟩) := by
  rw [slices_IndexFunc__simplest_3] at h
  refine Ct.of (c := _) mixed func163 ⟨rfl, rfl, rfl⟩ ?_ rfl
  conv => whnf
  obtain ⟨g36, h⟩ := req_ex h
  refine LoopOk.into (slices_IndexFunc__simplest_3_l0_ct  g36 _ _ _ rfl h) [some 0] [] ⟨⟨rfl, rfl⟩, ⟨rfl, ⟨rfl, rfl, trivial⟩, trivial⟩, rfl, ⟨rfl, ⟨rfl, rfl⟩, trivial⟩, rfl, rfl, trivial⟩ ?_ (fun _ hs => hs)
  rintro i ts os ⟨rfl, v21, h, rfl, rfl⟩
  conv => whnf
  refine CutK.go ?_
  conv => whnf
  cases h
  exact Done.of [some 0] [] rfl rfl ⟨⟨rfl, rfl⟩, ⟨rfl, ⟨rfl, rfl, trivial⟩, trivial⟩, rfl, trivial⟩

def slices_ContainsFunc__simplest_3  (a1 : Rw) (a2 : Int) : Option (Bool × Int) :=
  ((slices_IndexFunc__simplest_3 a1 a2).bind fun y3 => (if (0 : Int) ≤ y3.1 then some (true, y3.2) else some (false, y3.2)))
set_option maxHeartbeats 4000000 in
set_option maxRecDepth 100000 in
theorem slices_ContainsFunc__simplest_3_ct  {a1 : Rw} {a2 : Int} {r : Bool × Int} (h : slices_ContainsFunc__simplest_3 a1 a2 = some r) : Ct prog 104 [.d (D.sl a1), .fn 109 [.ptr 0 0]] (⟨[(3, [.d (D.int .i64 a2)])], []⟩) (.d (D.bool r.1)) (⟨[(3, [.d (D.int .i64 r.2)])], []⟩) := by
  rw [slices_ContainsFunc__simplest_3] at h
  refine Ct.of (c := _) mixed func104 ⟨rfl, rfl, rfl⟩ ?_ rfl
  conv => whnf
  refine Pick.no ?_
  conv => whnf
  obtain ⟨y3, e4, h⟩ := bind_ex h
  refine CallOk.of (slices_IndexFunc__simplest_3_ct e4) ?_
  conv => whnf
  refine splD (fun g5 => ?_) (fun g5 => ?_)
  · replace h := iteP h g5
    conv => whnf
    refine CutK.go ?_
    conv => whnf
    cases h
    exact Done.of [some 0] [] rfl rfl ⟨⟨rfl, rfl⟩, ⟨rfl, ⟨rfl, rfl, trivial⟩, trivial⟩, rfl, trivial⟩
  · replace h := iteN h g5
    conv => whnf
    refine CutK.go ?_
    conv => whnf
    cases h
    exact Done.of [some 0] [] rfl rfl ⟨⟨rfl, rfl⟩, ⟨rfl, ⟨rfl, rfl, trivial⟩, trivial⟩, rfl, trivial⟩
end
end Go.Proofs.Try
