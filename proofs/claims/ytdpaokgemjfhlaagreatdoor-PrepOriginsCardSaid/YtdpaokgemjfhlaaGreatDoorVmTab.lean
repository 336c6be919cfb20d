/- The tables of this program for the abstract machine: tries of the loaded constants. -/
import Derived.Test.YtdpaokgemjfhlaaGreatDoorVmOps
import Derived.Test.YtdpaokgemjfhlaaGreatDoorProg
namespace Go.Vm.Tryz
open Go.Proofs.Tryz
set_option maxRecDepth 100000
private abbrev n {α : Type} := @Tr.node α
private abbrev l {α : Type} := @Tr.leaf α
noncomputable def tys : Tr TypeInfo :=
  (n (n (n (n (n (n (n (n l (some t127) l) (some t63) (n l (some t191) l)) (some t31) (n (n l (some t159) l) (some t95) l)) (some t15) (n (n (n l (some t143) l) (some t79) l) (some
  t47) (n (n l (some t175) l) (some t111) l))) (some t7) (n (n (n (n l (some t135) l) (some t71) l) (some t39) (n (n l (some t167) l) (some t103) l)) (some t23) (n (n (n l (some t151)
  l) (some t87) l) (some t55) (n (n l (some t183) l) (some t119) l)))) (some t3) (n (n (n (n (n l (some t131) l) (some t67) (n l (some t195) l)) (some t35) (n (n l (some t163) l)
  (some t99) l)) (some t19) (n (n (n l (some t147) l) (some t83) l) (some t51) (n (n l (some t179) l) (some t115) l))) (some t11) (n (n (n (n l (some t139) l) (some t75) l) (some t43)
  (n (n l (some t171) l) (some t107) l)) (some t27) (n (n (n l (some t155) l) (some t91) l) (some t59) (n (n l (some t187) l) (some t123) l))))) (some t1) (n (n (n (n (n (n l (some
  t129) l) (some t65) (n l (some t193) l)) (some t33) (n (n l (some t161) l) (some t97) l)) (some t17) (n (n (n l (some t145) l) (some t81) l) (some t49) (n (n l (some t177) l) (some
  t113) l))) (some t9) (n (n (n (n l (some t137) l) (some t73) l) (some t41) (n (n l (some t169) l) (some t105) l)) (some t25) (n (n (n l (some t153) l) (some t89) l) (some t57) (n (n
  l (some t185) l) (some t121) l)))) (some t5) (n (n (n (n (n l (some t133) l) (some t69) (n l (some t197) l)) (some t37) (n (n l (some t165) l) (some t101) l)) (some t21) (n (n (n l
  (some t149) l) (some t85) l) (some t53) (n (n l (some t181) l) (some t117) l))) (some t13) (n (n (n (n l (some t141) l) (some t77) l) (some t45) (n (n l (some t173) l) (some t109)
  l)) (some t29) (n (n (n l (some t157) l) (some t93) l) (some t61) (n (n l (some t189) l) (some t125) l)))))) (some t0) (n (n (n (n (n (n (n l (some t128) l) (some t64) (n l (some
  t192) l)) (some t32) (n (n l (some t160) l) (some t96) l)) (some t16) (n (n (n l (some t144) l) (some t80) l) (some t48) (n (n l (some t176) l) (some t112) l))) (some t8) (n (n (n
  (n l (some t136) l) (some t72) l) (some t40) (n (n l (some t168) l) (some t104) l)) (some t24) (n (n (n l (some t152) l) (some t88) l) (some t56) (n (n l (some t184) l) (some t120)
  l)))) (some t4) (n (n (n (n (n l (some t132) l) (some t68) (n l (some t196) l)) (some t36) (n (n l (some t164) l) (some t100) l)) (some t20) (n (n (n l (some t148) l) (some t84) l)
  (some t52) (n (n l (some t180) l) (some t116) l))) (some t12) (n (n (n (n l (some t140) l) (some t76) l) (some t44) (n (n l (some t172) l) (some t108) l)) (some t28) (n (n (n l
  (some t156) l) (some t92) l) (some t60) (n (n l (some t188) l) (some t124) l))))) (some t2) (n (n (n (n (n (n l (some t130) l) (some t66) (n l (some t194) l)) (some t34) (n (n l
  (some t162) l) (some t98) l)) (some t18) (n (n (n l (some t146) l) (some t82) l) (some t50) (n (n l (some t178) l) (some t114) l))) (some t10) (n (n (n (n l (some t138) l) (some
  t74) l) (some t42) (n (n l (some t170) l) (some t106) l)) (some t26) (n (n (n l (some t154) l) (some t90) l) (some t58) (n (n l (some t186) l) (some t122) l)))) (some t6) (n (n (n
  (n (n l (some t134) l) (some t70) (n l (some t198) l)) (some t38) (n (n l (some t166) l) (some t102) l)) (some t22) (n (n (n l (some t150) l) (some t86) l) (some t54) (n (n l (some
  t182) l) (some t118) l))) (some t14) (n (n (n (n l (some t142) l) (some t78) l) (some t46) (n (n l (some t174) l) (some t110) l)) (some t30) (n (n (n l (some t158) l) (some t94) l)
  (some t62) (n (n l (some t190) l) (some t126) l)))))))
noncomputable def fns : Tr Func :=
  (n (n (n (n (n (n (n (n l (some f127) l) (some f63) l) (some f31) (n (n l (some f159) l) (some f95) l)) (some f15) (n (n (n l (some f143) l) (some f79) l) (some f47) (n (n l (some
  f175) l) (some f111) l))) (some f7) (n (n (n (n l (some f135) l) (some f71) l) (some f39) (n (n l (some f167) l) (some f103) l)) (some f23) (n (n (n l (some f151) l) (some f87) l)
  (some f55) (n l (some f119) l)))) (some f3) (n (n (n (n (n l (some f131) l) (some f67) l) (some f35) (n (n l (some f163) l) (some f99) l)) (some f19) (n (n (n l (some f147) l) (some
  f83) l) (some f51) (n (n l (some f179) l) (some f115) l))) (some f11) (n (n (n (n l (some f139) l) (some f75) l) (some f43) (n (n l (some f171) l) (some f107) l)) (some f27) (n (n
  (n l (some f155) l) (some f91) l) (some f59) (n l (some f123) l))))) (some f1) (n (n (n (n (n (n l (some f129) l) (some f65) l) (some f33) (n (n l (some f161) l) (some f97) l))
  (some f17) (n (n (n l (some f145) l) (some f81) l) (some f49) (n (n l (some f177) l) (some f113) l))) (some f9) (n (n (n (n l (some f137) l) (some f73) l) (some f41) (n (n l (some
  f169) l) (some f105) l)) (some f25) (n (n (n l (some f153) l) (some f89) l) (some f57) (n l (some f121) l)))) (some f5) (n (n (n (n (n l (some f133) l) (some f69) l) (some f37) (n
  (n l (some f165) l) (some f101) l)) (some f21) (n (n (n l (some f149) l) (some f85) l) (some f53) (n (n l (some f181) l) (some f117) l))) (some f13) (n (n (n (n l (some f141) l)
  (some f77) l) (some f45) (n (n l (some f173) l) (some f109) l)) (some f29) (n (n (n l (some f157) l) (some f93) l) (some f61) (n l (some f125) l)))))) (some f0) (n (n (n (n (n (n (n
  l (some f128) l) (some f64) l) (some f32) (n (n l (some f160) l) (some f96) l)) (some f16) (n (n (n l (some f144) l) (some f80) l) (some f48) (n (n l (some f176) l) (some f112) l)))
  (some f8) (n (n (n (n l (some f136) l) (some f72) l) (some f40) (n (n l (some f168) l) (some f104) l)) (some f24) (n (n (n l (some f152) l) (some f88) l) (some f56) (n l (some f120)
  l)))) (some f4) (n (n (n (n (n l (some f132) l) (some f68) l) (some f36) (n (n l (some f164) l) (some f100) l)) (some f20) (n (n (n l (some f148) l) (some f84) l) (some f52) (n (n l
  (some f180) l) (some f116) l))) (some f12) (n (n (n (n l (some f140) l) (some f76) l) (some f44) (n (n l (some f172) l) (some f108) l)) (some f28) (n (n (n l (some f156) l) (some
  f92) l) (some f60) (n l (some f124) l))))) (some f2) (n (n (n (n (n (n l (some f130) l) (some f66) l) (some f34) (n (n l (some f162) l) (some f98) l)) (some f18) (n (n (n l (some
  f146) l) (some f82) l) (some f50) (n (n l (some f178) l) (some f114) l))) (some f10) (n (n (n (n l (some f138) l) (some f74) l) (some f42) (n (n l (some f170) l) (some f106) l))
  (some f26) (n (n (n l (some f154) l) (some f90) l) (some f58) (n l (some f122) l)))) (some f6) (n (n (n (n (n l (some f134) l) (some f70) l) (some f38) (n (n l (some f166) l) (some
  f102) l)) (some f22) (n (n (n l (some f150) l) (some f86) l) (some f54) (n l (some f118) l))) (some f14) (n (n (n (n l (some f142) l) (some f78) l) (some f46) (n (n l (some f174) l)
  (some f110) l)) (some f30) (n (n (n l (some f158) l) (some f94) l) (some f62) (n l (some f126) l)))))))
noncomputable def eqs : List Nat := [39, 47]
noncomputable def gls : List Nat := [0, 1]
noncomputable def lies : List (Nat × Nat × Nat) := [(79, 0, 79)]
theorem tys_eq : tys = Tr.ofList prog.types.toList := by rfl
theorem fns_eq : fns = Tr.ofList prog.funcs.toList := by rfl
end Go.Vm.Tryz
