/- All chunks. -/
import Derived.Test.YtddpjahoeldleaaGreatDoorHC01
import Derived.Test.YtddpjahoeldleaaGreatDoorHC02
import Derived.Test.YtddpjahoeldleaaGreatDoorHC03
import Derived.Test.YtddpjahoeldleaaGreatDoorHC04
import Derived.Test.YtddpjahoeldleaaGreatDoorHC05
import Derived.Test.YtddpjahoeldleaaGreatDoorHC06
import Derived.Test.YtddpjahoeldleaaGreatDoorHC07
import Derived.Test.YtddpjahoeldleaaGreatDoorHC08
import Derived.Test.YtddpjahoeldleaaGreatDoorHC09
import Derived.Test.YtddpjahoeldleaaGreatDoorHC10
import Derived.Test.YtddpjahoeldleaaGreatDoorHC11
import Derived.Test.YtddpjahoeldleaaGreatDoorHC12
import Derived.Test.YtddpjahoeldleaaGreatDoorHC13
import Derived.Test.YtddpjahoeldleaaGreatDoorHC14
import Derived.Test.YtddpjahoeldleaaGreatDoorHC15
import Derived.Test.YtddpjahoeldleaaGreatDoorHC16
import Derived.Test.YtddpjahoeldleaaGreatDoorHC17
import Derived.Test.YtddpjahoeldleaaGreatDoorHC18
import Derived.Test.YtddpjahoeldleaaGreatDoorHC19
import Derived.Test.YtddpjahoeldleaaGreatDoorHC20
import Derived.Test.YtddpjahoeldleaaGreatDoorHC21
import Derived.Test.YtddpjahoeldleaaGreatDoorHC22
import Derived.Test.YtddpjahoeldleaaGreatDoorHC23
import Derived.Test.YtddpjahoeldleaaGreatDoorHC24
namespace Go.Proofs.YtddpjahoeldleaaGreatDoor.Hs
theorem all_parts : Parts 99 := (((((((((((((((((((((((((((((((((((((((((((((((((((((((((((((((((((((((((((((((((((((((((((((((((((Parts.z.s r0).s r1).s r2).s r3).s r4).s r5).s r6).s r7).s r8).s r9).s r10).s r11).s r12).s r13).s r14).s r15).s r16).s r17).s r18).s r19).s r20).s r21).s r22).s r23).s r24).s r25).s r26).s r27).s r28).s r29).s r30).s r31).s r32).s r33).s r34).s r35).s r36).s r37).s r38).s r39).s r40).s r41).s r42).s r43).s r44).s r45).s r46).s r47).s r48).s r49).s r50).s r51).s r52).s r53).s r54).s r55).s r56).s r57).s r58).s r59).s r60).s r61).s r62).s r63).s r64).s r65).s r66).s r67).s r68).s r69).s r70).s r71).s r72).s r73).s r74).s r75).s r76).s r77).s r78).s r79).s r80).s r81).s r82).s r83).s r84).s r85).s r86).s r87).s r88).s r89).s r90).s r91).s r92).s r93).s r94).s r95).s r96).s r97).s r98)
end Go.Proofs.YtddpjahoeldleaaGreatDoor.Hs
