/-
  What lives of layer 17 comes to: some of its calls, run. Printed by a program (dev/chunk.sh). No condition.
-/
import Derived.Test.YtcbpdjikdohegaaQwa2
namespace Go.Proofs.Ytcbpdjikdohegaa
open Go.RowKit
/-- linkboy/wheel.Wheel.tick -/
theorem qwr915 : memoRuns Try.prog qwt915 100000 60 64 qwa915 qwb915 qwv915 qwc915 = true := by kernel_rfl
/-- linkboy/wheel.Wheel.tick -/
theorem qwr921 : memoRuns Try.prog qwt921 100000 60 64 qwa921 qwb921 qwv921 qwc921 = true := by kernel_rfl
/-- linkboy/wheel.Wheel.tick -/
theorem qwr927 : memoRuns Try.prog qwt927 100000 60 64 qwa927 qwb927 qwv927 qwc927 = true := by kernel_rfl
/-- linkboy/wheel.Wheel.tick -/
theorem qwr933 : memoRuns Try.prog qwt933 100000 60 64 qwa933 qwb933 qwv933 qwc933 = true := by kernel_rfl
/-- linkboy/wheel.Wheel.tick -/
theorem qwr939 : memoRuns Try.prog qwt939 100000 60 64 qwa939 qwb939 qwv939 qwc939 = true := by kernel_rfl
/-- linkboy/wheel.Wheel.tick -/
theorem qwr945 : memoRuns Try.prog qwt945 100000 60 64 qwa945 qwb945 qwv945 qwc945 = true := by kernel_rfl
/-- linkboy/wheel.Wheel.tick -/
theorem qwr951 : memoRuns Try.prog qwt951 100000 60 64 qwa951 qwb951 qwv951 qwc951 = true := by kernel_rfl
/-- linkboy/wheel.Wheel.tick -/
theorem qwr957 : memoRuns Try.prog qwt957 100000 60 64 qwa957 qwb957 qwv957 qwc957 = true := by kernel_rfl
/-- linkboy/wheel.Wheel.tick -/
theorem qwr963 : memoRuns Try.prog qwt963 100000 60 64 qwa963 qwb963 qwv963 qwc963 = true := by kernel_rfl
/-- linkboy/wheel.Wheel.tick -/
theorem qwr969 : memoRuns Try.prog qwt969 100000 60 64 qwa969 qwb969 qwv969 qwc969 = true := by kernel_rfl
/-- linkboy/wheel.Wheel.tick -/
theorem qwr976 : memoRuns Try.prog qwt976 100000 60 64 qwa976 qwb976 qwv976 qwc976 = true := by kernel_rfl
/-- linkboy/wheel.Wheel.tick -/
theorem qwr982 : memoRuns Try.prog qwt982 100000 60 64 qwa982 qwb982 qwv982 qwc982 = true := by kernel_rfl
/-- linkboy/wheel.Wheel.tick -/
theorem qwr988 : memoRuns Try.prog qwt988 100000 60 64 qwa988 qwb988 qwv988 qwc988 = true := by kernel_rfl
/-- linkboy/wheel.Wheel.tick -/
theorem qwr994 : memoRuns Try.prog qwt994 100000 60 64 qwa994 qwb994 qwv994 qwc994 = true := by kernel_rfl
/-- linkboy/wheel.Wheel.tick -/
theorem qwr1000 : memoRuns Try.prog qwt1000 100000 60 64 qwa1000 qwb1000 qwv1000 qwc1000 = true := by kernel_rfl
/-- linkboy/wheel.Wheel.tick -/
theorem qwr1006 : memoRuns Try.prog qwt1006 100000 60 64 qwa1006 qwb1006 qwv1006 qwc1006 = true := by kernel_rfl
/-- linkboy/wheel.Wheel.tick -/
theorem qwr1012 : memoRuns Try.prog qwt1012 100000 60 64 qwa1012 qwb1012 qwv1012 qwc1012 = true := by kernel_rfl
/-- linkboy/wheel.Wheel.tick -/
theorem qwr1018 : memoRuns Try.prog qwt1018 100000 60 64 qwa1018 qwb1018 qwv1018 qwc1018 = true := by kernel_rfl
/-- linkboy/wheel.Wheel.tick -/
theorem qwr1024 : memoRuns Try.prog qwt1024 100000 60 64 qwa1024 qwb1024 qwv1024 qwc1024 = true := by kernel_rfl
/-- linkboy/wheel.Wheel.tick -/
theorem qwr1030 : memoRuns Try.prog qwt1030 100000 60 64 qwa1030 qwb1030 qwv1030 qwc1030 = true := by kernel_rfl
/-- linkboy/wheel.Wheel.tick -/
theorem qwr1036 : memoRuns Try.prog qwt1036 100000 60 64 qwa1036 qwb1036 qwv1036 qwc1036 = true := by kernel_rfl
/-- linkboy/wheel.Wheel.tick -/
theorem qwr1042 : memoRuns Try.prog qwt1042 100000 60 64 qwa1042 qwb1042 qwv1042 qwc1042 = true := by kernel_rfl
/-- linkboy/wheel.Wheel.tick -/
theorem qwr1048 : memoRuns Try.prog qwt1048 100000 60 64 qwa1048 qwb1048 qwv1048 qwc1048 = true := by kernel_rfl
/-- linkboy/wheel.Wheel.tick -/
theorem qwr1054 : memoRuns Try.prog qwt1054 100000 60 64 qwa1054 qwb1054 qwv1054 qwc1054 = true := by kernel_rfl
/-- linkboy/wheel.Wheel.tick -/
theorem qwr1060 : memoRuns Try.prog qwt1060 100000 60 64 qwa1060 qwb1060 qwv1060 qwc1060 = true := by kernel_rfl
/-- linkboy/wheel.Wheel.tick -/
theorem qwr1066 : memoRuns Try.prog qwt1066 100000 60 64 qwa1066 qwb1066 qwv1066 qwc1066 = true := by kernel_rfl
/-- linkboy/wheel.Wheel.tick -/
theorem qwr1073 : memoRuns Try.prog qwt1073 100000 60 64 qwa1073 qwb1073 qwv1073 qwc1073 = true := by kernel_rfl
/-- linkboy/wheel.Wheel.tick -/
theorem qwr1079 : memoRuns Try.prog qwt1079 100000 60 64 qwa1079 qwb1079 qwv1079 qwc1079 = true := by kernel_rfl
/-- linkboy/wheel.Wheel.tick -/
theorem qwr1085 : memoRuns Try.prog qwt1085 100000 60 64 qwa1085 qwb1085 qwv1085 qwc1085 = true := by kernel_rfl
/-- linkboy/wheel.Wheel.tick -/
theorem qwr1091 : memoRuns Try.prog qwt1091 100000 60 64 qwa1091 qwb1091 qwv1091 qwc1091 = true := by kernel_rfl
/-- linkboy/wheel.Wheel.tick -/
theorem qwr1097 : memoRuns Try.prog qwt1097 100000 60 64 qwa1097 qwb1097 qwv1097 qwc1097 = true := by kernel_rfl
/-- linkboy/wheel.Wheel.tick -/
theorem qwr1103 : memoRuns Try.prog qwt1103 100000 60 64 qwa1103 qwb1103 qwv1103 qwc1103 = true := by kernel_rfl
/-- linkboy/wheel.Wheel.tick -/
theorem qwr1109 : memoRuns Try.prog qwt1109 100000 60 64 qwa1109 qwb1109 qwv1109 qwc1109 = true := by kernel_rfl
/-- linkboy/wheel.Wheel.tick -/
theorem qwr1115 : memoRuns Try.prog qwt1115 100000 60 64 qwa1115 qwb1115 qwv1115 qwc1115 = true := by kernel_rfl
/-- linkboy/wheel.Wheel.tick -/
theorem qwr1121 : memoRuns Try.prog qwt1121 100000 60 64 qwa1121 qwb1121 qwv1121 qwc1121 = true := by kernel_rfl
/-- linkboy/wheel.Wheel.tick -/
theorem qwr1127 : memoRuns Try.prog qwt1127 100000 60 64 qwa1127 qwb1127 qwv1127 qwc1127 = true := by kernel_rfl
/-- linkboy/wheel.Wheel.tick -/
theorem qwr1133 : memoRuns Try.prog qwt1133 100000 60 64 qwa1133 qwb1133 qwv1133 qwc1133 = true := by kernel_rfl
/-- linkboy/wheel.Wheel.tick -/
theorem qwr1139 : memoRuns Try.prog qwt1139 100000 60 64 qwa1139 qwb1139 qwv1139 qwc1139 = true := by kernel_rfl
/-- linkboy/wheel.Wheel.tick -/
theorem qwr1145 : memoRuns Try.prog qwt1145 100000 60 64 qwa1145 qwb1145 qwv1145 qwc1145 = true := by kernel_rfl
/-- linkboy/wheel.Wheel.tick -/
theorem qwr1151 : memoRuns Try.prog qwt1151 100000 60 64 qwa1151 qwb1151 qwv1151 qwc1151 = true := by kernel_rfl
/-- linkboy/wheel.Wheel.tick -/
theorem qwr1157 : memoRuns Try.prog qwt1157 100000 60 64 qwa1157 qwb1157 qwv1157 qwc1157 = true := by kernel_rfl
/-- linkboy/wheel.Wheel.tick -/
theorem qwr1163 : memoRuns Try.prog qwt1163 100000 60 64 qwa1163 qwb1163 qwv1163 qwc1163 = true := by kernel_rfl
/-- linkboy/wheel.Wheel.tick -/
theorem qwr1170 : memoRuns Try.prog qwt1170 100000 60 64 qwa1170 qwb1170 qwv1170 qwc1170 = true := by kernel_rfl
/-- linkboy/wheel.Wheel.tick -/
theorem qwr1176 : memoRuns Try.prog qwt1176 100000 60 64 qwa1176 qwb1176 qwv1176 qwc1176 = true := by kernel_rfl
/-- linkboy/wheel.Wheel.tick -/
theorem qwr1182 : memoRuns Try.prog qwt1182 100000 60 64 qwa1182 qwb1182 qwv1182 qwc1182 = true := by kernel_rfl
/-- linkboy/wheel.Wheel.tick -/
theorem qwr1188 : memoRuns Try.prog qwt1188 100000 60 64 qwa1188 qwb1188 qwv1188 qwc1188 = true := by kernel_rfl
/-- linkboy/wheel.Wheel.tick -/
theorem qwr1194 : memoRuns Try.prog qwt1194 100000 60 64 qwa1194 qwb1194 qwv1194 qwc1194 = true := by kernel_rfl
/-- linkboy/wheel.Wheel.tick -/
theorem qwr1200 : memoRuns Try.prog qwt1200 100000 60 64 qwa1200 qwb1200 qwv1200 qwc1200 = true := by kernel_rfl
/-- linkboy/wheel.Wheel.tick -/
theorem qwr1206 : memoRuns Try.prog qwt1206 100000 60 64 qwa1206 qwb1206 qwv1206 qwc1206 = true := by kernel_rfl
/-- linkboy/wheel.Wheel.tick -/
theorem qwr1212 : memoRuns Try.prog qwt1212 100000 60 64 qwa1212 qwb1212 qwv1212 qwc1212 = true := by kernel_rfl
/-- linkboy/wheel.Wheel.tick -/
theorem qwr1218 : memoRuns Try.prog qwt1218 100000 60 64 qwa1218 qwb1218 qwv1218 qwc1218 = true := by kernel_rfl
/-- linkboy/wheel.Wheel.tick -/
theorem qwr1224 : memoRuns Try.prog qwt1224 100000 60 64 qwa1224 qwb1224 qwv1224 qwc1224 = true := by kernel_rfl
/-- linkboy/wheel.Wheel.tick -/
theorem qwr1230 : memoRuns Try.prog qwt1230 100000 60 64 qwa1230 qwb1230 qwv1230 qwc1230 = true := by kernel_rfl
/-- linkboy/wheel.Wheel.tick -/
theorem qwr1236 : memoRuns Try.prog qwt1236 100000 60 64 qwa1236 qwb1236 qwv1236 qwc1236 = true := by kernel_rfl
/-- linkboy/wheel.Wheel.tick -/
theorem qwr1242 : memoRuns Try.prog qwt1242 100000 60 64 qwa1242 qwb1242 qwv1242 qwc1242 = true := by kernel_rfl
/-- linkboy/wheel.Wheel.tick -/
theorem qwr1248 : memoRuns Try.prog qwt1248 100000 60 64 qwa1248 qwb1248 qwv1248 qwc1248 = true := by kernel_rfl
/-- linkboy/wheel.Wheel.tick -/
theorem qwr1254 : memoRuns Try.prog qwt1254 100000 60 64 qwa1254 qwb1254 qwv1254 qwc1254 = true := by kernel_rfl
/-- linkboy/wheel.Wheel.tick -/
theorem qwr1260 : memoRuns Try.prog qwt1260 100000 60 64 qwa1260 qwb1260 qwv1260 qwc1260 = true := by kernel_rfl
/-- linkboy/wheel.Wheel.tick -/
theorem qwr1267 : memoRuns Try.prog qwt1267 100000 60 64 qwa1267 qwb1267 qwv1267 qwc1267 = true := by kernel_rfl
/-- linkboy/wheel.Wheel.tick -/
theorem qwr1273 : memoRuns Try.prog qwt1273 100000 60 64 qwa1273 qwb1273 qwv1273 qwc1273 = true := by kernel_rfl
/-- linkboy/wheel.Wheel.tick -/
theorem qwr1279 : memoRuns Try.prog qwt1279 100000 60 64 qwa1279 qwb1279 qwv1279 qwc1279 = true := by kernel_rfl
/-- linkboy/wheel.Wheel.tick -/
theorem qwr1285 : memoRuns Try.prog qwt1285 100000 60 64 qwa1285 qwb1285 qwv1285 qwc1285 = true := by kernel_rfl
/-- linkboy/wheel.Wheel.tick -/
theorem qwr1291 : memoRuns Try.prog qwt1291 100000 60 64 qwa1291 qwb1291 qwv1291 qwc1291 = true := by kernel_rfl
/-- linkboy/wheel.Wheel.tick -/
theorem qwr1297 : memoRuns Try.prog qwt1297 100000 60 64 qwa1297 qwb1297 qwv1297 qwc1297 = true := by kernel_rfl
/-- linkboy/wheel.Wheel.tick -/
theorem qwr1303 : memoRuns Try.prog qwt1303 100000 60 64 qwa1303 qwb1303 qwv1303 qwc1303 = true := by kernel_rfl
/-- linkboy/wheel.Wheel.tick -/
theorem qwr1309 : memoRuns Try.prog qwt1309 100000 60 64 qwa1309 qwb1309 qwv1309 qwc1309 = true := by kernel_rfl
/-- linkboy/wheel.Wheel.tick -/
theorem qwr1315 : memoRuns Try.prog qwt1315 100000 60 64 qwa1315 qwb1315 qwv1315 qwc1315 = true := by kernel_rfl
/-- linkboy/wheel.Wheel.tick -/
theorem qwr1321 : memoRuns Try.prog qwt1321 100000 60 64 qwa1321 qwb1321 qwv1321 qwc1321 = true := by kernel_rfl
/-- linkboy/wheel.Wheel.tick -/
theorem qwr1327 : memoRuns Try.prog qwt1327 100000 60 64 qwa1327 qwb1327 qwv1327 qwc1327 = true := by kernel_rfl
/-- linkboy/wheel.Wheel.tick -/
theorem qwr1333 : memoRuns Try.prog qwt1333 100000 60 64 qwa1333 qwb1333 qwv1333 qwc1333 = true := by kernel_rfl
/-- linkboy/wheel.Wheel.tick -/
theorem qwr1339 : memoRuns Try.prog qwt1339 100000 60 64 qwa1339 qwb1339 qwv1339 qwc1339 = true := by kernel_rfl
/-- linkboy/wheel.Wheel.tick -/
theorem qwr1345 : memoRuns Try.prog qwt1345 100000 60 64 qwa1345 qwb1345 qwv1345 qwc1345 = true := by kernel_rfl
/-- linkboy/wheel.Wheel.tick -/
theorem qwr1351 : memoRuns Try.prog qwt1351 100000 60 64 qwa1351 qwb1351 qwv1351 qwc1351 = true := by kernel_rfl
/-- linkboy/wheel.Wheel.tick -/
theorem qwr1357 : memoRuns Try.prog qwt1357 100000 60 64 qwa1357 qwb1357 qwv1357 qwc1357 = true := by kernel_rfl
/-- linkboy/wheel.Wheel.tick -/
theorem qwr1364 : memoRuns Try.prog qwt1364 100000 60 64 qwa1364 qwb1364 qwv1364 qwc1364 = true := by kernel_rfl
end Go.Proofs.Ytcbpdjikdohegaa
